/-
  Contracts of the functions that the law reaches, step by step.
-/
import Derived.Test.YthamfghcfjhifaaGreatDoorAfA
import Derived.Test.YthamfghcfjhifaaGreatDoorAeV
import Derived.Test.YthamfghcfjhifaaGreatDoorEngV
namespace Go.Proofs
open Pk
set_option maxRecDepth 10000
/-! ### The document's records -/
set_option maxHeartbeats 4000000 in
theorem rbare1_c {r : Rec} (h3 : r.kind = 1) (w : World) : FN Tryz.prog 32 [recV r] w fun e w' => e = .returned (recV (bareR r)) ∧ Ext w w' := by
  refine FN_enter Tryz.func32 rfl rfl (by kernel_rfl) ?_
  simp
  have b1 : Blk (((w.alloc (.cells #[i64 r.kind, u32 r.nn, u32 r.ns, u64 r.nt, u32 r.nq, i64 r.what, i64 r.why, u64 r.at', u64 r.num, u32 r.node, u32 r.reg, .bool r.yes, u64 r.fro, u64 r.til, u8 r.lev] 30)).alloc (.cells #[i64 0, u32 0, u32 0, u64 0, u32 0, i64 0, i64 0, u64 0, u64 0, u32 0, u32 0, .bool false, u64 0, u64 0, u8 0] 30)).alloc (.cells #[i64 r.kind, u32 0, u32 0, u64 0, u32 0, i64 0, i64 0, u64 0, u64 0, u32 0, u32 0, .bool false, u64 0, u64 0, u8 0] 30)) w.heap.size (recC r) := (Blk.new w _ _).ext (((Ext.refl _).alloc _).alloc _)
  have b2 : Blk (((w.alloc (.cells #[i64 r.kind, u32 r.nn, u32 r.ns, u64 r.nt, u32 r.nq, i64 r.what, i64 r.why, u64 r.at', u64 r.num, u32 r.node, u32 r.reg, .bool r.yes, u64 r.fro, u64 r.til, u8 r.lev] 30)).alloc (.cells #[i64 0, u32 0, u32 0, u64 0, u32 0, i64 0, i64 0, u64 0, u64 0, u32 0, u32 0, .bool false, u64 0, u64 0, u8 0] 30)).alloc (.cells #[i64 r.kind, u32 0, u32 0, u64 0, u32 0, i64 0, i64 0, u64 0, u64 0, u32 0, u32 0, .bool false, u64 0, u64 0, u8 0] 30)) (w.heap.size + 1) (recC rec0) := by
    have := (Blk.new (w.alloc (.cells #[i64 r.kind, u32 r.nn, u32 r.ns, u64 r.nt, u32 r.nq, i64 r.what, i64 r.why, u64 r.at', u64 r.num, u32 r.node, u32 r.reg, .bool r.yes, u64 r.fro, u64 r.til, u8 r.lev] 30)) (recC rec0) 30).ext ((Ext.refl _).alloc (.cells #[i64 r.kind, u32 0, u32 0, u64 0, u32 0, i64 0, i64 0, u64 0, u64 0, u32 0, u32 0, .bool false, u64 0, u64 0, u8 0] 30))
    simp only [World.size_alloc] at this; exact this
  have b3 : Blk (((w.alloc (.cells #[i64 r.kind, u32 r.nn, u32 r.ns, u64 r.nt, u32 r.nq, i64 r.what, i64 r.why, u64 r.at', u64 r.num, u32 r.node, u32 r.reg, .bool r.yes, u64 r.fro, u64 r.til, u8 r.lev] 30)).alloc (.cells #[i64 0, u32 0, u32 0, u64 0, u32 0, i64 0, i64 0, u64 0, u64 0, u32 0, u32 0, .bool false, u64 0, u64 0, u8 0] 30)).alloc (.cells #[i64 r.kind, u32 0, u32 0, u64 0, u32 0, i64 0, i64 0, u64 0, u64 0, u32 0, u32 0, .bool false, u64 0, u64 0, u8 0] 30)) (w.heap.size + 1 + 1) (recC { rec0 with kind := r.kind }) := by
    have := Blk.new ((w.alloc (.cells #[i64 r.kind, u32 r.nn, u32 r.ns, u64 r.nt, u32 r.nq, i64 r.what, i64 r.why, u64 r.at', u64 r.num, u32 r.node, u32 r.reg, .bool r.yes, u64 r.fro, u64 r.til, u8 r.lev] 30)).alloc (.cells #[i64 0, u32 0, u32 0, u64 0, u32 0, i64 0, i64 0, u64 0, u64 0, u32 0, u32 0, .bool false, u64 0, u64 0, u8 0] 30)) (recC { rec0 with kind := r.kind }) 30
    simp only [World.size_alloc] at this; exact this
  have hE1 : Ext w (((w.alloc (.cells #[i64 r.kind, u32 r.nn, u32 r.ns, u64 r.nt, u32 r.nq, i64 r.what, i64 r.why, u64 r.at', u64 r.num, u32 r.node, u32 r.reg, .bool r.yes, u64 r.fro, u64 r.til, u8 r.lev] 30)).alloc (.cells #[i64 0, u32 0, u32 0, u64 0, u32 0, i64 0, i64 0, u64 0, u64 0, u32 0, u32 0, .bool false, u64 0, u64 0, u8 0] 30)).alloc (.cells #[i64 r.kind, u32 0, u32 0, u64 0, u32 0, i64 0, i64 0, u64 0, u64 0, u32 0, u32 0, .bool false, u64 0, u64 0, u8 0] 30)) := (((Ext.refl _).alloc _).alloc _).alloc _
  generalize (((w.alloc (.cells #[i64 r.kind, u32 r.nn, u32 r.ns, u64 r.nt, u32 r.nq, i64 r.what, i64 r.why, u64 r.at', u64 r.num, u32 r.node, u32 r.reg, .bool r.yes, u64 r.fro, u64 r.til, u8 r.lev] 30)).alloc (.cells #[i64 0, u32 0, u32 0, u64 0, u32 0, i64 0, i64 0, u64 0, u64 0, u32 0, u32 0, .bool false, u64 0, u64 0, u8 0] 30)).alloc (.cells #[i64 r.kind, u32 0, u32 0, u64 0, u32 0, i64 0, i64 0, u64 0, u64 0, u32 0, u32 0, .bool false, u64 0, u64 0, u8 0] 30)) = w1 at *
  simp [h3]
  refine WC_drawC 14 (.F 0 <| .F 1 <| .F 2 <| .F 3 <| .F 4 <| .F 5 <| .F 6 <| .F 7 <| .F 8 <| .C 9 <| .F 10 <| .C 11 <| .F 12 <| .C 13 <| .Z) (Xf fun k => k = w.heap.size + 1 + 1) rfl (by kernel_rfl) fun W hW => ?_
  have hWE : Ext w1 W := hW ▸ Ext.drew w1
  have c1 := b1.ext hWE
  have c2 := b2.ext hWE
  have c3 := b3.ext hWE
  have X1 : Xf (fun k => k = w.heap.size + 1 + 1) w.heap.size = false := Xf_f (by omega)
  simp [X1, c1.cell 1 _ rfl, c1.cell 2 _ rfl, c1.cell 3 _ rfl, c1.cell 4 _ rfl, c1.cell 5 _ rfl, c1.cell 6 _ rfl, c1.cell 7 _ rfl, c3.thaw, c3.cell 1 _ rfl, c3.cell 2 _ rfl, c3.cell 3 _ rfl, c3.cell 4 _ rfl, cell_setCell]
  refine KR_mk (Xf_agr (((((Mod.refl _ _).setC 1 _).setC 2 _).setC 3 _).setC 4 _)) ?_
  simp [c3.thaw, c3.cell 5 _ rfl, cell_setCell]
  refine KR_mk (Xf_agr ((Mod.refl _ _).setC 5 _)) ?_
  simp [c3.thaw, c3.cell 6 _ rfl, cell_setCell]
  refine KR_mk (Xf_agr ((Mod.refl _ _).setC 6 _)) ?_
  simp [c3.thaw, c2.thaw, cell_setCell, c3.cell 0 _ rfl, c3.cell 1 _ rfl, c3.cell 2 _ rfl, c3.cell 3 _ rfl, c3.cell 4 _ rfl, c3.cell 5 _ rfl, c3.cell 6 _ rfl, c3.cell 7 _ rfl, c3.cell 8 _ rfl, c3.cell 9 _ rfl, c3.cell 10 _ rfl, c3.cell 11 _ rfl, c3.cell 12 _ rfl, c3.cell 13 _ rfl, c3.cell 14 _ rfl, c2.cell 0 _ rfl, c2.cell 1 _ rfl, c2.cell 2 _ rfl, c2.cell 3 _ rfl, c2.cell 4 _ rfl, c2.cell 5 _ rfl, c2.cell 6 _ rfl, c2.cell 7 _ rfl, c2.cell 8 _ rfl, c2.cell 9 _ rfl, c2.cell 10 _ rfl, c2.cell 11 _ rfl, c2.cell 12 _ rfl, c2.cell 13 _ rfl, c2.cell 14 _ rfl]
  refine ⟨by simp [bareR, h3, repB, rec0], Mod.ext (S := fun k => w.heap.size ≤ k) ?_ fun _ h => h⟩
  iterate 22 refine Mod.setCell ?_ _ _ (.inl (by simp only; omega))
  exact (hE1.trans hWE).mod
set_option maxHeartbeats 4000000 in
theorem rbare2_c {r : Rec} (h3 : r.kind = 2) (w : World) : FN Tryz.prog 32 [recV r] w fun e w' => e = .returned (recV (bareR r)) ∧ Ext w w' := by
  refine FN_enter Tryz.func32 rfl rfl (by kernel_rfl) ?_
  simp
  have b1 : Blk (((w.alloc (.cells #[i64 r.kind, u32 r.nn, u32 r.ns, u64 r.nt, u32 r.nq, i64 r.what, i64 r.why, u64 r.at', u64 r.num, u32 r.node, u32 r.reg, .bool r.yes, u64 r.fro, u64 r.til, u8 r.lev] 30)).alloc (.cells #[i64 0, u32 0, u32 0, u64 0, u32 0, i64 0, i64 0, u64 0, u64 0, u32 0, u32 0, .bool false, u64 0, u64 0, u8 0] 30)).alloc (.cells #[i64 r.kind, u32 0, u32 0, u64 0, u32 0, i64 0, i64 0, u64 0, u64 0, u32 0, u32 0, .bool false, u64 0, u64 0, u8 0] 30)) w.heap.size (recC r) := (Blk.new w _ _).ext (((Ext.refl _).alloc _).alloc _)
  have b2 : Blk (((w.alloc (.cells #[i64 r.kind, u32 r.nn, u32 r.ns, u64 r.nt, u32 r.nq, i64 r.what, i64 r.why, u64 r.at', u64 r.num, u32 r.node, u32 r.reg, .bool r.yes, u64 r.fro, u64 r.til, u8 r.lev] 30)).alloc (.cells #[i64 0, u32 0, u32 0, u64 0, u32 0, i64 0, i64 0, u64 0, u64 0, u32 0, u32 0, .bool false, u64 0, u64 0, u8 0] 30)).alloc (.cells #[i64 r.kind, u32 0, u32 0, u64 0, u32 0, i64 0, i64 0, u64 0, u64 0, u32 0, u32 0, .bool false, u64 0, u64 0, u8 0] 30)) (w.heap.size + 1) (recC rec0) := by
    have := (Blk.new (w.alloc (.cells #[i64 r.kind, u32 r.nn, u32 r.ns, u64 r.nt, u32 r.nq, i64 r.what, i64 r.why, u64 r.at', u64 r.num, u32 r.node, u32 r.reg, .bool r.yes, u64 r.fro, u64 r.til, u8 r.lev] 30)) (recC rec0) 30).ext ((Ext.refl _).alloc (.cells #[i64 r.kind, u32 0, u32 0, u64 0, u32 0, i64 0, i64 0, u64 0, u64 0, u32 0, u32 0, .bool false, u64 0, u64 0, u8 0] 30))
    simp only [World.size_alloc] at this; exact this
  have b3 : Blk (((w.alloc (.cells #[i64 r.kind, u32 r.nn, u32 r.ns, u64 r.nt, u32 r.nq, i64 r.what, i64 r.why, u64 r.at', u64 r.num, u32 r.node, u32 r.reg, .bool r.yes, u64 r.fro, u64 r.til, u8 r.lev] 30)).alloc (.cells #[i64 0, u32 0, u32 0, u64 0, u32 0, i64 0, i64 0, u64 0, u64 0, u32 0, u32 0, .bool false, u64 0, u64 0, u8 0] 30)).alloc (.cells #[i64 r.kind, u32 0, u32 0, u64 0, u32 0, i64 0, i64 0, u64 0, u64 0, u32 0, u32 0, .bool false, u64 0, u64 0, u8 0] 30)) (w.heap.size + 1 + 1) (recC { rec0 with kind := r.kind }) := by
    have := Blk.new ((w.alloc (.cells #[i64 r.kind, u32 r.nn, u32 r.ns, u64 r.nt, u32 r.nq, i64 r.what, i64 r.why, u64 r.at', u64 r.num, u32 r.node, u32 r.reg, .bool r.yes, u64 r.fro, u64 r.til, u8 r.lev] 30)).alloc (.cells #[i64 0, u32 0, u32 0, u64 0, u32 0, i64 0, i64 0, u64 0, u64 0, u32 0, u32 0, .bool false, u64 0, u64 0, u8 0] 30)) (recC { rec0 with kind := r.kind }) 30
    simp only [World.size_alloc] at this; exact this
  have hE1 : Ext w (((w.alloc (.cells #[i64 r.kind, u32 r.nn, u32 r.ns, u64 r.nt, u32 r.nq, i64 r.what, i64 r.why, u64 r.at', u64 r.num, u32 r.node, u32 r.reg, .bool r.yes, u64 r.fro, u64 r.til, u8 r.lev] 30)).alloc (.cells #[i64 0, u32 0, u32 0, u64 0, u32 0, i64 0, i64 0, u64 0, u64 0, u32 0, u32 0, .bool false, u64 0, u64 0, u8 0] 30)).alloc (.cells #[i64 r.kind, u32 0, u32 0, u64 0, u32 0, i64 0, i64 0, u64 0, u64 0, u32 0, u32 0, .bool false, u64 0, u64 0, u8 0] 30)) := (((Ext.refl _).alloc _).alloc _).alloc _
  generalize (((w.alloc (.cells #[i64 r.kind, u32 r.nn, u32 r.ns, u64 r.nt, u32 r.nq, i64 r.what, i64 r.why, u64 r.at', u64 r.num, u32 r.node, u32 r.reg, .bool r.yes, u64 r.fro, u64 r.til, u8 r.lev] 30)).alloc (.cells #[i64 0, u32 0, u32 0, u64 0, u32 0, i64 0, i64 0, u64 0, u64 0, u32 0, u32 0, .bool false, u64 0, u64 0, u8 0] 30)).alloc (.cells #[i64 r.kind, u32 0, u32 0, u64 0, u32 0, i64 0, i64 0, u64 0, u64 0, u32 0, u32 0, .bool false, u64 0, u64 0, u8 0] 30)) = w1 at *
  simp [beq_dec, h3]
  refine WC_drawC 10 (.F 0 <| .F 1 <| .F 2 <| .F 3 <| .F 4 <| .F 5 <| .F 6 <| .C 7 <| .F 8 <| .C 9 <| .Z) (Xf fun k => k = w.heap.size + 1 + 1) rfl (by kernel_rfl) fun W hW => ?_
  have hWE : Ext w1 W := hW ▸ Ext.drew w1
  have c1 := b1.ext hWE
  have c2 := b2.ext hWE
  have c3 := b3.ext hWE
  have X1 : Xf (fun k => k = w.heap.size + 1 + 1) w.heap.size = false := Xf_f (by omega)
  simp [X1, c1.cell 8 _ rfl, c1.cell 9 _ rfl, c1.cell 10 _ rfl, c3.thaw, c3.cell 8 _ rfl]
  refine KR_mk (Xf_agr ((Mod.refl _ _).setC 8 _)) ?_
  simp [c3.thaw, c3.cell 9 _ rfl, cell_setCell]
  refine KR_mk (Xf_agr ((Mod.refl _ _).setC 9 _)) ?_
  simp [c3.thaw, c2.thaw, cell_setCell, c3.cell 0 _ rfl, c3.cell 1 _ rfl, c3.cell 2 _ rfl, c3.cell 3 _ rfl, c3.cell 4 _ rfl, c3.cell 5 _ rfl, c3.cell 6 _ rfl, c3.cell 7 _ rfl, c3.cell 8 _ rfl, c3.cell 9 _ rfl, c3.cell 10 _ rfl, c3.cell 11 _ rfl, c3.cell 12 _ rfl, c3.cell 13 _ rfl, c3.cell 14 _ rfl, c2.cell 0 _ rfl, c2.cell 1 _ rfl, c2.cell 2 _ rfl, c2.cell 3 _ rfl, c2.cell 4 _ rfl, c2.cell 5 _ rfl, c2.cell 6 _ rfl, c2.cell 7 _ rfl, c2.cell 8 _ rfl, c2.cell 9 _ rfl, c2.cell 10 _ rfl, c2.cell 11 _ rfl, c2.cell 12 _ rfl, c2.cell 13 _ rfl, c2.cell 14 _ rfl]
  refine ⟨by simp [bareR, h3, askBr, rec0], Mod.ext (S := fun k => w.heap.size ≤ k) ?_ fun _ h => h⟩
  iterate 18 refine Mod.setCell ?_ _ _ (.inl (by simp only; omega))
  exact (hE1.trans hWE).mod
set_option maxHeartbeats 4000000 in
theorem rbare3_c {r : Rec} (h3 : r.kind = 3) (w : World) : FN Tryz.prog 32 [recV r] w fun e w' => e = .returned (recV (bareR r)) ∧ Ext w w' := by
  refine FN_enter Tryz.func32 rfl rfl (by kernel_rfl) ?_
  simp
  have b1 : Blk (((w.alloc (.cells #[i64 r.kind, u32 r.nn, u32 r.ns, u64 r.nt, u32 r.nq, i64 r.what, i64 r.why, u64 r.at', u64 r.num, u32 r.node, u32 r.reg, .bool r.yes, u64 r.fro, u64 r.til, u8 r.lev] 30)).alloc (.cells #[i64 0, u32 0, u32 0, u64 0, u32 0, i64 0, i64 0, u64 0, u64 0, u32 0, u32 0, .bool false, u64 0, u64 0, u8 0] 30)).alloc (.cells #[i64 r.kind, u32 0, u32 0, u64 0, u32 0, i64 0, i64 0, u64 0, u64 0, u32 0, u32 0, .bool false, u64 0, u64 0, u8 0] 30)) w.heap.size (recC r) := (Blk.new w _ _).ext (((Ext.refl _).alloc _).alloc _)
  have b2 : Blk (((w.alloc (.cells #[i64 r.kind, u32 r.nn, u32 r.ns, u64 r.nt, u32 r.nq, i64 r.what, i64 r.why, u64 r.at', u64 r.num, u32 r.node, u32 r.reg, .bool r.yes, u64 r.fro, u64 r.til, u8 r.lev] 30)).alloc (.cells #[i64 0, u32 0, u32 0, u64 0, u32 0, i64 0, i64 0, u64 0, u64 0, u32 0, u32 0, .bool false, u64 0, u64 0, u8 0] 30)).alloc (.cells #[i64 r.kind, u32 0, u32 0, u64 0, u32 0, i64 0, i64 0, u64 0, u64 0, u32 0, u32 0, .bool false, u64 0, u64 0, u8 0] 30)) (w.heap.size + 1) (recC rec0) := by
    have := (Blk.new (w.alloc (.cells #[i64 r.kind, u32 r.nn, u32 r.ns, u64 r.nt, u32 r.nq, i64 r.what, i64 r.why, u64 r.at', u64 r.num, u32 r.node, u32 r.reg, .bool r.yes, u64 r.fro, u64 r.til, u8 r.lev] 30)) (recC rec0) 30).ext ((Ext.refl _).alloc (.cells #[i64 r.kind, u32 0, u32 0, u64 0, u32 0, i64 0, i64 0, u64 0, u64 0, u32 0, u32 0, .bool false, u64 0, u64 0, u8 0] 30))
    simp only [World.size_alloc] at this; exact this
  have b3 : Blk (((w.alloc (.cells #[i64 r.kind, u32 r.nn, u32 r.ns, u64 r.nt, u32 r.nq, i64 r.what, i64 r.why, u64 r.at', u64 r.num, u32 r.node, u32 r.reg, .bool r.yes, u64 r.fro, u64 r.til, u8 r.lev] 30)).alloc (.cells #[i64 0, u32 0, u32 0, u64 0, u32 0, i64 0, i64 0, u64 0, u64 0, u32 0, u32 0, .bool false, u64 0, u64 0, u8 0] 30)).alloc (.cells #[i64 r.kind, u32 0, u32 0, u64 0, u32 0, i64 0, i64 0, u64 0, u64 0, u32 0, u32 0, .bool false, u64 0, u64 0, u8 0] 30)) (w.heap.size + 1 + 1) (recC { rec0 with kind := r.kind }) := by
    have := Blk.new ((w.alloc (.cells #[i64 r.kind, u32 r.nn, u32 r.ns, u64 r.nt, u32 r.nq, i64 r.what, i64 r.why, u64 r.at', u64 r.num, u32 r.node, u32 r.reg, .bool r.yes, u64 r.fro, u64 r.til, u8 r.lev] 30)).alloc (.cells #[i64 0, u32 0, u32 0, u64 0, u32 0, i64 0, i64 0, u64 0, u64 0, u32 0, u32 0, .bool false, u64 0, u64 0, u8 0] 30)) (recC { rec0 with kind := r.kind }) 30
    simp only [World.size_alloc] at this; exact this
  have hE1 : Ext w (((w.alloc (.cells #[i64 r.kind, u32 r.nn, u32 r.ns, u64 r.nt, u32 r.nq, i64 r.what, i64 r.why, u64 r.at', u64 r.num, u32 r.node, u32 r.reg, .bool r.yes, u64 r.fro, u64 r.til, u8 r.lev] 30)).alloc (.cells #[i64 0, u32 0, u32 0, u64 0, u32 0, i64 0, i64 0, u64 0, u64 0, u32 0, u32 0, .bool false, u64 0, u64 0, u8 0] 30)).alloc (.cells #[i64 r.kind, u32 0, u32 0, u64 0, u32 0, i64 0, i64 0, u64 0, u64 0, u32 0, u32 0, .bool false, u64 0, u64 0, u8 0] 30)) := (((Ext.refl _).alloc _).alloc _).alloc _
  generalize (((w.alloc (.cells #[i64 r.kind, u32 r.nn, u32 r.ns, u64 r.nt, u32 r.nq, i64 r.what, i64 r.why, u64 r.at', u64 r.num, u32 r.node, u32 r.reg, .bool r.yes, u64 r.fro, u64 r.til, u8 r.lev] 30)).alloc (.cells #[i64 0, u32 0, u32 0, u64 0, u32 0, i64 0, i64 0, u64 0, u64 0, u32 0, u32 0, .bool false, u64 0, u64 0, u8 0] 30)).alloc (.cells #[i64 r.kind, u32 0, u32 0, u64 0, u32 0, i64 0, i64 0, u64 0, u64 0, u32 0, u32 0, .bool false, u64 0, u64 0, u8 0] 30)) = w1 at *
  simp [beq_dec, h3]
  refine WC_drawC 18 (.F 0 <| .F 1 <| .F 2 <| .F 3 <| .F 4 <| .F 5 <| .F 6 <| .F 7 <| .F 8 <| .F 9 <| .F 10 <| .C 11 <| .F 12 <| .C 13 <| .F 14 <| .C 15 <| .F 16 <| .C 17 <| .Z) (Xf fun k => k = w.heap.size + 1 + 1) rfl (by kernel_rfl) fun W hW => ?_
  have hWE : Ext w1 W := hW ▸ Ext.drew w1
  have c1 := b1.ext hWE
  have c2 := b2.ext hWE
  have c3 := b3.ext hWE
  have X1 : Xf (fun k => k = w.heap.size + 1 + 1) w.heap.size = false := Xf_f (by omega)
  simp [X1, c1.cell 8 _ rfl, c1.cell 9 _ rfl, c1.cell 10 _ rfl, c1.cell 11 _ rfl, c1.cell 13 _ rfl, c3.thaw, c3.cell 8 _ rfl]
  refine KR_mk (Xf_agr ((Mod.refl _ _).setC 8 _)) ?_
  simp [c3.thaw, c3.cell 9 _ rfl, cell_setCell]
  refine KR_mk (Xf_agr ((Mod.refl _ _).setC 9 _)) ?_
  simp [c3.thaw, c3.cell 10 _ rfl, cell_setCell]
  refine KR_mk (Xf_agr ((Mod.refl _ _).setC 10 _)) ?_
  simp [c3.thaw, c3.cell 11 _ rfl, cell_setCell]
  refine KR_mk (Xf_agr ((Mod.refl _ _).setC 11 _)) ?_
  simp [c3.thaw, c2.thaw, cell_setCell, c3.cell 0 _ rfl, c3.cell 1 _ rfl, c3.cell 2 _ rfl, c3.cell 3 _ rfl, c3.cell 4 _ rfl, c3.cell 5 _ rfl, c3.cell 6 _ rfl, c3.cell 7 _ rfl, c3.cell 8 _ rfl, c3.cell 9 _ rfl, c3.cell 10 _ rfl, c3.cell 11 _ rfl, c3.cell 12 _ rfl, c3.cell 13 _ rfl, c3.cell 14 _ rfl, c2.cell 0 _ rfl, c2.cell 1 _ rfl, c2.cell 2 _ rfl, c2.cell 3 _ rfl, c2.cell 4 _ rfl, c2.cell 5 _ rfl, c2.cell 6 _ rfl, c2.cell 7 _ rfl, c2.cell 8 _ rfl, c2.cell 9 _ rfl, c2.cell 10 _ rfl, c2.cell 11 _ rfl, c2.cell 12 _ rfl, c2.cell 13 _ rfl, c2.cell 14 _ rfl]
  refine ⟨by simp [bareR, h3, tellB, rec0], Mod.ext (S := fun k => w.heap.size ≤ k) ?_ fun _ h => h⟩
  iterate 20 refine Mod.setCell ?_ _ _ (.inl (by simp only; omega))
  exact (hE1.trans hWE).mod
set_option maxHeartbeats 4000000 in
theorem rbare4_c {r : Rec} (h3 : r.kind = 4) (w : World) : FN Tryz.prog 32 [recV r] w fun e w' => e = .returned (recV (bareR r)) ∧ Ext w w' := by
  refine FN_enter Tryz.func32 rfl rfl (by kernel_rfl) ?_
  simp
  have b1 : Blk (((w.alloc (.cells #[i64 r.kind, u32 r.nn, u32 r.ns, u64 r.nt, u32 r.nq, i64 r.what, i64 r.why, u64 r.at', u64 r.num, u32 r.node, u32 r.reg, .bool r.yes, u64 r.fro, u64 r.til, u8 r.lev] 30)).alloc (.cells #[i64 0, u32 0, u32 0, u64 0, u32 0, i64 0, i64 0, u64 0, u64 0, u32 0, u32 0, .bool false, u64 0, u64 0, u8 0] 30)).alloc (.cells #[i64 r.kind, u32 0, u32 0, u64 0, u32 0, i64 0, i64 0, u64 0, u64 0, u32 0, u32 0, .bool false, u64 0, u64 0, u8 0] 30)) w.heap.size (recC r) := (Blk.new w _ _).ext (((Ext.refl _).alloc _).alloc _)
  have b2 : Blk (((w.alloc (.cells #[i64 r.kind, u32 r.nn, u32 r.ns, u64 r.nt, u32 r.nq, i64 r.what, i64 r.why, u64 r.at', u64 r.num, u32 r.node, u32 r.reg, .bool r.yes, u64 r.fro, u64 r.til, u8 r.lev] 30)).alloc (.cells #[i64 0, u32 0, u32 0, u64 0, u32 0, i64 0, i64 0, u64 0, u64 0, u32 0, u32 0, .bool false, u64 0, u64 0, u8 0] 30)).alloc (.cells #[i64 r.kind, u32 0, u32 0, u64 0, u32 0, i64 0, i64 0, u64 0, u64 0, u32 0, u32 0, .bool false, u64 0, u64 0, u8 0] 30)) (w.heap.size + 1) (recC rec0) := by
    have := (Blk.new (w.alloc (.cells #[i64 r.kind, u32 r.nn, u32 r.ns, u64 r.nt, u32 r.nq, i64 r.what, i64 r.why, u64 r.at', u64 r.num, u32 r.node, u32 r.reg, .bool r.yes, u64 r.fro, u64 r.til, u8 r.lev] 30)) (recC rec0) 30).ext ((Ext.refl _).alloc (.cells #[i64 r.kind, u32 0, u32 0, u64 0, u32 0, i64 0, i64 0, u64 0, u64 0, u32 0, u32 0, .bool false, u64 0, u64 0, u8 0] 30))
    simp only [World.size_alloc] at this; exact this
  have b3 : Blk (((w.alloc (.cells #[i64 r.kind, u32 r.nn, u32 r.ns, u64 r.nt, u32 r.nq, i64 r.what, i64 r.why, u64 r.at', u64 r.num, u32 r.node, u32 r.reg, .bool r.yes, u64 r.fro, u64 r.til, u8 r.lev] 30)).alloc (.cells #[i64 0, u32 0, u32 0, u64 0, u32 0, i64 0, i64 0, u64 0, u64 0, u32 0, u32 0, .bool false, u64 0, u64 0, u8 0] 30)).alloc (.cells #[i64 r.kind, u32 0, u32 0, u64 0, u32 0, i64 0, i64 0, u64 0, u64 0, u32 0, u32 0, .bool false, u64 0, u64 0, u8 0] 30)) (w.heap.size + 1 + 1) (recC { rec0 with kind := r.kind }) := by
    have := Blk.new ((w.alloc (.cells #[i64 r.kind, u32 r.nn, u32 r.ns, u64 r.nt, u32 r.nq, i64 r.what, i64 r.why, u64 r.at', u64 r.num, u32 r.node, u32 r.reg, .bool r.yes, u64 r.fro, u64 r.til, u8 r.lev] 30)).alloc (.cells #[i64 0, u32 0, u32 0, u64 0, u32 0, i64 0, i64 0, u64 0, u64 0, u32 0, u32 0, .bool false, u64 0, u64 0, u8 0] 30)) (recC { rec0 with kind := r.kind }) 30
    simp only [World.size_alloc] at this; exact this
  have hE1 : Ext w (((w.alloc (.cells #[i64 r.kind, u32 r.nn, u32 r.ns, u64 r.nt, u32 r.nq, i64 r.what, i64 r.why, u64 r.at', u64 r.num, u32 r.node, u32 r.reg, .bool r.yes, u64 r.fro, u64 r.til, u8 r.lev] 30)).alloc (.cells #[i64 0, u32 0, u32 0, u64 0, u32 0, i64 0, i64 0, u64 0, u64 0, u32 0, u32 0, .bool false, u64 0, u64 0, u8 0] 30)).alloc (.cells #[i64 r.kind, u32 0, u32 0, u64 0, u32 0, i64 0, i64 0, u64 0, u64 0, u32 0, u32 0, .bool false, u64 0, u64 0, u8 0] 30)) := (((Ext.refl _).alloc _).alloc _).alloc _
  generalize (((w.alloc (.cells #[i64 r.kind, u32 r.nn, u32 r.ns, u64 r.nt, u32 r.nq, i64 r.what, i64 r.why, u64 r.at', u64 r.num, u32 r.node, u32 r.reg, .bool r.yes, u64 r.fro, u64 r.til, u8 r.lev] 30)).alloc (.cells #[i64 0, u32 0, u32 0, u64 0, u32 0, i64 0, i64 0, u64 0, u64 0, u32 0, u32 0, .bool false, u64 0, u64 0, u8 0] 30)).alloc (.cells #[i64 r.kind, u32 0, u32 0, u64 0, u32 0, i64 0, i64 0, u64 0, u64 0, u32 0, u32 0, .bool false, u64 0, u64 0, u8 0] 30)) = w1 at *
  simp [beq_dec, h3]
  refine WC_drawC 14 (.F 0 <| .F 1 <| .F 2 <| .F 3 <| .F 4 <| .F 5 <| .F 6 <| .F 7 <| .F 8 <| .C 9 <| .F 10 <| .C 11 <| .F 12 <| .C 13 <| .Z) (Xf fun k => k = w.heap.size + 1 + 1) rfl (by kernel_rfl) fun W hW => ?_
  have hWE : Ext w1 W := hW ▸ Ext.drew w1
  have c1 := b1.ext hWE
  have c2 := b2.ext hWE
  have c3 := b3.ext hWE
  have X1 : Xf (fun k => k = w.heap.size + 1 + 1) w.heap.size = false := Xf_f (by omega)
  simp [X1, c1.cell 9 _ rfl, c1.cell 12 _ rfl, c1.cell 13 _ rfl, c1.cell 14 _ rfl, c3.thaw, c3.cell 9 _ rfl]
  refine KR_mk (Xf_agr ((Mod.refl _ _).setC 9 _)) ?_
  simp [c3.thaw, c3.cell 12 _ rfl, cell_setCell]
  refine KR_mk (Xf_agr ((Mod.refl _ _).setC 12 _)) ?_
  simp [c3.thaw, c3.cell 13 _ rfl, cell_setCell]
  refine KR_mk (Xf_agr ((Mod.refl _ _).setC 13 _)) ?_
  simp [c3.thaw, c2.thaw, cell_setCell, c3.cell 0 _ rfl, c3.cell 1 _ rfl, c3.cell 2 _ rfl, c3.cell 3 _ rfl, c3.cell 4 _ rfl, c3.cell 5 _ rfl, c3.cell 6 _ rfl, c3.cell 7 _ rfl, c3.cell 8 _ rfl, c3.cell 9 _ rfl, c3.cell 10 _ rfl, c3.cell 11 _ rfl, c3.cell 12 _ rfl, c3.cell 13 _ rfl, c3.cell 14 _ rfl, c2.cell 0 _ rfl, c2.cell 1 _ rfl, c2.cell 2 _ rfl, c2.cell 3 _ rfl, c2.cell 4 _ rfl, c2.cell 5 _ rfl, c2.cell 6 _ rfl, c2.cell 7 _ rfl, c2.cell 8 _ rfl, c2.cell 9 _ rfl, c2.cell 10 _ rfl, c2.cell 11 _ rfl, c2.cell 12 _ rfl, c2.cell 13 _ rfl, c2.cell 14 _ rfl]
  refine ⟨by simp [bareR, h3, foreB, rec0], Mod.ext (S := fun k => w.heap.size ≤ k) ?_ fun _ h => h⟩
  iterate 19 refine Mod.setCell ?_ _ _ (.inl (by simp only; omega))
  exact (hE1.trans hWE).mod
set_option maxHeartbeats 4000000 in
theorem rbare5_c {r : Rec} (h3 : r.kind = 5) (w : World) : FN Tryz.prog 32 [recV r] w fun e w' => e = .returned (recV (bareR r)) ∧ Ext w w' := by
  refine FN_enter Tryz.func32 rfl rfl (by kernel_rfl) ?_
  simp
  have b1 : Blk (((w.alloc (.cells #[i64 r.kind, u32 r.nn, u32 r.ns, u64 r.nt, u32 r.nq, i64 r.what, i64 r.why, u64 r.at', u64 r.num, u32 r.node, u32 r.reg, .bool r.yes, u64 r.fro, u64 r.til, u8 r.lev] 30)).alloc (.cells #[i64 0, u32 0, u32 0, u64 0, u32 0, i64 0, i64 0, u64 0, u64 0, u32 0, u32 0, .bool false, u64 0, u64 0, u8 0] 30)).alloc (.cells #[i64 r.kind, u32 0, u32 0, u64 0, u32 0, i64 0, i64 0, u64 0, u64 0, u32 0, u32 0, .bool false, u64 0, u64 0, u8 0] 30)) w.heap.size (recC r) := (Blk.new w _ _).ext (((Ext.refl _).alloc _).alloc _)
  have b2 : Blk (((w.alloc (.cells #[i64 r.kind, u32 r.nn, u32 r.ns, u64 r.nt, u32 r.nq, i64 r.what, i64 r.why, u64 r.at', u64 r.num, u32 r.node, u32 r.reg, .bool r.yes, u64 r.fro, u64 r.til, u8 r.lev] 30)).alloc (.cells #[i64 0, u32 0, u32 0, u64 0, u32 0, i64 0, i64 0, u64 0, u64 0, u32 0, u32 0, .bool false, u64 0, u64 0, u8 0] 30)).alloc (.cells #[i64 r.kind, u32 0, u32 0, u64 0, u32 0, i64 0, i64 0, u64 0, u64 0, u32 0, u32 0, .bool false, u64 0, u64 0, u8 0] 30)) (w.heap.size + 1) (recC rec0) := by
    have := (Blk.new (w.alloc (.cells #[i64 r.kind, u32 r.nn, u32 r.ns, u64 r.nt, u32 r.nq, i64 r.what, i64 r.why, u64 r.at', u64 r.num, u32 r.node, u32 r.reg, .bool r.yes, u64 r.fro, u64 r.til, u8 r.lev] 30)) (recC rec0) 30).ext ((Ext.refl _).alloc (.cells #[i64 r.kind, u32 0, u32 0, u64 0, u32 0, i64 0, i64 0, u64 0, u64 0, u32 0, u32 0, .bool false, u64 0, u64 0, u8 0] 30))
    simp only [World.size_alloc] at this; exact this
  have b3 : Blk (((w.alloc (.cells #[i64 r.kind, u32 r.nn, u32 r.ns, u64 r.nt, u32 r.nq, i64 r.what, i64 r.why, u64 r.at', u64 r.num, u32 r.node, u32 r.reg, .bool r.yes, u64 r.fro, u64 r.til, u8 r.lev] 30)).alloc (.cells #[i64 0, u32 0, u32 0, u64 0, u32 0, i64 0, i64 0, u64 0, u64 0, u32 0, u32 0, .bool false, u64 0, u64 0, u8 0] 30)).alloc (.cells #[i64 r.kind, u32 0, u32 0, u64 0, u32 0, i64 0, i64 0, u64 0, u64 0, u32 0, u32 0, .bool false, u64 0, u64 0, u8 0] 30)) (w.heap.size + 1 + 1) (recC { rec0 with kind := r.kind }) := by
    have := Blk.new ((w.alloc (.cells #[i64 r.kind, u32 r.nn, u32 r.ns, u64 r.nt, u32 r.nq, i64 r.what, i64 r.why, u64 r.at', u64 r.num, u32 r.node, u32 r.reg, .bool r.yes, u64 r.fro, u64 r.til, u8 r.lev] 30)).alloc (.cells #[i64 0, u32 0, u32 0, u64 0, u32 0, i64 0, i64 0, u64 0, u64 0, u32 0, u32 0, .bool false, u64 0, u64 0, u8 0] 30)) (recC { rec0 with kind := r.kind }) 30
    simp only [World.size_alloc] at this; exact this
  have hE1 : Ext w (((w.alloc (.cells #[i64 r.kind, u32 r.nn, u32 r.ns, u64 r.nt, u32 r.nq, i64 r.what, i64 r.why, u64 r.at', u64 r.num, u32 r.node, u32 r.reg, .bool r.yes, u64 r.fro, u64 r.til, u8 r.lev] 30)).alloc (.cells #[i64 0, u32 0, u32 0, u64 0, u32 0, i64 0, i64 0, u64 0, u64 0, u32 0, u32 0, .bool false, u64 0, u64 0, u8 0] 30)).alloc (.cells #[i64 r.kind, u32 0, u32 0, u64 0, u32 0, i64 0, i64 0, u64 0, u64 0, u32 0, u32 0, .bool false, u64 0, u64 0, u8 0] 30)) := (((Ext.refl _).alloc _).alloc _).alloc _
  generalize (((w.alloc (.cells #[i64 r.kind, u32 r.nn, u32 r.ns, u64 r.nt, u32 r.nq, i64 r.what, i64 r.why, u64 r.at', u64 r.num, u32 r.node, u32 r.reg, .bool r.yes, u64 r.fro, u64 r.til, u8 r.lev] 30)).alloc (.cells #[i64 0, u32 0, u32 0, u64 0, u32 0, i64 0, i64 0, u64 0, u64 0, u32 0, u32 0, .bool false, u64 0, u64 0, u8 0] 30)).alloc (.cells #[i64 r.kind, u32 0, u32 0, u64 0, u32 0, i64 0, i64 0, u64 0, u64 0, u32 0, u32 0, .bool false, u64 0, u64 0, u8 0] 30)) = w1 at *
  simp [beq_dec, h3]
  refine WC_drawC 14 (.F 0 <| .F 1 <| .F 2 <| .F 3 <| .F 4 <| .F 5 <| .F 6 <| .F 7 <| .F 8 <| .C 9 <| .F 10 <| .C 11 <| .F 12 <| .C 13 <| .Z) (Xf fun k => k = w.heap.size + 1 + 1) rfl (by kernel_rfl) fun W hW => ?_
  have hWE : Ext w1 W := hW ▸ Ext.drew w1
  have c1 := b1.ext hWE
  have c2 := b2.ext hWE
  have c3 := b3.ext hWE
  have X1 : Xf (fun k => k = w.heap.size + 1 + 1) w.heap.size = false := Xf_f (by omega)
  simp [X1, c1.cell 8 _ rfl, c1.cell 9 _ rfl, c1.cell 10 _ rfl, c1.cell 11 _ rfl, c3.thaw, c3.cell 9 _ rfl]
  refine KR_mk (Xf_agr ((Mod.refl _ _).setC 9 _)) ?_
  simp [c3.thaw, c3.cell 10 _ rfl, cell_setCell]
  refine KR_mk (Xf_agr ((Mod.refl _ _).setC 10 _)) ?_
  simp [c3.thaw, c3.cell 8 _ rfl, cell_setCell]
  refine KR_mk (Xf_agr ((Mod.refl _ _).setC 8 _)) ?_
  simp [c3.thaw, c2.thaw, cell_setCell, c3.cell 0 _ rfl, c3.cell 1 _ rfl, c3.cell 2 _ rfl, c3.cell 3 _ rfl, c3.cell 4 _ rfl, c3.cell 5 _ rfl, c3.cell 6 _ rfl, c3.cell 7 _ rfl, c3.cell 8 _ rfl, c3.cell 9 _ rfl, c3.cell 10 _ rfl, c3.cell 11 _ rfl, c3.cell 12 _ rfl, c3.cell 13 _ rfl, c3.cell 14 _ rfl, c2.cell 0 _ rfl, c2.cell 1 _ rfl, c2.cell 2 _ rfl, c2.cell 3 _ rfl, c2.cell 4 _ rfl, c2.cell 5 _ rfl, c2.cell 6 _ rfl, c2.cell 7 _ rfl, c2.cell 8 _ rfl, c2.cell 9 _ rfl, c2.cell 10 _ rfl, c2.cell 11 _ rfl, c2.cell 12 _ rfl, c2.cell 13 _ rfl, c2.cell 14 _ rfl]
  refine ⟨by simp [bareR, h3, memB, rec0], Mod.ext (S := fun k => w.heap.size ≤ k) ?_ fun _ h => h⟩
  iterate 19 refine Mod.setCell ?_ _ _ (.inl (by simp only; omega))
  exact (hE1.trans hWE).mod
theorem rbare_c {r : Rec} (hk : 1 ≤ r.kind ∧ r.kind ≤ 5) (w : World) : FN Tryz.prog 32 [recV r] w fun e w' => e = .returned (recV (bareR r)) ∧ Ext w w' := by
  have hcase : r.kind = 1 ∨ r.kind = 2 ∨ r.kind = 3 ∨ r.kind = 4 ∨ r.kind = 5 := by omega
  rcases hcase with h3 | h3 | h3 | h3 | h3
  · exact rbare1_c h3 w
  · exact rbare2_c h3 w
  · exact rbare3_c h3 w
  · exact rbare4_c h3 w
  · exact rbare5_c h3 w
end Go.Proofs
