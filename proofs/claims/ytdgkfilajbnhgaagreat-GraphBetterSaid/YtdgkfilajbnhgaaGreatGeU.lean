/-
 Contracts of the functions that the law reaches, step by step.
-/
import Derived.Test.YtdgkfilajbnhgaaGreatGeS
namespace Go.Proofs
open Pk
set_option maxRecDepth 10000
theorem GraphBetter_c (x y : Wy) (w : World) : FN Tryz.prog 5 [wyV x, wyV y] w fun e w' => e = .returned (.bool true) ∧ Ext w w' := by
 refine FN_enter Tryz.func5 rfl rfl (by kernel_rfl) ?_
 have hE : Ext w ((w.alloc (.cells #[u64 x.a, i64 x.h, u32 x.n, u32 x.f.fr, u32 x.f.to', u64 x.f.sf, u64 x.f.su, u64 x.f.rate] 50)).alloc (.cells #[u64 y.a, i64 y.h, u32 y.n, u32 y.f.fr, u32 y.f.to', u64 y.f.sf, u64 y.f.su, u64 y.f.rate] 50)) := ((Ext.refl w).alloc _).alloc _
 have hA : Blk ((w.alloc (.cells #[u64 x.a, i64 x.h, u32 x.n, u32 x.f.fr, u32 x.f.to', u64 x.f.sf, u64 x.f.su, u64 x.f.rate] 50)).alloc (.cells #[u64 y.a, i64 y.h, u32 y.n, u32 y.f.fr, u32 y.f.to', u64 y.f.sf, u64 y.f.su, u64 y.f.rate] 50)) w.heap.size (wyC x) := (Blk.new w (wyC x) 50).ext ((Ext.refl _).alloc _)
 have hB : Blk ((w.alloc (.cells #[u64 x.a, i64 x.h, u32 x.n, u32 x.f.fr, u32 x.f.to', u64 x.f.sf, u64 x.f.su, u64 x.f.rate] 50)).alloc (.cells #[u64 y.a, i64 y.h, u32 y.n, u32 y.f.fr, u32 y.f.to', u64 y.f.sf, u64 y.f.su, u64 y.f.rate] 50)) (w.heap.size + 1) (wyC y) := by
  have := Blk.new (w.alloc (.cells #[u64 x.a, i64 x.h, u32 x.n, u32 x.f.fr, u32 x.f.to', u64 x.f.sf, u64 x.f.su, u64 x.f.rate] 50)) (wyC y) 50
  simpa using this
 simp
 generalize ((w.alloc (.cells #[u64 x.a, i64 x.h, u32 x.n, u32 x.f.fr, u32 x.f.to', u64 x.f.sf, u64 x.f.su, u64 x.f.rate] 50)).alloc (.cells #[u64 y.a, i64 y.h, u32 y.n, u32 y.f.fr, u32 y.f.to', u64 y.f.sf, u64 y.f.su, u64 y.f.rate] 50)) = w1 at *
 refine WC_drawC 13 (.F 0 <| .F 1 <| .F 3 <| .F 4 <| .C 2 <| .C 5 <| .F 6 <| .F 7 <| .F 8 <| .F 9 <| .F 11 <| .F 12 <| .C 10 <| .Z) (fun _ => false) rfl (by kernel_rfl) fun W hW => ?_
 have hWE : Ext w1 W := hW ▸ Ext.drew _
 have gA := hA.ext hWE
 have gB := hB.ext hWE
 simp [(gA).cell 0 _ rfl, (gA).cell 1 _ rfl, (gA).cell 2 _ rfl, (gA).cell 3 _ rfl, (gA).cell 4 _ rfl, (gA).cell 5 _ rfl, (gA).cell 6 _ rfl, (gA).cell 7 _ rfl, (gB).cell 0 _ rfl, (gB).cell 1 _ rfl, (gB).cell 2 _ rfl, (gB).cell 3 _ rfl, (gB).cell 4 _ rfl, (gB).cell 5 _ rfl, (gB).cell 6 _ rfl, (gB).cell 7 _ rfl]
 refine FN.mono (better_c x y W) ?_
 rintro _ W2 ⟨rfl, hE2⟩
 simp
 refine KR_ext hE2 ?_
 simp
 refine FN.mono (dbetter_c x y W2) ?_
 rintro _ W3 ⟨rfl, hE3⟩
 have hE13 := hE2.trans hE3
 simp
 refine KR_ext hE3 ?_
 simp [(gA.ext hE13).cell 0 _ rfl, (gA.ext hE13).cell 1 _ rfl, (gA.ext hE13).cell 2 _ rfl, (gA.ext hE13).cell 3 _ rfl, (gA.ext hE13).cell 4 _ rfl, (gA.ext hE13).cell 5 _ rfl, (gA.ext hE13).cell 6 _ rfl, (gA.ext hE13).cell 7 _ rfl, (gB.ext hE13).cell 0 _ rfl, (gB.ext hE13).cell 1 _ rfl, (gB.ext hE13).cell 2 _ rfl, (gB.ext hE13).cell 3 _ rfl, (gB.ext hE13).cell 4 _ rfl, (gB.ext hE13).cell 5 _ rfl, (gB.ext hE13).cell 6 _ rfl, (gB.ext hE13).cell 7 _ rfl]
 refine FN.mono (better_c y x W3) ?_
 rintro _ W4 ⟨rfl, hE4⟩
 simp
 refine KR_ext hE4 ?_
 simp
 refine FN.mono (dbetter_c y x W4) ?_
 rintro _ W5 ⟨rfl, hE5⟩
 simp
 refine FN.mono (works_c W5) ?_
 rintro _ W6 ⟨rfl, hE6⟩
 simp
 exact ((((hE.trans hWE).trans hE13).trans hE4).trans hE5).trans hE6
end Go.Proofs
