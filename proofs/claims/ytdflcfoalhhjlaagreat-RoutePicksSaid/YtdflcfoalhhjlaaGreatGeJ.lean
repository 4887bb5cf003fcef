/-
 Contracts of the functions that the law reaches,step by step.
-/
import Derived.Test.YtdflcfoalhhjlaaGreatGeI
import Derived.Test.YtdflcfoalhhjlaaGreatGrF
namespace Go.Proofs
open Pk
set_option maxRecDepth 10000
theorem dbetter_c (x y : Wy) (w : World) : FN Tryz.prog 63 [wyV x, wyV y] w fun e w' => e = .returned (.bool (decide (wyLt x y))) ∧ Ext w w' := by
 refine FN_enter Tryz.func63 rfl rfl (by kernel_rfl) ?_
 have hE : Ext w ((w.alloc (.cells #[u64 x.a,i64 x.h,u32 x.n,u32 x.f.fr,u32 x.f.to',u64 x.f.sf,u64 x.f.su,u64 x.f.rate] 66)).alloc (.cells #[u64 y.a,i64 y.h,u32 y.n,u32 y.f.fr,u32 y.f.to',u64 y.f.sf,u64 y.f.su,u64 y.f.rate] 66)) := ((Ext.refl w).alloc _).alloc _
 have hA : Blk ((w.alloc (.cells #[u64 x.a,i64 x.h,u32 x.n,u32 x.f.fr,u32 x.f.to',u64 x.f.sf,u64 x.f.su,u64 x.f.rate] 66)).alloc (.cells #[u64 y.a,i64 y.h,u32 y.n,u32 y.f.fr,u32 y.f.to',u64 y.f.sf,u64 y.f.su,u64 y.f.rate] 66)) w.heap.size (wyC x) := (Blk.new w (wyC x) 66).ext ((Ext.refl _).alloc _)
 have hB : Blk ((w.alloc (.cells #[u64 x.a, i64 x.h, u32 x.n, u32 x.f.fr, u32 x.f.to', u64 x.f.sf, u64 x.f.su, u64 x.f.rate] 66)).alloc (.cells #[u64 y.a, i64 y.h, u32 y.n, u32 y.f.fr, u32 y.f.to', u64 y.f.sf, u64 y.f.su, u64 y.f.rate] 66)) (w.heap.size + 1) (wyC y) := by
  have := Blk.new (w.alloc (.cells #[u64 x.a,i64 x.h,u32 x.n,u32 x.f.fr,u32 x.f.to',u64 x.f.sf,u64 x.f.su,u64 x.f.rate] 66)) (wyC y) 66
  simpa using this
 simp
 generalize ((w.alloc (.cells #[u64 x.a,i64 x.h,u32 x.n,u32 x.f.fr,u32 x.f.to',u64 x.f.sf,u64 x.f.su,u64 x.f.rate] 66)).alloc (.cells #[u64 y.a,i64 y.h,u32 y.n,u32 y.f.fr,u32 y.f.to',u64 y.f.sf,u64 y.f.su,u64 y.f.rate] 66)) = w1 at *
 by_cases a0 : x.a = y.a
 ·by_cases a1 : x.h = y.h
  ·by_cases a2 : x.n = y.n
   ·rw [show decide (wyLt x y) = decide (x.f.sf < y.f.sf) from by simp [wyLt,a0,a1,a2]]
    simp [(hA).cell 1 _ rfl,(hA).cell 2 _ rfl,(hA).cell 5 _ rfl,(hB).cell 1 _ rfl,(hB).cell 2 _ rfl,(hB).cell 5 _ rfl,a0,a1,a2]
    exact hE
   ·rw [show decide (wyLt x y) = decide (x.n < y.n) from by simp [wyLt,a0,a1,a2]]
    simp [bne_dec,(hA).cell 1 _ rfl,(hA).cell 2 _ rfl,(hB).cell 1 _ rfl,(hB).cell 2 _ rfl,a0,a1,a2]
    exact hE
  ·rw [show decide (wyLt x y) = decide (x.h < y.h) from by simp [wyLt,a0,a1]]
   simp [bne_dec,(hA).cell 1 _ rfl,(hB).cell 1 _ rfl,a0,a1]
   exact hE
 ·rw [show decide (wyLt x y) = decide (x.a < y.a) from by simp [wyLt,a0]]
  simp [bne_dec,(hA).cell 0 _ rfl,(hB).cell 0 _ rfl,a0]
  exact hE
structure DGr (w : World) (vp vt vl : Value) (L : List Ct) (sl : List St) (ll : List LR) (M : ME) (m : VM) : Prop where
 pl : RPl w vp L
 tb : TRw w vt sl
 lg : RLg w vl ll
 rt : RelT M sl
 rl : RelL m ll
 nd : ∀ q,((sps M q).map (·.1)).Nodup
 bl : L.length ≤ 14
 bt : sl.length ≤ 14
 bb : ll.length ≤ 14
 ok : ∀ c ∈ L,CtOk c
 vm : vmOk m
abbrev dgV (vp vt vl : Value) : Value := .agg #[vp,vt,vl]
end Go.Proofs
namespace Go.Proofs.Gr
variable {L : List Ct} {snt : Ct → Int → Option Int} {F : List Ct} {at0 : Int}
end Go.Proofs.Gr
namespace Go.Proofs
open Pk
set_option maxRecDepth 10000
end Go.Proofs