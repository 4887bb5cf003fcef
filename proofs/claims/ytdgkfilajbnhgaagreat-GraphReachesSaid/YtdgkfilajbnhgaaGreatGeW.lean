/-
 Contracts of the functions that the law reaches,step by step.
-/
import Derived.Test.YtdgkfilajbnhgaaGreatGeU
namespace Go.Proofs
open Pk
set_option maxRecDepth 10000
def fewB (a b c:Nat) (n:Int):Bool:=decide ((a:Int)≤n) && (decide ((b:Int)≤n) && decide ((c:Int)≤n))
theorem few_c {w:World} {vP vS vB:Value} {a b c:Nat} (h1:∃ x k,vP=.slice x a k) (h2:∃ x k,vS=.slice x b k) (h3:∃ x k,vB=.slice x c k) (n:Int) :
  FN Tryz.prog 7 [seV vP vS vB,i64 n] w fun e w'=>e=.returned (.bool (fewB a b c n))∧Ext w w':=by
 obtain ⟨x1,k1,rfl⟩:=h1
 obtain ⟨x2,k2,rfl⟩:=h2
 obtain ⟨x3,k3,rfl⟩:=h3
 refine FN_enter Tryz.func7 rfl rfl (by kernel_rfl) ?_
 have hE:Ext w (w.alloc (.cells #[.slice x1 a k1,.slice x2 b k2,.slice x3 c k3] 26)):=(Ext.refl w).alloc _
 by_cases c1:(a:Int)≤n
 ·by_cases c2:(b:Int)≤n
  ·by_cases c3:(c:Int)≤n<;>simp [fewB,c1,c2,c3,hE]
  ·simp [fewB,c1,c2,hE]
 ·simp [fewB,c1,hE]
theorem fWay:flatA Tryz.prog 50=some [.int .u64,.int .i64,.int .u32,.int .u32,.int .u32,.int .u64,.int .u64,.int .u64]:=by kernel_rfl
theorem way_eq (a b:Wy):eqcs (wyC a) (wyC b)=decide (a=b):=by
 obtain ⟨a1,a2,a3,a4,a5,a6,a7,a8⟩:=a
 obtain ⟨b1,b2,b3,b4,b5,b6,b7,b8⟩:=b
 rw [Bool.eq_iff_iff]
 simp [eqcs,eqc]
theorem neqWy (a b:Wy) (w:World):(binOp .neq 50 (wyV a) (wyV b)).run Tryz.prog w=.ok (.bool !(decide (a=b))) w:=by
 rw [← way_eq]
 exact run_neq_flat w fWay _ _ rfl rfl
end Go.Proofs