/-
 Contracts of the functions that the law reaches,step by step.
-/
import Derived.Test.YtdgkfilajbnhgaaGreatGeU
namespace Go.Proofs
open Pk
set_option maxRecDepth 10000
def fewB (a b c : Nat) (n : Int) : Bool := decide ((a : Int) ≤ n) && (decide ((b : Int) ≤ n) && decide ((c : Int) ≤ n))
theorem few_c {w : World} {vP vS vB : Value} {a b c : Nat} (h1 : ∃ x k, vP = .slice x a k) (h2 : ∃ x k, vS = .slice x b k) (h3 : ∃ x k, vB = .slice x c k) (n : Int) :
  FN Tryz.prog 7 [seV vP vS vB,i64 n] w fun e w' => e = .returned (.bool (fewB a b c n)) ∧ Ext w w' := by
 obtain ⟨x1,k1,rfl⟩ := h1
 obtain ⟨x2,k2,rfl⟩ := h2
 obtain ⟨x3,k3,rfl⟩ := h3
 refine FN_enter Tryz.func7 rfl rfl (by kernel_rfl) ?_
 have hE : Ext w (w.alloc (.cells #[.slice x1 a k1,.slice x2 b k2,.slice x3 c k3] 26)) := (Ext.refl w).alloc _
 by_cases c1 : (a : Int) ≤ n
 ·by_cases c2 : (b : Int) ≤ n
  ·by_cases c3 : (c : Int) ≤ n <;> simp [fewB,c1,c2,c3,hE]
  ·simp [fewB,c1,c2,hE]
 ·simp [fewB,c1,hE]
theorem fWay : flatA Tryz.prog 50 = some [.int .u64,.int .i64,.int .u32,.int .u32,.int .u32,.int .u64,.int .u64,.int .u64] := by kernel_rfl
theorem way_eq (a b : Wy) : eqcs (wyC a) (wyC b) = decide (a = b) := by
 obtain ⟨a1,a2,a3,a4,a5,a6,a7,a8⟩ := a
 obtain ⟨b1,b2,b3,b4,b5,b6,b7,b8⟩ := b
 rw [Bool.eq_iff_iff]
 simp [eqcs,eqc]
theorem neqWy (a b : Wy) (w : World) : (binOp .neq 50 (wyV a) (wyV b)).run Tryz.prog w = .ok (.bool !(decide (a = b))) w := by
 rw [← way_eq]
 exact run_neq_flat w fWay _ _ rfl rfl
structure NoG (w : World) (g : Value) : Prop where
 pt : ∃ o,g = .pointer o
 no : ∀ w',Ext w w' → FN Tryz.prog 32 [g] w' fun e w'' => e = .returned (.bool true) ∧ w'' = w'
theorem NoG.ext {w w' : World} {g : Value} (h : NoG w g) (hE : Ext w w') : NoG w' g := ⟨h.pt,fun w'' h2 => h.no w'' (hE.trans h2)⟩
theorem NoG.nil (w : World) : NoG w (.pointer none) := ⟨⟨_,rfl⟩,fun w' _ => gnone_n w'⟩
theorem NoG.zero {w : World} {b : Nat} (h : Blk w b [.pointer none,.pointer none,.pointer none]) : NoG w (ptr b) := ⟨⟨_,rfl⟩,fun _ hE => gnone_z (h.ext hE)⟩
theorem sent_n {w : World} {g : Value} (h : NoG w g) (c : Ct) (a n : Int) : FN Tryz.prog 13 [g, ctV c, u64 a, u64 n] w fun e w' => e = .returned (.tuple #[u64 0, .bool false]) ∧ Ext w w' := by
 obtain ⟨o,rfl⟩ := h.pt
 refine FN_enter Tryz.func13 rfl rfl (by kernel_rfl) ?_
 have hE : Ext w ((w.alloc (.cells #[.pointer o] 33)).alloc (.cells #[u32 c.fr,u32 c.to',u64 c.sf,u64 c.su,u64 c.rate] 48)) := ((Ext.refl w).alloc _).alloc _
 have v0 : Var ((w.alloc (.cells #[.pointer o] 33)).alloc (.cells #[u32 c.fr,u32 c.to',u64 c.sf,u64 c.su,u64 c.rate] 48)) w.heap.size (.pointer o) := (Var.new w (.pointer o) 33).ext ((Ext.refl _).alloc _)
 simp
 have h1 := h.ext hE
 generalize ((w.alloc (.cells #[.pointer o] 33)).alloc (.cells #[u32 c.fr,u32 c.to',u64 c.sf,u64 c.su,u64 c.rate] 48)) = w1 at *
 refine WC_drawC 20 (.F 0 <| .C 1 <| .F 2 <| .F 3 <| .C 4 <| .F 5 <| .F 6 <| .F 7 <| .F 8 <| .F 9 <| .F 10 <| .F 11 <| .F 12 <| .F 13 <| .F 14 <| .F 15 <| .F 16 <| .F 17 <| .F 19 <| .C 18 <| .Z) (fun _ => false) rfl (by kernel_rfl) fun W hW => ?_
 have hWE : Ext w1 W := hW ▸ Ext.drew w1
 simp [(v0.ext hWE).cell]
 refine FN.mono (h1.no W hWE) ?_
 rintro _ _ ⟨rfl,rfl⟩
 rename_i W
 simp
 refine KR_same ?_
 simp
 exact hE.trans hWE
end Go.Proofs