/-
  Contracts of the functions that the law reaches,step by step.
-/
import Derived.Test.YtmmneeomcefgbaaGreatDoorScP
import Derived.Lib.MinMax
namespace Go.Proofs
open Pk
set_option maxRecDepth 100000
attribute [local simp] beq_dec bne_dec
/-! ### Twelve bytes,in two parts -/
abbrev rowV (g : Nat) : Value := .slice (some ⟨g,0,none⟩) 12 12
abbrev partOf (g i : Nat) : Value := .slice (some ⟨g,i * 6,none⟩) 6 6
theorem part_slice (g i : Nat) (hi : i < 2) (W : World) : (Instr.sliceAt 27 (rowV g) (some (i64 ((i * 6 : Nat) : Int))) (some (i64 ((i * 6 + 6 : Nat) : Int))) (some (i64 ((i * 6 + 6 : Nat) : Int)))).run Tryz.prog W = .ok (partOf g i) W := by
  rw [run_sliceAt_slice W 27 _ _ _ _ (elem_of (by simp)),run_slice_lhm W 27 _ 12 12 (elem_of (by simp)) .i64 .i64 .i64 _ _ _ (by omega) (by omega) (by omega) (by omega),← elemT_of (by simp)]
  have : i = 0 ∨ i = 1 := by omega
  rcases this with rfl | rfl <;> simp [sliced]
theorem rest_slice (g i : Nat) (hi : i < 2) (W : World) : (Instr.sliceAt 27 (rowV g) (some (i64 ((i * 6 : Nat) : Int))) none none).run Tryz.prog W = .ok (.slice (some ⟨g, i * 6, none⟩) (12 - i * 6) (12 - i * 6)) W := by
  rw [run_sliceAt_slice W 27 _ _ _ _ (elem_of (by simp)),run_slice_l W 27 _ 12 12 (elem_of (by simp)) .i64 _ (by omega) (by omega),← elemT_of (by simp)]
  have : i = 0 ∨ i = 1 := by omega
  rcases this with rfl | rfl <;> simp [sliced]
abbrev ck2 : List Nat := [0,1]
def ckSeg (l : List Nat) : Prop := l = [0] ∨ l = [0,1]
theorem chunk_it {w : World} {c1 c2 g : Nat} (v1 : Var w c1 (rowV g)) (v2 : Var w c2 (i64 6)) : Iter Tryz.prog (.func (.func 107) #[] #[ptr c1, ptr c2]) (fun i : Nat => [partOf g i]) (· = ck2) ckSeg (fun k => k = c1 ∨ k = c2) w := by
  intro y C0 J Jx W hA hcap hC0 hJ hJx hyl h0
  have k1 := hcap c1 (.inl rfl)
  have k2 := hcap c2 (.inr rfl)
  have v1W := v1.agr hA k1.1
  have v2W := v2.agr hA k2.1
  refine FN_enter Tryz.func107 rfl rfl (by kernel_rfl) ?_
  simp
  refine WC_loop (fun k ρ ds w' => ∃ (i : Nat) (C : Nat → Prop), k = 2 - i ∧ i ≤ 2 ∧ ρ 0 = y ∧ ρ 1 = ptr c1 ∧ ρ 2 = ptr c2 ∧ ρ 4 = i64 ((i * 6 : Nat) : Int) ∧ ds = [] ∧ J C (ck2.take i) w' ∧
    (∀ k,C k → C0 k ∨ W.heap.size ≤ k) ∧ Agr (fun k => k < W.heap.size ∧ ¬ C0 k) W w') 2 ⟨0,C0,rfl,by omega,by simp,by simp,by simp,by simp,rfl,h0,fun k h => .inl h,Agr.refl _ _⟩ ?_
  rintro k ρ ds w3 ⟨i,C,rfl,hi,e0,e1,e2,e4,rfl,hj,hC,hAg⟩
  have v13 := v1W.agr hAg ⟨v1W.lt,k1.2⟩
  have v23 := v2W.agr hAg ⟨v2W.lt,k2.2⟩
  by_cases hlt : i < 2
  · have hlt' : ((i * 6 : Nat) : Int) < 12 := by omega
    simp [-Int.natCast_mul,e1,e4,v13.cell,hlt']
    refine WC_drawC 5 (.F 0 <| .F 1 <| .F 2 <| .F 3 <| .F 4 <| .Z) (fun _ => false) rfl (by kernel_rfl) fun W1 hW1 => ?_
    have WE : Ext w3 W1 := hW1 ▸ Ext.drew _
    have v14 := v13.ext WE
    have v24 := v23.ext WE
    have mn : min (6 : Int) ((12 - i * 6 : Nat) : Int) = 6 := by omega
    have wi : IntKind.i64.wrap (((i * 6 : Nat) : Int) + 6) = ((i * 6 + 6 : Nat) : Int) := by rw [wrap64 _ (by omega) (by omega)]; omega
    simp [-Int.natCast_mul,-Int.natCast_add,e0,e1,e2,e4,v14.cell,v24.cell,rest_slice g i hlt,part_slice g i hlt,mn,wi,Lib.run_min_ints]
    have hsp : ckSeg (ck2.take i ++ [i]) := by
      have : i = 0 ∨ i = 1 := by omega
      rcases this with rfl | rfl
      · exact .inl rfl
      · exact .inr rfl
    have htk : ck2.take (i + 1) = ck2.take i ++ [i] := by
      have : i = 0 ∨ i = 1 := by omega
      rcases this with rfl | rfl <;> rfl
    have hz := hAg.size
    have hAg1 : Agr (fun k => k < W.heap.size ∧ ¬ C0 k) W W1 := hAg.trans WE.agr
    have hj1 := hJ C _ w3 W1 hj WE.agr
    refine CV.mono (hyl C (ck2.take i) i W1 hsp hj1) ?_
    have hz1 := hAg1.size
    rintro _ w4 (⟨rfl, C', hj', hown⟩ | ⟨rfl, C', hj', hown⟩)
    · have hAg' : Agr (fun k => k < W.heap.size ∧ ¬ C0 k) W1 w4 := hown.mod.agr (fun k hk hc => by rcases hC k hc with h | h; exact hk.2 h; omega)
      have hAg4 := hAg1.trans hAg'
      have v25 := v2W.agr hAg4 ⟨v2W.lt,k2.2⟩
      simp [-Int.natCast_mul,-Int.natCast_add,e0,e1,e2,e4,v25.cell,wi]
      refine ⟨2 - (i + 1),by omega,i + 1,rfl,by omega,by omega,C',by rw [htk]; exact hj',?_,hAg4⟩
      intro k hk
      rcases hown.own k hk with h | h
      · exact hC k h
      · exact .inr (by omega)
    · simp
      exact ⟨C',.inr ⟨_,hsp,hj'⟩⟩
  · have hi' : i = 2 := by omega
    subst hi'
    simp [e1,e4,v13.cell]
    exact ⟨C,.inl hj⟩
theorem chunk_c {w : World} {g : Nat} : FN Tryz.prog 44 [rowV g, i64 6] w fun e w' => ∃ c1 c2, e = .returned (.func (.func 107) #[] #[ptr c1, ptr c2]) ∧ Var w' c1 (rowV g) ∧ Var w' c2 (i64 6) ∧ w.heap.size ≤ c1 ∧ w.heap.size ≤ c2 ∧ Ext w w' := by
  refine FN_enter Tryz.func44 rfl rfl (by kernel_rfl) ?_
  have v1 : Var ((w.alloc (.cells #[rowV g] 27)).alloc (.cells #[i64 6] 3)) w.heap.size (rowV g) := (Var.new w _ _).ext ((Ext.refl _).alloc _)
  have v2 : Var ((w.alloc (.cells #[rowV g] 27)).alloc (.cells #[i64 6] 3)) (w.heap.size + 1) (i64 6) := by
    have := Var.new (w.alloc (.cells #[rowV g] 27)) (i64 6) 3
    simpa using this
  have hE : Ext w ((w.alloc (.cells #[rowV g] 27)).alloc (.cells #[i64 6] 3)) := ((Ext.refl _).alloc _).alloc _
  simp
  exact ⟨_,_,⟨rfl,rfl⟩,v1,v2,by omega,by omega,hE⟩
end Go.Proofs
