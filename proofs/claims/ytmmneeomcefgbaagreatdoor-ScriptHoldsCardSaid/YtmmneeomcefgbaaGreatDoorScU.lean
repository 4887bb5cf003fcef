/-
 Contracts of the functions that the law reaches,step by step.
-/
import Derived.Test.YtmmneeomcefgbaaGreatDoorScP
import Derived.Lib.MinMax
namespace Go.Proofs
open Pk
set_option maxRecDepth 100000
attribute [local simp] beq_dec bne_dec
abbrev rowV (g : Nat) : Value := .slice (some ⟨g,0,none⟩) 12 12
abbrev partOf (g i : Nat) : Value := .slice (some ⟨g,i * 6,none⟩) 6 6
theorem part_slice (g i : Nat) (hi : i < 2) (W : World) : (Instr.sliceAt 27 (rowV g) (some (i64 ((i * 6 : Nat) : Int))) (some (i64 ((i * 6 + 6 : Nat) : Int))) (some (i64 ((i * 6 + 6 : Nat) : Int)))).run Tryz.prog W = .ok (partOf g i) W := by
 rw [run_sliceAt_slice W 27 _ _ _ _ (elem_of (by simp)),run_slice_lhm W 27 _ 12 12 (elem_of (by simp)) .i64 .i64 .i64 _ _ _ (by omega) (by omega) (by omega) (by omega),← elemT_of (by simp)]
 have : i = 0 ∨ i = 1 := by omega
 rcases this with rfl | rfl <;> simp [sliced]
theorem rest_slice (g i : Nat) (hi : i < 2) (W : World) : (Instr.sliceAt 27 (rowV g) (some (i64 ((i * 6 : Nat) : Int))) none none).run Tryz.prog W = .ok (.slice (some ⟨g, i * 6, none⟩) (12 - i * 6) (12 - i * 6)) W := by
 rw [run_sliceAt_slice W 27 _ _ _ _ (elem_of (by simp)),run_slice_l W 27 _ 12 12 (elem_of (by simp)) .i64 _ (by omega) (by omega),← elemT_of (by simp)]
 have : i = 0 ∨ i = 1 := by omega
 rcases this with rfl | rfl <;> simp [sliced]
abbrev ck2 : List Nat := [0,1]
def ckSeg (l : List Nat) : Prop := l = [0] ∨ l = [0,1]
theorem chunk_it {w : World} {c1 c2 g : Nat} (v1 : Var w c1 (rowV g)) (v2 : Var w c2 (i64 6)) : Iter Tryz.prog (.func (.func 107) #[] #[ptr c1, ptr c2]) (fun i : Nat => [partOf g i]) (· = ck2) ckSeg (fun k => k = c1 ∨ k = c2) w := by
 intro y C0 J Jx W hA hcap hC0 hJ hJx hyl h0
 have k1 := hcap c1 (.inl rfl)
 have k2 := hcap c2 (.inr rfl)
 have v1W := v1.agr hA k1.1
 have v2W := v2.agr hA k2.1
 refine FN_enter Tryz.func107 rfl rfl (by kernel_rfl) ?_
 simp
 refine WC_loop (fun k ρ ds w' => ∃ (i : Nat) (C : Nat → Prop), k = 2 - i ∧ i ≤ 2 ∧ ρ 0 = y ∧ ρ 1 = ptr c1 ∧ ρ 2 = ptr c2 ∧ ρ 4 = i64 ((i * 6 : Nat) : Int) ∧ ds = [] ∧ J C (ck2.take i) w' ∧
  (∀ k,C k → C0 k ∨ W.heap.size ≤ k) ∧ Agr (fun k => k < W.heap.size ∧ ¬ C0 k) W w') 2 ⟨0,C0,rfl,by omega,by simp,by simp,by simp,by simp,rfl,h0,fun k h => .inl h,Agr.refl _ _⟩ ?_
 rintro k ρ ds w3 ⟨i,C,rfl,hi,e0,e1,e2,e4,rfl,hj,hC,hAg⟩
 have v13 := v1W.agr hAg ⟨v1W.lt,k1.2⟩
 have v23 := v2W.agr hAg ⟨v2W.lt,k2.2⟩
 by_cases hlt : i < 2
 ·have hlt' : ((i * 6 : Nat) : Int) < 12 := by omega
  simp [-Int.natCast_mul,e1,e4,v13.cell,hlt']
  refine WC_drawC 5 (.F 0 <| .F 1 <| .F 2 <| .F 3 <| .F 4 <| .Z) (fun _ => false) rfl (by kernel_rfl) fun W1 hW1 => ?_
  have WE : Ext w3 W1 := hW1 ▸ Ext.drew _
  have v14 := v13.ext WE
  have v24 := v23.ext WE
  have mn : min (6 : Int) ((12 - i * 6 : Nat) : Int) = 6 := by omega
  have wi : IntKind.i64.wrap (((i * 6 : Nat) : Int) + 6) = ((i * 6 + 6 : Nat) : Int) := by rw [wrap64 _ (by omega) (by omega)]; omega
  simp [-Int.natCast_mul,-Int.natCast_add,e0,e1,e2,e4,v14.cell,v24.cell,rest_slice g i hlt,part_slice g i hlt,mn,wi,Lib.run_min_ints]
  have hsp : ckSeg (ck2.take i ++ [i]) := by
   have : i = 0 ∨ i = 1 := by omega
   rcases this with rfl | rfl
   ·exact .inl rfl
   ·exact .inr rfl
  have htk : ck2.take (i + 1) = ck2.take i ++ [i] := by
   have : i = 0 ∨ i = 1 := by omega
   rcases this with rfl | rfl <;> rfl
  have hz := hAg.size
  have hAg1 : Agr (fun k => k < W.heap.size ∧ ¬ C0 k) W W1 := hAg.trans WE.agr
  have hj1 := hJ C _ w3 W1 hj WE.agr
  refine CV.mono (hyl C (ck2.take i) i W1 hsp hj1) ?_
  have hz1 := hAg1.size
  rintro _ w4 (⟨rfl, C', hj', hown⟩ | ⟨rfl, C', hj', hown⟩)
  ·have hAg' : Agr (fun k => k < W.heap.size ∧ ¬ C0 k) W1 w4 := hown.mod.agr (fun k hk hc => by rcases hC k hc with h | h; exact hk.2 h; omega)
   have hAg4 := hAg1.trans hAg'
   have v25 := v2W.agr hAg4 ⟨v2W.lt,k2.2⟩
   simp [-Int.natCast_mul,-Int.natCast_add,e0,e1,e2,e4,v25.cell,wi]
   refine ⟨2 - (i + 1),by omega,i + 1,rfl,by omega,by omega,C',by rw [htk]; exact hj',?_,hAg4⟩
   intro k hk
   rcases hown.own k hk with h | h
   ·exact hC k h
   ·exact .inr (by omega)
  ·simp
   exact ⟨C',.inr ⟨_,hsp,hj'⟩⟩
 ·have hi' : i = 2 := by omega
  subst hi'
  simp [e1,e4,v13.cell]
  exact ⟨C,.inl hj⟩
theorem chunk_c {w : World} {g : Nat} : FN Tryz.prog 44 [rowV g, i64 6] w fun e w' => ∃ c1 c2, e = .returned (.func (.func 107) #[] #[ptr c1, ptr c2]) ∧ Var w' c1 (rowV g) ∧ Var w' c2 (i64 6) ∧ w.heap.size ≤ c1 ∧ w.heap.size ≤ c2 ∧ Ext w w' := by
 refine FN_enter Tryz.func44 rfl rfl (by kernel_rfl) ?_
 have v1 : Var ((w.alloc (.cells #[rowV g] 27)).alloc (.cells #[i64 6] 3)) w.heap.size (rowV g) := (Var.new w _ _).ext ((Ext.refl _).alloc _)
 have v2 : Var ((w.alloc (.cells #[rowV g] 27)).alloc (.cells #[i64 6] 3)) (w.heap.size + 1) (i64 6) := by
  have := Var.new (w.alloc (.cells #[rowV g] 27)) (i64 6) 3
  simpa using this
 have hE : Ext w ((w.alloc (.cells #[rowV g] 27)).alloc (.cells #[i64 6] 3)) := ((Ext.refl _).alloc _).alloc _
 simp
 exact ⟨_,_,⟨rfl,rfl⟩,v1,v2,by omega,by omega,hE⟩
end Go.Proofs
namespace Go.Proofs
open Pk
set_option maxRecDepth 100000
theorem lineP_of {rd : Tx → Option (Int × (Trn → List Tx → Option (Trn × List Tx)))} {tl : Trn → Option (List Tx)} {t : Trn} {p : Tx × Int} {l : List Tx} {s : Tx} (h1 : findW t = some p) (h2 : layK tl t = some l) (h3 : joinW (p.1 :: l) = s) (h4 : turnP rd s = some t) : lineP rd tl t = some s := by
 unfold lineP
 rw [h1]
 simp only [h2,h3,h4]
 rw [if_pos ((sameT_eq t t).2 rfl)]
abbrev cr1 : Trn := { trn0 with kind := 13,node := 1,keep := [true,false] }
abbrev sd1 : Trn := { trn0 with kind := 3,node := 1,lton := 2,ltos := 7,lsvc := 7,life := 50,lim := 9,pay := [104,105] }
abbrev tick9 : Trn := { trn0 with kind := 12,n := 9 }
abbrev k8 : List Bool := [true,false,true,false,false,false,false,false]
abbrev crash2 : Trn := { trn0 with kind := 13,node := 2,keep := k8 }
abbrev sv1 : Trn := { trn0 with kind := 10,node := 1,to' := 2,fate := 0 }
abbrev lSv : Tx := [115,101,114,118,101,32,49,32,50,32,48]
abbrev lSv2 : Tx := [115,101,114,118,101,32,49,32,50]
abbrev lSv3 : Tx := [115,101,114,118,101,32,48,49,32,50,32,48]
abbrev lCr : Tx := [99,114,97,115,104,32,49,32,49,48]
abbrev lSd : Tx := [115,101,110,100,32,49,32,55,32,105,112,110,58,50,46,55,32,48,32,100,116,110,58,110,111,110,101,32,53,48,32,57,32,54,56,54,57]
abbrev lTi : Tx := [116,105,99,107,32,57]
abbrev lCr2 : Tx := [99,114,97,115,104,32,50,32,49,48,49,48,48,48,48,48]
theorem tp_sv : turnP rdW lSv = some sv1 := by kernel_rfl
theorem tp_sv2 : turnP rdW lSv2 = none := by kernel_rfl
theorem tp_sv3 : turnP rdW lSv3 = none := by kernel_rfl
theorem tp_cr : turnP rdW lCr = some cr1 := by kernel_rfl
theorem tp_sd : turnP rdW lSd = some sd1 := by kernel_rfl
theorem tp_ti : turnP rdW lTi = some tick9 := by kernel_rfl
theorem tp_cr2 : turnP rdW lCr2 = some crash2 := by kernel_rfl
theorem d0 : decI 0 = [48] := Lib.decDigits_one (by decide)
theorem d1 : decI 1 = [49] := Lib.decDigits_one (by decide)
theorem d2 : decI 2 = [50] := Lib.decDigits_one (by decide)
theorem d7 : decI 7 = [55] := Lib.decDigits_one (by decide)
theorem d9 : decI 9 = [57] := Lib.decDigits_one (by decide)
theorem c9 : capI m63 9 = some [57] := by unfold capI capT; rw [if_pos (by decide)]; exact congrArg some d9
theorem c50 : capI m63 50 = some [53,48] := by unfold capI capT; rw [if_pos (by decide)]; exact congrArg some (Lib.decDigits_two (by decide) (by decide))
theorem p27 : pointI 2 7 = some [105, 112, 110, 58, 50, 46, 55] := by
 unfold pointI pointP toldP
 rw [if_neg (by decide),if_neg (by decide),show Lib.decDigits (2 : Int).toNat = [50] from d2,show Lib.decDigits (7 : Int).toNat = [55] from d7]
 rfl
theorem p00 : pointI 0 0 = some [100,116,110,58,110,111,110,101] := rfl
theorem lp_cr (tl : Trn → Option (List Tx)) : lineP rdW tl cr1 = some lCr := lineP_of (p := ([99,114,97,115,104],13)) (l := [[49],[49,48]]) (by kernel_rfl) (by simp only [layK]; simp [lcrashP,d1,bitsO,bitT]) (by kernel_rfl) tp_cr
theorem lp_cr2 (tl : Trn → Option (List Tx)) : lineP rdW tl crash2 = some lCr2 := lineP_of (p := ([99,114,97,115,104],13)) (l := [[50],[49,48,49,48,48,48,48,48]]) (by kernel_rfl) (by simp only [layK]; simp [lcrashP,d2,bitsO,bitT]) (by kernel_rfl) tp_cr2
theorem lp_ti (tl : Trn → Option (List Tx)) : lineP rdW tl tick9 = some lTi := lineP_of (p := ([116,105,99,107],12)) (l := [[57]]) (by kernel_rfl) (by simp only [layK]; simp [ltickP,c9]) (by kernel_rfl) tp_ti
theorem lp_sd (tl : Trn → Option (List Tx)) : lineP rdW tl sd1 = some lSd := lineP_of (p := ([115,101,110,100],3)) (l := [[49],[55],[105,112,110,58,50,46,55],[48],[100,116,110,58,110,111,110,101],[53,48],[57],[54,56,54,57]]) (by kernel_rfl) (by simp only [layK]; simp [lsendP,d1,d7,d9,p27,c50]; kernel_rfl) (by kernel_rfl) tp_sd
end Go.Proofs