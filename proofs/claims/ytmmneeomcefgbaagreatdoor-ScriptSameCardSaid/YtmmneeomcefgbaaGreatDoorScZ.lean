/-
  Contracts of the functions that the law reaches,step by step.
-/
import Derived.Test.YtmmneeomcefgbaaGreatDoorScY
import Derived.Test.YtmmneeomcefgbaaGreatDoorScR
namespace Go.Proofs
open Pk
set_option maxRecDepth 100000
attribute [local simp] beq_dec bne_dec
/-! ### ScriptSame -/
def fewT (t : Trn) : Bool := decide (t.pay.length ≤ 300) && decide (t.keep.length ≤ 100)
/-- A turn that is given. -/
structure GivT (w : World) (t : Trn) (vp vk : Value) : Prop where
  ok : t.Ok
  pay : SlB w 1 vp t.pay.length (t.pay.map encB)
  keep : SlB w 1 vk t.keep.length (t.keep.map Value.bool)
theorem GivT.ext {w w' : World} {t : Trn} {vp vk : Value} (h : GivT w t vp vk) (hE : Ext w w') : GivT w' t vp vk := ⟨h.ok,h.pay.ext hE,h.keep.ext hE⟩
theorem few_c {w : World} {t : Trn} {vp vk : Value} (h : GivT w t vp vk) : FN Tryz.prog 8 [trV t vp vk] w fun e w' => e = .returned (.bool (fewT t)) ∧ Ext w w' := by
  refine FN_enter Tryz.func8 rfl rfl (by kernel_rfl) ?_
  have E0 : Ext w (w.alloc (.cells (trC t vp vk).toArray 45)) := (Ext.refl _).alloc _
  have x0 : Blk (w.alloc (.cells (trC t vp vk).toArray 45)) w.heap.size (trC t vp vk) := Blk.new w _ _
  have l1 := fun ty W => h.pay.isLen (P := Tryz.prog) (t := 27) (by simp) ty W
  have l2 := fun ty W => h.keep.isLen (P := Tryz.prog) (t := 43) (by simp) ty W
  simp
  generalize (w.alloc (.cells (trC t vp vk).toArray 45)) = w0 at *
  by_cases h1 : t.pay.length ≤ 300
  · have h1' : (t.pay.length : Int) ≤ 300 := by omega
    by_cases h2 : t.keep.length ≤ 100
    · have h2' : (t.keep.length : Int) ≤ 100 := by omega
      simp [x0.cell 43 _ rfl,l1,l2,h1',h2']
      exact ⟨by simp [fewT,h1,h2],E0⟩
    · have h2' : ¬ (t.keep.length : Int) ≤ 100 := by omega
      simp [x0.cell 43 _ rfl,l1,l2,h1',h2']
      exact ⟨by simp [fewT,h2],E0⟩
  · have h1' : ¬ (t.pay.length : Int) ≤ 300 := by omega
    simp [l1,h1']
    exact ⟨by simp [fewT,h1],E0⟩
theorem sameT_symm (a b : Trn) : sameT b a = sameT a b := by
  rw [Bool.eq_iff_iff,sameT_eq,sameT_eq]
  exact eq_comm
set_option maxHeartbeats 4000000 in
theorem lawSame_c {w : World} {a b : Trn} {vp vk vp' vk' : Value} (ga : GivT w a vp vk) (gb : GivT w b vp' vk') (hG : Gl w) (h8 : 8 ≤ w.heap.size) :
    FN Tryz.prog 5 [trV a vp vk,trV b vp' vk'] w fun e w' => e = .returned (.bool true) ∧ Ext w w' := by
  refine FN_enter Tryz.func5 rfl rfl (by kernel_rfl) ?_
  have E0 : Ext w ((w.alloc (.cells (trC a vp vk).toArray 45)).alloc (.cells (trC b vp' vk').toArray 45)) := ((Ext.refl _).alloc _).alloc _
  have x0 : Blk ((w.alloc (.cells (trC a vp vk).toArray 45)).alloc (.cells (trC b vp' vk').toArray 45)) w.heap.size (trC a vp vk) := (Blk.new w _ _).ext ((Ext.refl _).alloc _)
  have y0 : Blk ((w.alloc (.cells (trC a vp vk).toArray 45)).alloc (.cells (trC b vp' vk').toArray 45)) (w.heap.size + 1) (trC b vp' vk') := by
    have := Blk.new (w.alloc (.cells (trC a vp vk).toArray 45)) (trC b vp' vk') 45
    simpa using this
  simp [-loadVar,-storeVar]
  generalize ((w.alloc (.cells (trC a vp vk).toArray 45)).alloc (.cells (trC b vp' vk').toArray 45)) = w0 at *
  simp [-loadVar,-storeVar,lv_turn x0]
  refine FN.mono (few_c (ga.ext E0)) ?_
  rintro _ w1 ⟨rfl,E1⟩
  have x1 := x0.ext E1
  have y1 := y0.ext E1
  have D1 := E0.trans E1
  have z1 := D1.size
  cases ha : fewT a with
  | false =>
    simp [-loadVar,-storeVar]
    refine FN.mono (works_c (hG.ext D1) (by omega)) ?_
    rintro _ w2 ⟨rfl,E2⟩
    simp
    exact D1.trans E2
  | true =>
  simp [-loadVar,-storeVar,lv_turn y1]
  refine FN.mono (few_c (gb.ext D1)) ?_
  rintro _ w2 ⟨rfl,E2⟩
  have x2 := x1.ext E2
  have y2 := y1.ext E2
  have D2 := D1.trans E2
  have z2 := D2.size
  cases hb : fewT b with
  | false =>
    simp [-loadVar,-storeVar]
    refine FN.mono (works_c (hG.ext D2) (by omega)) ?_
    rintro _ w3 ⟨rfl,E3⟩
    simp
    exact D2.trans E3
  | true =>
  simp only [fewT,Bool.and_eq_true,decide_eq_true_eq] at ha hb
  have ga2 := ga.ext D2
  have gb2 := gb.ext D2
  simp [-loadVar,-storeVar,lv_turn x2,lv_turn y2]
  refine FN.mono (dsame_c ga2.pay ga2.keep gb2.pay gb2.keep (by omega)) ?_
  rintro _ w3 ⟨rfl,E3⟩
  have x3 := x2.ext E3
  have y3 := y2.ext E3
  have ga3 := ga2.ext E3
  have gb3 := gb2.ext E3
  simp [-loadVar,-storeVar,lv_turn x3,lv_turn y3]
  refine FN.mono (ssame_c ga3.pay ga3.keep gb3.pay gb3.keep (by omega) (by omega) ga.ok.fate gb.ok.fate) ?_
  rintro _ w4 ⟨rfl,E4⟩
  have x4 := x3.ext E4
  have y4 := y3.ext E4
  have ga4 := ga3.ext E4
  have gb4 := gb3.ext E4
  simp [-loadVar,-storeVar,lv_turn x4,lv_turn y4]
  refine FN.mono (ssame_c gb4.pay gb4.keep ga4.pay ga4.keep (by omega) (by omega) gb.ok.fate ga.ok.fate) ?_
  rintro _ w5 ⟨rfl,E5⟩
  have x5 := x4.ext E5
  have ga5 := ga4.ext E5
  simp [-loadVar,-storeVar,lv_turn x5,sameT_symm a b]
  refine FN.mono (ssame_c ga5.pay ga5.keep ga5.pay ga5.keep (by omega) (by omega) ga.ok.fate ga.ok.fate) ?_
  rintro _ w6 ⟨rfl,E6⟩
  have haa : sameT a a = true := (sameT_eq a a).2 rfl
  have D6 := D2.trans (E3.trans (E4.trans (E5.trans E6)))
  have z6 := D6.size
  simp [-loadVar,-storeVar,haa]
  refine FN.mono (works_c (hG.ext D6) (by omega)) ?_
  rintro _ w7 ⟨rfl,E7⟩
  simp
  exact D6.trans E7
end Go.Proofs
