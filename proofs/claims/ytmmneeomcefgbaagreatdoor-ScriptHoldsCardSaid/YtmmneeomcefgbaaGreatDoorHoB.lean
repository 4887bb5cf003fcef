/-
 Contracts of the functions that the law reaches,step by step.
-/
import Derived.Test.YtmmneeomcefgbaaGreatDoorScY
import Derived.Test.YtmmneeomcefgbaaGreatDoorHoA
namespace Go.Proofs
open Pk
set_option maxRecDepth 100000
attribute [local simp] beq_dec bne_dec
def fewT (t : Trn) : Bool := decide (t.pay.length ≤ 300) && decide (t.keep.length ≤ 100)
theorem fewR_c {w : World} {t : Trn} {vp vk : Value} (h : GivR w t vp vk) : FN Tryz.prog 8 [trV t vp vk] w fun e w' => e = .returned (.bool (fewT t)) ∧ Ext w w' := by
 refine FN_enter Tryz.func8 rfl rfl (by kernel_rfl) ?_
 have E0 : Ext w (w.alloc (.cells (trC t vp vk).toArray 45)) := (Ext.refl _).alloc _
 have x0 : Blk (w.alloc (.cells (trC t vp vk).toArray 45)) w.heap.size (trC t vp vk) := Blk.new w _ _
 have l1 := fun ty W => h.pay.isLen (P := Tryz.prog) (t := 27) (by simp) ty W
 have l2 := fun ty W => h.keep.isLen (P := Tryz.prog) (t := 43) (by simp) ty W
 simp
 generalize (w.alloc (.cells (trC t vp vk).toArray 45)) = w0 at *
 by_cases h1 : t.pay.length ≤ 300
 ·have h1' : (t.pay.length : Int) ≤ 300 := by omega
  by_cases h2 : t.keep.length ≤ 100
  ·have h2' : (t.keep.length : Int) ≤ 100 := by omega
   simp [x0.cell 43 _ rfl,l1,l2,h1',h2']
   exact ⟨by simp [fewT,h1,h2],E0⟩
  ·have h2' : ¬ (t.keep.length : Int) ≤ 100 := by omega
   simp [x0.cell 43 _ rfl,l1,l2,h1',h2']
   exact ⟨by simp [fewT,h2],E0⟩
 ·have h1' : ¬ (t.pay.length : Int) ≤ 300 := by omega
  simp [l1,h1']
  exact ⟨by simp [fewT,h1],E0⟩
theorem lineP_len {t : Trn} {s : Tx} (ht : t.Ok) (hr : RecOk t.r) (hp : t.pay.length ≤ 300) (hk : t.keep.length ≤ 100) (h : lineP rdF tellP t = some s) : s.length ≤ 900000 := by
 unfold lineP at h
 split at h
 ·cases h
 ·rename_i p hf
  split at h
  ·cases h
  ·rename_i l hl
   have hm := List.mem_of_find?_eq_some hf
   have hj := joinW_len (layK_bnd tellP ht (B := 5000) (by omega) (tellP_bnd ht hr)) hl (lnW_sp p hm).2
   split at h
   ·cases h
   ·split at h
    ·cases h; omega
    ·cases h
theorem lineP_inj {a b : Trn} {s u : Tx} (ha : lineP rdF tellP a = some s) (hb : lineP rdF tellP b = some u) : (s = u) ↔ (a = b) := by
 constructor
 ·rintro rfl
  have := lineP_inv ha
  rw [lineP_inv hb] at this
  exact (Option.some.inj this).symm
 ·rintro rfl
  rw [ha] at hb
  exact Option.some.inj hb
set_option maxHeartbeats 8000000 in
theorem lawHolds_c {w : World} {a b : Trn} {vp vk vp' vk' : Value} (ga : GivR w a vp vk) (gb : GivR w b vp' vk') (hG : Gl w) (h8 : 8 ≤ w.heap.size) :
  FN Tryz.prog 6 [trV a vp vk,trV b vp' vk'] w fun e w' => e = .returned (.bool true) ∧ Ext w w' := by
 refine FN_enter Tryz.func6 rfl rfl (by kernel_rfl) ?_
 have E0 : Ext w ((w.alloc (.cells (trC a vp vk).toArray 45)).alloc (.cells (trC b vp' vk').toArray 45)) := ((Ext.refl _).alloc _).alloc _
 have x0 : Blk ((w.alloc (.cells (trC a vp vk).toArray 45)).alloc (.cells (trC b vp' vk').toArray 45)) w.heap.size (trC a vp vk) := (Blk.new w _ _).ext ((Ext.refl _).alloc _)
 have y0 : Blk ((w.alloc (.cells (trC a vp vk).toArray 45)).alloc (.cells (trC b vp' vk').toArray 45)) (w.heap.size + 1) (trC b vp' vk') := by
  have := Blk.new (w.alloc (.cells (trC a vp vk).toArray 45)) (trC b vp' vk') 45
  simpa using this
 simp [-loadVar,-storeVar]
 generalize ((w.alloc (.cells (trC a vp vk).toArray 45)).alloc (.cells (trC b vp' vk').toArray 45)) = w0 at *
 simp [-loadVar,-storeVar,lv_turn x0]
 refine FN.mono (fewR_c (ga.ext E0)) ?_
 rintro _ w1 ⟨rfl,E1⟩
 have x1 := x0.ext E1
 have y1 := y0.ext E1
 have D1 := E0.trans E1
 have z1 := D1.size
 cases ha : fewT a with
 | false =>
  simp [-loadVar,-storeVar]
  refine FN.mono (works_c (hG.ext D1) (by omega)) ?_
  rintro _ w2 ⟨rfl,E2⟩
  simp
  exact D1.trans E2
 | true =>
 simp [-loadVar,-storeVar,lv_turn y1]
 refine FN.mono (fewR_c (gb.ext D1)) ?_
 rintro _ w2 ⟨rfl,E2⟩
 have x2 := x1.ext E2
 have y2 := y1.ext E2
 have D2 := D1.trans E2
 have z2 := D2.size
 cases hb : fewT b with
 | false =>
  simp [-loadVar,-storeVar]
  refine FN.mono (works_c (hG.ext D2) (by omega)) ?_
  rintro _ w3 ⟨rfl,E3⟩
  simp
  exact D2.trans E3
 | true =>
 simp only [fewT,Bool.and_eq_true,decide_eq_true_eq] at ha hb
 simp [-loadVar,-storeVar,lv_turn x2]
 refine FN.mono (lineF_c (ga.ext D2) ha.1 (by omega) (hG.ext D2) (by omega)) ?_
 rintro e3 w3 ⟨E3,p3⟩
 have x3 := x2.ext E3
 have y3 := y2.ext E3
 have D3 := D2.trans E3
 have z3 := D3.size
 have ln4 := lineF_c (gb.ext D3) hb.1 (by omega) (hG.ext D3) (by omega)
 rcases hla : lineP rdF tellP a with _ | s
 ·rw [hla] at p3
  obtain rfl : e3 = _ := p3
  simp [-loadVar,-storeVar,lv_turn y3]
  refine FN.mono ln4 ?_
  rintro e4 w4 ⟨E4,p4⟩
  have D4 := D3.trans E4
  have z4 := D4.size
  have hex : ∃ u f, e4 = .returned (.tuple #[tv u, i64 f]) := by
   rcases hlb : lineP rdF tellP b with _ | u
   ·rw [hlb] at p4; exact ⟨_,_,p4⟩
   ·rw [hlb] at p4; exact ⟨_,_,p4⟩
  obtain ⟨u,f,rfl⟩ := hex
  simp [-loadVar,-storeVar]
  refine FN.mono (num_c 370 w4) ?_
  rintro _ w5 ⟨rfl,rfl⟩
  simp [-loadVar,-storeVar]
  refine FN.mono (works_c (hG.ext D4) (by omega)) ?_
  rintro _ w6 ⟨rfl,E6⟩
  simp
  exact D4.trans E6
 rw [hla] at p3
 obtain rfl : e3 = _ := p3
 simp [-loadVar,-storeVar,lv_turn y3]
 refine FN.mono ln4 ?_
 rintro e4 w4 ⟨E4,p4⟩
 have x4 := x3.ext E4
 have y4 := y3.ext E4
 have D4 := D3.trans E4
 have z4 := D4.size
 rcases hlb : lineP rdF tellP b with _ | u
 ·rw [hlb] at p4
  obtain rfl : e4 = _ := p4
  simp [-loadVar,-storeVar]
  refine FN.mono (num_c 0 w4) ?_
  rintro _ w5 ⟨rfl,rfl⟩
  simp [-loadVar,-storeVar]
  refine FN.mono (num_c 370 w5) ?_
  rintro _ w5' ⟨rfl,rfl⟩
  simp [-loadVar,-storeVar]
  refine FN.mono (works_c (hG.ext D4) (by omega)) ?_
  rintro _ w6 ⟨rfl,E6⟩
  simp
  exact D4.trans E6
 rw [hlb] at p4
 obtain rfl : e4 = _ := p4
 simp [-loadVar,-storeVar]
 refine FN.mono (num_c 0 w4) ?_
 rintro _ w5 ⟨rfl,rfl⟩
 simp [-loadVar,-storeVar]
 refine FN.mono (num_c 0 w5) ?_
 rintro _ w5' ⟨rfl,rfl⟩
 simp [-loadVar,-storeVar]
 refine FN.mono (turnF_c s (lineP_len ga.ok ga.rok ha.1 ha.2 hla) (hG.ext D4) (by omega)) ?_
 rintro e6 w6 ⟨E6,p6⟩
 rw [lineP_inv hla] at p6
 obtain ⟨vp1,vk1,rfl,sp1,gp1,sk1,gk1⟩ := p6
 have op1 : oneV vp1 = true := by obtain ⟨_,_,rfl⟩ := sp1.isSlice; rfl
 have ok1 : oneV vk1 = true := by obtain ⟨_,_,rfl⟩ := sk1.isSlice; rfl
 have N1 := newT w6 a vp1 vk1 op1 ok1
 obtain ⟨q1,hq1⟩ : ∃ q,w6.heap.size = q := ⟨_,rfl⟩
 have D6 := D4.trans E6
 have zq1 := D6.size
 rw [hq1] at N1 zq1
 generalize newW w6 a vp1 vk1 = w7 at N1
 have D7 := D6.trans N1.2.2
 have bl1 := N1.2.1
 have tp1 := sp1.ext N1.2.2
 have tk1 := sk1.ext N1.2.2
 have x7 := (x4.ext E6).ext N1.2.2
 have y7 := (y4.ext E6).ext N1.2.2
 have ga7 := ga.ext D7
 have gb7 := gb.ext D7
 have z7 := D7.size
 simp [-loadVar,-storeVar,hq1,N1.1]
 refine FN.mono (num_c 0 w7) ?_
 rintro _ w8 ⟨rfl,rfl⟩
 simp [-loadVar,-storeVar,lv_turn bl1,lv_turn x7]
 refine FN.mono (ssame_c tp1.toB tk1.toB ga7.pay ga7.keep (by omega) (by omega) ga.ok.fate ga.ok.fate) ?_
 rintro _ w9 ⟨rfl,E9⟩
 have haa : sameT a a = true := (sameT_eq a a).2 rfl
 have x9 := x7.ext E9
 have y9 := y7.ext E9
 have ga9 := ga7.ext E9
 have gb9 := gb7.ext E9
 simp [-loadVar,-storeVar,haa,lv_turn x9,lv_turn y9]
 refine FN.mono (ssame_c ga9.pay ga9.keep gb9.pay gb9.keep (by omega) (by omega) ga.ok.fate gb.ok.fate) ?_
 rintro _ wa ⟨rfl,Ea⟩
 have Da := D7.trans (E9.trans Ea)
 have za := Da.size
 have hinj := lineP_inj hla hlb
 have hq : ((s == u) == sameT a b) = true := by
  rw [beq_iff_eq,Bool.eq_iff_iff,sameT_eq,beq_iff_eq]
  exact hinj
 simp [-loadVar,-storeVar,hq]
 refine FN.mono (works_c (hG.ext Da) (by omega)) ?_
 rintro _ wb ⟨rfl,Eb⟩
 simp
 exact Da.trans Eb
end Go.Proofs