/-
 Contracts of the functions that the law reaches,step by step.
-/
import Derived.Test.YtdflcfoalhhjlaaGreatSrtA
namespace Go.Proofs
open Pk
set_option maxRecDepth 10000
set_option maxHeartbeats 1000000 in
theorem Suint64.piv_c {w : World} {v : Value} {d : Array Int} {a b : Nat} (hA : Suint64.A w v d) (hab : a + 13 ≤ b) (hb : b ≤ d.size) (hn : d.size ≤ 1048576) :
  FN Tryz.prog 187 [v,.int .i64 a,.int .i64 b] w fun e w' => (∃ (p : Nat) (h : Int),e = .returned (.tuple #[.int .i64 p,.int .i64 h]) ∧ a ≤ p ∧ p < b) ∧ Suint64.A w' v d ∧ Mod (Sv v) w w' := by
 refine FN_enter Tryz.func187 rfl rfl (by kernel_rfl) ?_
 obtain ⟨l,hl⟩ : ∃ l,l = b - a := ⟨_,rfl⟩
 obtain ⟨q,hq⟩ : ∃ q,q = l / 4 := ⟨_,rfl⟩
 obtain ⟨q2,hq2⟩ : ∃ q2,q2 = q * 2 := ⟨_,rfl⟩
 obtain ⟨q3,hq3⟩ : ∃ q3,q3 = q * 3 := ⟨_,rfl⟩
 obtain ⟨pi,hpi⟩ : ∃ pi,pi = a + q := ⟨_,rfl⟩
 obtain ⟨pj,hpj⟩ : ∃ pj,pj = a + q2 := ⟨_,rfl⟩
 obtain ⟨pk,hpk⟩ : ∃ pk,pk = a + q3 := ⟨_,rfl⟩
 have w1_ : IntKind.i64.wrap ((b : Int) - (a : Int)) = (l : Int) := wnat _ _ (by omega) (by omega)
 have w2_ : IntKind.i64.wrap ((l : Int) / 4) = (q : Int) := wnat _ _ (by omega) (by omega)
 have w3_ : IntKind.i64.wrap ((q : Int) * 2) = (q2 : Int) := wnat _ _ (by omega) (by omega)
 have w4_ : IntKind.i64.wrap ((q : Int) * 3) = (q3 : Int) := wnat _ _ (by omega) (by omega)
 have w5_ : IntKind.i64.wrap (q : Int) = (q : Int) := wnat _ _ rfl (by omega)
 have w6_ : IntKind.i64.wrap ((a : Int) + (q : Int)) = (pi : Int) := wnat _ _ (by omega) (by omega)
 have w7_ : IntKind.i64.wrap ((a : Int) + (q2 : Int)) = (pj : Int) := wnat _ _ (by omega) (by omega)
 have w8_ : IntKind.i64.wrap ((a : Int) + (q3 : Int)) = (pk : Int) := wnat _ _ (by omega) (by omega)
 have g1 : (8 : Int) ≤ (l : Int) := by omega
 obtain ⟨s,hs⟩ : ∃ s,s = w.heap.size := ⟨_,rfl⟩
 obtain ⟨wa,hwa⟩ : ∃ wa,wa = w.alloc (.cells #[.int .i64 0] 3) := ⟨_,rfl⟩
 have hV : Var wa s (.int .i64 0) := by rw [hwa,hs]; exact Var.new _ _ _
 have hMa : Mod (Sv v) w wa := by rw [hwa]; exact (Mod.refl _ _).alloc _
 have hD : Suint64.A wa v d := hA.ext (by rw [hwa]; exact (Ext.refl _).alloc _)
 have hne : slB v ≠ s := by have := hA.lt (by omega); omega
 simp [w1_,w2_,w3_,w4_,w5_,w6_,w7_,w8_,g1]
 rw [← hwa,← hs]
 by_cases hlt : 50 ≤ (l : Int)
 ·simp [hlt]
  refine FN.mono (Suint64.madj_c hD (a := pi) (L := a) (H := b) (by omega) hb hn hV hne) ?_
  rintro _ w1 ⟨⟨x1,rfl,hx1⟩,hD1,⟨z1,hV1⟩,hM1⟩
  simp
  refine FN.mono (Suint64.madj_c hD1 (a := pj) (L := a) (H := b) (by omega) hb hn hV1 hne) ?_
  rintro _ w2 ⟨⟨x2,rfl,hx2⟩,hD2,⟨z2,hV2⟩,hM2⟩
  simp
  refine FN.mono (Suint64.madj_c hD2 (a := pk) (L := a) (H := b) (by omega) hb hn hV2 hne) ?_
  rintro _ w3 ⟨⟨x3,rfl,hx3⟩,hD3,⟨z3,hV3⟩,hM3⟩
  simp
  refine FN.mono (Suint64.med_c hD3 (a := x1) (b := x2) (c := x3) (L := a) (H := b) hx1 hx2 hx3 hb hV3 hne) ?_
  rintro _ w4 ⟨⟨x,rfl,hx⟩,hD4,⟨z4,hV4⟩,hM4⟩
  have hM : Mod (Sv v) w w4 := hMa.trans' (((hM1.trans hM2).trans hM3).trans hM4) fun j hj => .inr (by omega)
  simp [hV4.cell]
  by_cases h0 : z4 = 0
  ·simp [h0]; exact ⟨⟨x,rfl,hx⟩,hD4,hM⟩
  ·by_cases h1 : z4 = 12
   ·simp [h1]; exact ⟨⟨x,rfl,hx⟩,hD4,hM⟩
   ·have b0 : (z4 == 0) = false := by simp [h0]
    have b1 : (z4 == 12) = false := by simp [h1]
    simp [b0,b1]; exact ⟨⟨x,rfl,hx⟩,hD4,hM⟩
 ·simp [hlt]
  refine FN.mono (Suint64.med_c hD (a := pi) (b := pj) (c := pk) (L := a) (H := b) (by omega) (by omega) (by omega) hb hV hne) ?_
  rintro _ w4 ⟨⟨x,rfl,hx⟩,hD4,⟨z4,hV4⟩,hM4⟩
  have hM : Mod (Sv v) w w4 := hMa.trans' hM4 fun j hj => .inr (by omega)
  simp [hV4.cell]
  by_cases h0 : z4 = 0
  ·simp [h0]; exact ⟨⟨x,rfl,hx⟩,hD4,hM⟩
  ·by_cases h1 : z4 = 12
   ·simp [h1]; exact ⟨⟨x,rfl,hx⟩,hD4,hM⟩
   ·have b0 : (z4 == 0) = false := by simp [h0]
    have b1 : (z4 == 12) = false := by simp [h1]
    simp [b0,b1]; exact ⟨⟨x,rfl,hx⟩,hD4,hM⟩
end Go.Proofs
namespace Go.Proofs
open Pk
set_option maxRecDepth 10000
set_option maxHeartbeats 4000000 in
theorem Suint64.pis_c {w : World} {v : Value} {d : Array Int} {a b : Nat} (hA : Suint64.A w v d) (hab : a < b) (hb : b ≤ d.size) (hn : d.size ≤ 1048576) :
  FN Tryz.prog 189 [v,.int .i64 a,.int .i64 b] w fun e w' => e = .returned (.bool (Sort.partialInsertionSort Sort.ltInt d a b).2) ∧ Suint64.A w' v (Sort.partialInsertionSort Sort.ltInt d a b).1 ∧ Mod (Sv v) w w' := by
 refine FN_enter Tryz.func189 rfl rfl (by kernel_rfl) ?_
 have w1_ : IntKind.i64.wrap ((a : Int) + 1) = ((a + 1 : Nat) : Int) := wnat _ _ (by omega) (by omega)
 have w2_ : IntKind.i64.wrap ((b : Int) - (a : Int)) = ((b - a : Nat) : Int) := wnat _ _ (by omega) (by omega)
 simp
 rw [w1_]
 refine WC_loop (fun k ρ ds w' => ∃ (st i : Nat) (dk : Array Int), k = 5 - st ∧ st ≤ 5 ∧ a + 1 ≤ i ∧ i ≤ b ∧ ρ 0 = v ∧ ρ 1 = .int .i64 a ∧ ρ 2 = .int .i64 b ∧ ρ 7 = .int .i64 i ∧ ρ 8 = .int .i64 st ∧ ds = [] ∧ Suint64.A w' v dk ∧ dk.size = d.size ∧
  Sort.partialIns Sort.ltInt a b (5 - st) i dk = Sort.partialInsertionSort Sort.ltInt d a b ∧ Mod (Sv v) w w') 5 ⟨0,a + 1,d,?_⟩ ?_
 ·simp
  exact ⟨by omega,hA,rfl,Mod.refl _ _⟩
 ·rintro k ρ ds w1 ⟨st,i0,dk,rfl,hst,hi0,hib0,e0,e1,e2,e7,e8,rfl,hD,hz,hI,hM⟩
  by_cases h5 : st < 5
  ·have g5 : (st : Int) < 5 := by omega
   simp [e8,g5]
   refine WC_loop (fun k ρ ds w' => ∃ i : Nat, k = b - i ∧ a + 1 ≤ i ∧ i ≤ b ∧ ρ 0 = v ∧ ρ 1 = .int .i64 a ∧ ρ 2 = .int .i64 b ∧ ρ 7 = .int .i64 i ∧ ρ 8 = .int .i64 st ∧ ds = [] ∧ Suint64.A w' v dk ∧
    Sort.scanSorted Sort.ltInt dk b i = Sort.scanSorted Sort.ltInt dk b i0 ∧ Mod (Sv v) w w') (b - i0) ⟨i0,?_⟩ ?_
   ·simp [e0,e1,e2,e7,e8]
    exact ⟨hi0,hib0,hD,hM⟩
   ·rintro k ρ ds w2 ⟨i,rfl,hi,hib,e0,e1,e2,e7,e8,rfl,hD,hS,hM⟩
    obtain ⟨p,hp⟩ : ∃ p,i = p + 1 := ⟨i - 1,by omega⟩
    have ew : IntKind.i64.wrap ((i : Int) - 1) = (p : Int) := wnat _ _ (by omega) (by omega)
    have ew2 : IntKind.i64.wrap ((i : Int) + 1) = ((i + 1 : Nat) : Int) := wnat _ _ (by omega) (by omega)
    have ei : IntKind.i64.wrap ((i : Int) - (a : Int)) = ((i - a : Nat) : Int) := wnat _ _ (by omega) (by omega)
    have wd_ : IntKind.i64.wrap ((b : Int) - (i : Int)) = ((b - i : Nat) : Int) := wnat _ _ (by omega) (by omega)
    have wi_ := ew2
    obtain ⟨s,hs⟩ : ∃ s,5 - st = s + 1 := ⟨4 - st,by omega⟩
    simp
    refine WC_drQ 13 rfl (by kernel_rfl) fun W hW => ?_
    replace hD := hD.dr hW
    replace hM := hM.dr hW
    by_cases hlt : i < b
    ·have i1 := Suint64.ix hD i (by omega)
     have i2 := Suint64.ix hD p (by omega)
     obtain ⟨c1,c2,-⟩ := hD.facts i p (by omega) (by omega)
     simp [e0,e2,e7,hlt,i1,i2,ew,c1,c2]
     refine FN.mono (Suint64.less_c (at_ dk i) (at_ dk p) W) ?_
     rintro _ _ ⟨rfl,rfl⟩
     simp
     by_cases hl : Sort.ltInt (at_ dk i) (at_ dk p) = true
     ·rw [scan_end _ hp (.inr hl)] at hS
      have hst2 := pis_step Sort.ltInt a b s i0 dk hS
      rw [hs] at hI
      rw [hI,if_neg (by omega)] at hst2
      have hnb : ((i : Int) == (b : Int)) = false := by simp; omega
      simp [hl,e1,e2,e7,hnb,w2_]
      by_cases h50 : b - a < 50
      ·have g50 : ((b - a : Nat) : Int) < 50 := by omega
       rw [if_pos h50] at hst2
       simp [g50]
       rw [hst2]
       exact ⟨rfl,hD,hM⟩
      ·have g50 : ¬ ((b - a : Nat) : Int) < 50 := by omega
       rw [if_neg h50] at hst2
       simp [g50]
       refine WC_drS 15 rfl (by kernel_rfl) fun W' hW' => ?_
       replace hD := hD.dr hW'
       replace hM := hM.dr hW'
       obtain ⟨c1,c2,f1,c3,f2⟩ := hD.facts i p (by omega) (by omega)
       have hpi : i - 1 = p := by omega
       rw [hpi] at hst2
       obtain ⟨W2,hW2⟩ : ∃ W2,W2 = (W'.setCell ⟨slB v,slO v + i,none⟩ (.int .u64 (at_ dk p))).setCell ⟨slB v,slO v + p,none⟩ (.int .u64 (at_ dk i)) := ⟨_,rfl⟩
       have hD' : Suint64.A W2 v (Sort.swp dk i p) := by rw [hW2]; exact hD.swap (by omega) (by omega)
       replace hM : Mod (Sv v) w W2 := by rw [hW2]; exact hD.mswap hM (by omega) _ _
       simp [e0,e7,i1,i2,ew,c1,c2,f1,c3,f2,e1,ei]
       rw [← hW2]
       replace hz : (Sort.swp dk i p).size = d.size := by rw [size_swp]; exact hz
       clear hD hW2 hW' hW c1 c2 f1 c3 f2
       replace hD := hD'
       clear hD'
       by_cases hdn : 2 ≤ i - a
       ·have g3 : (2 : Int) ≤ ((i - a : Nat) : Int) := by omega
        rw [if_pos hdn] at hst2
        simp [e7,g3,ew]
        refine WC_loop (fun k ρ ds w' => ∃ (j : Nat) (dj : Array Int), k = j ∧ j ≤ p ∧ ρ 0 = v ∧ ρ 1 = .int .i64 a ∧ ρ 2 = .int .i64 b ∧ ρ 7 = .int .i64 i ∧ ρ 8 = .int .i64 st ∧ ρ 9 = .int .i64 j ∧ ds = [] ∧ Suint64.A w' v dj ∧ dj.size = d.size ∧
         Sort.shiftDown Sort.ltInt j dj = Sort.shiftDown Sort.ltInt p (Sort.swp dk i p) ∧ Mod (Sv v) w w') p ⟨p,Sort.swp dk i p,?_⟩ ?_
        ·simp [e0,e1,e2,e7,e8]
         exact ⟨hD,hz,hM⟩
        ·rintro k ρ ds w4 ⟨j,d2,rfl,hj,e0,e1,e2,e7,e8,e9,rfl,hD,hz,hJ,hM⟩
         cases k with
         | zero =>
          rw [down_zero] at hJ
          rw [← hJ] at hst2
          have hE := hst2.symm
          simp [e9,e2,e7]
          by_cases hup : 2 ≤ b - i
          ·have g2 : (2 : Int) ≤ ((b - i : Nat) : Int) := by omega
           rw [if_pos hup] at hE
           simp [e7,wd_,g2,wi_]
           refine WC_loop (fun k ρ ds w' => ∃ (j : Nat) (dj : Array Int), k = b - j ∧ i + 1 ≤ j ∧ ρ 0 = v ∧ ρ 1 = .int .i64 a ∧ ρ 2 = .int .i64 b ∧ ρ 7 = .int .i64 i ∧ ρ 8 = .int .i64 st ∧ ρ 10 = .int .i64 j ∧ ds = [] ∧ Suint64.A w' v dj ∧ dj.size = d.size ∧
            Sort.shiftUp Sort.ltInt b j dj = Sort.shiftUp Sort.ltInt b (i + 1) d2 ∧ Mod (Sv v) w w') (b - (i + 1)) ⟨i + 1,d2,?_⟩ ?_
           ·simp [e0,e1,e2,e7,e8]
            exact ⟨hD,hz,hM⟩
           ·rintro k ρ ds w5 ⟨j,dj,rfl,hj1,e0,e1,e2,e7,e8,e10,rfl,hD,hz,hJ,hM⟩
            have fin : Sort.shiftUp Sort.ltInt b j dj = dj → ∀ W, Suint64.A W v dj → Mod (Sv v) w W → ∃ m', m' < 5 - st ∧ ∃ st' : Nat, m' = 5 - st' ∧ st' ≤ 5 ∧ ∃ x : Nat, a + 1 ≤ x ∧ x ≤ b ∧ (i : Int) = x ∧ IntKind.i64.wrap ((st : Int) + 1) = st' ∧ ∃ dk', Suint64.A W v dk' ∧ dk'.size = d.size ∧
              Sort.partialIns Sort.ltInt a b (5 - st') x dk' = Sort.partialInsertionSort Sort.ltInt d a b ∧ Mod (Sv v) w W := by
             intro hs W hDW hMW
             exact ⟨5 - (st + 1),by omega,st + 1,rfl,by omega,i,hi,by omega,rfl,wnat _ _ (by omega) (by omega),dj,hDW,hz,by rw [← hE,← hJ,hs]; congr 1; omega,hMW⟩
            by_cases hjb : j < b
            ·obtain ⟨p,hp⟩ : ∃ p,j = p + 1 := ⟨j - 1,by omega⟩
             have ew : IntKind.i64.wrap ((j : Int) - 1) = (p : Int) := wnat _ _ (by omega) (by omega)
             have ew2 : IntKind.i64.wrap ((j : Int) + 1) = ((j + 1 : Nat) : Int) := wnat _ _ (by omega) (by omega)
             have i1 := Suint64.ix hD j (by omega)
             have i2 := Suint64.ix hD p (by omega)
             simp [e2,e10,hjb]
             refine WC_drQ 9 rfl (by kernel_rfl) fun W hW => ?_
             replace hD := hD.dr hW
             replace hM := hM.dr hW
             obtain ⟨c1,c2,-⟩ := hD.facts j p (by omega) (by omega)
             simp [e0,e10,i1,i2,ew,c1,c2]
             refine FN.mono (Suint64.less_c (at_ dj j) (at_ dj p) W) ?_
             rintro _ _ ⟨rfl,rfl⟩
             simp
             rw [up_step _ hjb hp] at hJ fin
             by_cases hl : Sort.ltInt (at_ dj j) (at_ dj p) = true
             ·rw [if_pos hl] at hJ
              simp [hl]
              refine WC_drS 15 rfl (by kernel_rfl) fun W' hW' => ?_
              replace hD := hD.dr hW'
              replace hM := hM.dr hW'
              obtain ⟨c1,c2,f1,c3,f2⟩ := hD.facts j p (by omega) (by omega)
              simp [e0,e10,i1,i2,ew,c1,c2,f1,c3,f2,e1,e2,e7,e8]
              rw [ew2]
              exact ⟨b - (j + 1),by omega,j + 1,rfl,by omega,rfl,_,hD.swap (by omega) (by omega),by rw [size_swp]; exact hz,hJ,hD.mswap hM (by omega) _ _⟩
             ·rw [if_neg hl] at fin
              simp [hl,e0,e1,e2,e7,e8]
              exact fin rfl _ hD hM
            ·rw [up_end _ hjb] at fin
             simp [e2,e10,hjb,e0,e1,e7,e8]
             exact fin rfl _ hD hM
          ·have g2 : ¬ (2 : Int) ≤ ((b - i : Nat) : Int) := by omega
           rw [if_neg hup] at hE
           simp [e0,e1,e2,e7,e8,wd_,g2]
           exact ⟨5 - (st + 1),by omega,st + 1,rfl,by omega,i,hi,by omega,rfl,wnat _ _ (by omega) (by omega),d2,hD,hz,by rw [← hE]; congr 1; omega,hM⟩
         | succ t =>
          obtain ⟨k,hk⟩ : ∃ k,k = t + 1 := ⟨_,rfl⟩
          rw [← hk] at e9 hJ
          have ewk : IntKind.i64.wrap ((k : Int) - 1) = (t : Int) := wnat _ _ (by omega) (by omega)
          have gk : (1 : Int) ≤ (k : Int) := by omega
          have i1 := Suint64.ix hD k (by omega)
          have i2 := Suint64.ix hD t (by omega)
          simp [e9,gk]
          refine WC_drQ 9 rfl (by kernel_rfl) fun W hW => ?_
          replace hD := hD.dr hW
          replace hM := hM.dr hW
          obtain ⟨c1,c2,-⟩ := hD.facts k t (by omega) (by omega)
          simp [e0,e9,i1,i2,ewk,c1,c2]
          refine FN.mono (Suint64.less_c (at_ d2 k) (at_ d2 t) W) ?_
          rintro _ _ ⟨rfl,rfl⟩
          simp
          rw [down_step _ hk] at hJ
          by_cases hl : Sort.ltInt (at_ d2 k) (at_ d2 t) = true
          ·rw [if_pos hl] at hJ
           simp [hl]
           refine WC_drS 15 rfl (by kernel_rfl) fun W' hW' => ?_
           replace hD := hD.dr hW'
           replace hM := hM.dr hW'
           obtain ⟨c1,c2,f1,c3,f2⟩ := hD.facts k t (by omega) (by omega)
           simp [e0,e9,i1,i2,ewk,c1,c2,f1,c3,f2,e1,e2,e7,e8]
           exact ⟨t,by omega,by omega,rfl,_,hD.swap (by omega) (by omega),by rw [size_swp]; exact hz,hJ,hD.mswap hM (by omega) _ _⟩
          ·rw [if_neg hl] at hJ
           rw [← hJ] at hst2
           have hE := hst2.symm
           simp [hl,e2,e7]
           by_cases hup : 2 ≤ b - i
           ·have g2 : (2 : Int) ≤ ((b - i : Nat) : Int) := by omega
            rw [if_pos hup] at hE
            simp [e7,wd_,g2,wi_]
            refine WC_loop (fun k ρ ds w' => ∃ (j : Nat) (dj : Array Int), k = b - j ∧ i + 1 ≤ j ∧ ρ 0 = v ∧ ρ 1 = .int .i64 a ∧ ρ 2 = .int .i64 b ∧ ρ 7 = .int .i64 i ∧ ρ 8 = .int .i64 st ∧ ρ 10 = .int .i64 j ∧ ds = [] ∧ Suint64.A w' v dj ∧ dj.size = d.size ∧
             Sort.shiftUp Sort.ltInt b j dj = Sort.shiftUp Sort.ltInt b (i + 1) d2 ∧ Mod (Sv v) w w') (b - (i + 1)) ⟨i + 1,d2,?_⟩ ?_
            ·simp [e0,e1,e2,e7,e8]
             exact ⟨hD,hz,hM⟩
            ·rintro k ρ ds w5 ⟨j,dj,rfl,hj1,e0,e1,e2,e7,e8,e10,rfl,hD,hz,hJ,hM⟩
             have fin : Sort.shiftUp Sort.ltInt b j dj = dj → ∀ W, Suint64.A W v dj → Mod (Sv v) w W → ∃ m', m' < 5 - st ∧ ∃ st' : Nat, m' = 5 - st' ∧ st' ≤ 5 ∧ ∃ x : Nat, a + 1 ≤ x ∧ x ≤ b ∧ (i : Int) = x ∧ IntKind.i64.wrap ((st : Int) + 1) = st' ∧ ∃ dk', Suint64.A W v dk' ∧ dk'.size = d.size ∧
               Sort.partialIns Sort.ltInt a b (5 - st') x dk' = Sort.partialInsertionSort Sort.ltInt d a b ∧ Mod (Sv v) w W := by
              intro hs W hDW hMW
              exact ⟨5 - (st + 1),by omega,st + 1,rfl,by omega,i,hi,by omega,rfl,wnat _ _ (by omega) (by omega),dj,hDW,hz,by rw [← hE,← hJ,hs]; congr 1; omega,hMW⟩
             by_cases hjb : j < b
             ·obtain ⟨p,hp⟩ : ∃ p,j = p + 1 := ⟨j - 1,by omega⟩
              have ew : IntKind.i64.wrap ((j : Int) - 1) = (p : Int) := wnat _ _ (by omega) (by omega)
              have ew2 : IntKind.i64.wrap ((j : Int) + 1) = ((j + 1 : Nat) : Int) := wnat _ _ (by omega) (by omega)
              have i1 := Suint64.ix hD j (by omega)
              have i2 := Suint64.ix hD p (by omega)
              simp [e2,e10,hjb]
              refine WC_drQ 9 rfl (by kernel_rfl) fun W hW => ?_
              replace hD := hD.dr hW
              replace hM := hM.dr hW
              obtain ⟨c1,c2,-⟩ := hD.facts j p (by omega) (by omega)
              simp [e0,e10,i1,i2,ew,c1,c2]
              refine FN.mono (Suint64.less_c (at_ dj j) (at_ dj p) W) ?_
              rintro _ _ ⟨rfl,rfl⟩
              simp
              rw [up_step _ hjb hp] at hJ fin
              by_cases hl : Sort.ltInt (at_ dj j) (at_ dj p) = true
              ·rw [if_pos hl] at hJ
               simp [hl]
               refine WC_drS 15 rfl (by kernel_rfl) fun W' hW' => ?_
               replace hD := hD.dr hW'
               replace hM := hM.dr hW'
               obtain ⟨c1,c2,f1,c3,f2⟩ := hD.facts j p (by omega) (by omega)
               simp [e0,e10,i1,i2,ew,c1,c2,f1,c3,f2,e1,e2,e7,e8]
               rw [ew2]
               exact ⟨b - (j + 1),by omega,j + 1,rfl,by omega,rfl,_,hD.swap (by omega) (by omega),by rw [size_swp]; exact hz,hJ,hD.mswap hM (by omega) _ _⟩
              ·rw [if_neg hl] at fin
               simp [hl,e0,e1,e2,e7,e8]
               exact fin rfl _ hD hM
             ·rw [up_end _ hjb] at fin
              simp [e2,e10,hjb,e0,e1,e7,e8]
              exact fin rfl _ hD hM
           ·have g2 : ¬ (2 : Int) ≤ ((b - i : Nat) : Int) := by omega
            rw [if_neg hup] at hE
            simp [e0,e1,e2,e7,e8,wd_,g2]
            exact ⟨5 - (st + 1),by omega,st + 1,rfl,by omega,i,hi,by omega,rfl,wnat _ _ (by omega) (by omega),d2,hD,hz,by rw [← hE]; congr 1; omega,hM⟩
       ·have g3 : ¬ (2 : Int) ≤ ((i - a : Nat) : Int) := by omega
        rw [if_neg hdn] at hst2
        simp [e2,e7,g3]
        obtain ⟨d2,hd2⟩ : ∃ d2,d2 = Sort.swp dk i p := ⟨_,rfl⟩
        rw [← hd2] at hst2 hz hD
        have hE := hst2.symm
        by_cases hup : 2 ≤ b - i
        ·have g2 : (2 : Int) ≤ ((b - i : Nat) : Int) := by omega
         rw [if_pos hup] at hE
         simp [e7,wd_,g2,wi_]
         refine WC_loop (fun k ρ ds w' => ∃ (j : Nat) (dj : Array Int), k = b - j ∧ i + 1 ≤ j ∧ ρ 0 = v ∧ ρ 1 = .int .i64 a ∧ ρ 2 = .int .i64 b ∧ ρ 7 = .int .i64 i ∧ ρ 8 = .int .i64 st ∧ ρ 10 = .int .i64 j ∧ ds = [] ∧ Suint64.A w' v dj ∧ dj.size = d.size ∧
          Sort.shiftUp Sort.ltInt b j dj = Sort.shiftUp Sort.ltInt b (i + 1) d2 ∧ Mod (Sv v) w w') (b - (i + 1)) ⟨i + 1,d2,?_⟩ ?_
         ·simp [e0,e1,e2,e7,e8]
          exact ⟨hD,hz,hM⟩
         ·rintro k ρ ds w5 ⟨j,dj,rfl,hj1,e0,e1,e2,e7,e8,e10,rfl,hD,hz,hJ,hM⟩
          have fin : Sort.shiftUp Sort.ltInt b j dj = dj → ∀ W, Suint64.A W v dj → Mod (Sv v) w W → ∃ m', m' < 5 - st ∧ ∃ st' : Nat, m' = 5 - st' ∧ st' ≤ 5 ∧ ∃ x : Nat, a + 1 ≤ x ∧ x ≤ b ∧ (i : Int) = x ∧ IntKind.i64.wrap ((st : Int) + 1) = st' ∧ ∃ dk', Suint64.A W v dk' ∧ dk'.size = d.size ∧
            Sort.partialIns Sort.ltInt a b (5 - st') x dk' = Sort.partialInsertionSort Sort.ltInt d a b ∧ Mod (Sv v) w W := by
           intro hs W hDW hMW
           exact ⟨5 - (st + 1),by omega,st + 1,rfl,by omega,i,hi,by omega,rfl,wnat _ _ (by omega) (by omega),dj,hDW,hz,by rw [← hE,← hJ,hs]; congr 1; omega,hMW⟩
          by_cases hjb : j < b
          ·obtain ⟨p,hp⟩ : ∃ p,j = p + 1 := ⟨j - 1,by omega⟩
           have ew : IntKind.i64.wrap ((j : Int) - 1) = (p : Int) := wnat _ _ (by omega) (by omega)
           have ew2 : IntKind.i64.wrap ((j : Int) + 1) = ((j + 1 : Nat) : Int) := wnat _ _ (by omega) (by omega)
           have i1 := Suint64.ix hD j (by omega)
           have i2 := Suint64.ix hD p (by omega)
           simp [e2,e10,hjb]
           refine WC_drQ 9 rfl (by kernel_rfl) fun W hW => ?_
           replace hD := hD.dr hW
           replace hM := hM.dr hW
           obtain ⟨c1,c2,-⟩ := hD.facts j p (by omega) (by omega)
           simp [e0,e10,i1,i2,ew,c1,c2]
           refine FN.mono (Suint64.less_c (at_ dj j) (at_ dj p) W) ?_
           rintro _ _ ⟨rfl,rfl⟩
           simp
           rw [up_step _ hjb hp] at hJ fin
           by_cases hl : Sort.ltInt (at_ dj j) (at_ dj p) = true
           ·rw [if_pos hl] at hJ
            simp [hl]
            refine WC_drS 15 rfl (by kernel_rfl) fun W' hW' => ?_
            replace hD := hD.dr hW'
            replace hM := hM.dr hW'
            obtain ⟨c1,c2,f1,c3,f2⟩ := hD.facts j p (by omega) (by omega)
            simp [e0,e10,i1,i2,ew,c1,c2,f1,c3,f2,e1,e2,e7,e8]
            rw [ew2]
            exact ⟨b - (j + 1),by omega,j + 1,rfl,by omega,rfl,_,hD.swap (by omega) (by omega),by rw [size_swp]; exact hz,hJ,hD.mswap hM (by omega) _ _⟩
           ·rw [if_neg hl] at fin
            simp [hl,e0,e1,e2,e7,e8]
            exact fin rfl _ hD hM
          ·rw [up_end _ hjb] at fin
           simp [e2,e10,hjb,e0,e1,e7,e8]
           exact fin rfl _ hD hM
        ·have g2 : ¬ (2 : Int) ≤ ((b - i : Nat) : Int) := by omega
         rw [if_neg hup] at hE
         simp [e0,e1,e2,e7,e8,wd_,g2]
         exact ⟨5 - (st + 1),by omega,st + 1,rfl,by omega,i,hi,by omega,rfl,wnat _ _ (by omega) (by omega),d2,hD,hz,by rw [← hE]; congr 1; omega,hM⟩
     ·have hl' : Sort.ltInt (at_ dk i) (at_ dk p) = false := Bool.eq_false_iff.2 hl
      rw [← scan_go _ hlt hp hl'] at hS
      simp [hl',e0,e1,e2,e7,e8]
      rw [ew2]
      exact ⟨b - (i + 1),by omega,i + 1,rfl,by omega,by omega,rfl,hD,hS,hM⟩
    ·have hbi : b = i := by omega
     rw [scan_end _ hp (.inl hlt)] at hS
     have hst2 := pis_step Sort.ltInt a b s i0 dk hS
     rw [hs] at hI
     rw [hI,if_pos (by omega)] at hst2
     have gib : ((i : Int) == (b : Int)) = true := by simp; omega
     simp [e2,e7,hlt,gib]
     rw [hst2]
     exact ⟨rfl,hD,hM⟩
  ·have g5 : ¬ (st : Int) < 5 := by omega
   have : 5 - st = 0 := by omega
   rw [this,pis_end] at hI
   simp [e8,g5]
   rw [← hI]
   exact ⟨rfl,hD,hM⟩
end Go.Proofs
namespace Go.Proofs
open Pk
set_option maxRecDepth 10000
/- SCAN: $1 i's slot,$2 j's slot,$3 the upward test,$4 the downward test,$5 less's arguments (up,of i2),$6 (down,of j2),$7 what less says when the upward scan goes on,$8 the downward one,$9 what follows -/
set_option maxHeartbeats 4000000 in
theorem Suint64.peq_c {w : World} {v : Value} {d : Array Int} {a b pivot : Nat} (hA : Suint64.A w v d) (hap : a ≤ pivot) (hpb : pivot < b) (hb : b ≤ d.size) (hn : d.size ≤ 1048576) :
  FN Tryz.prog 191 [v,.int .i64 a,.int .i64 b,.int .i64 pivot] w fun e w' => e = .returned (.int .i64 (Sort.partitionEqual Sort.ltInt d a b pivot).1) ∧ Suint64.A w' v (Sort.partitionEqual Sort.ltInt d a b pivot).2 ∧ Mod (Sv v) w w' := by
 refine FN_enter Tryz.func191 rfl rfl (by kernel_rfl) ?_
 have w1_ : IntKind.i64.wrap ((a : Int) + 1) = ((a + 1 : Nat) : Int) := wnat _ _ (by omega) (by omega)
 have w2_ : IntKind.i64.wrap ((b : Int) - 1) = ((b - 1 : Nat) : Int) := wnat _ _ (by omega) (by omega)
 have ia := Suint64.ix hA a (by omega)
 have ip := Suint64.ix hA pivot (by omega)
 simp
 refine WC_drS 13 rfl (by kernel_rfl) fun W hW => ?_
 have hD := hA.dr hW
 have hM : Mod (Sv v) w W := (Mod.refl _ _).dr hW
 obtain ⟨c1,c2,f1,c3,f2⟩ := hD.facts a pivot (by omega) (by omega)
 simp [ia,ip,c1,c2,f1,c3,f2]
 rw [w1_,w2_]
 have hD1 := hD.swap (i := a) (j := pivot) (by omega) (by omega)
 have hM1 := hD.mswap (j := pivot) hM (i := a) (by omega) (.int .u64 (at_ d pivot)) (.int .u64 (at_ d a))
 refine WC_loop (fun k ρ ds w' => ∃ (i j : Nat) (dk : Array Int), k = j + 1 - i ∧ a < i ∧ i ≤ j + 1 ∧ j < b ∧ ρ 0 = v ∧ ρ 1 = .int .i64 a ∧ ρ 9 = .int .i64 i ∧ ρ 10 = .int .i64 j ∧ ds = [] ∧ Suint64.A w' v dk ∧ dk.size = d.size ∧
  Sort.partEqLoop Sort.ltInt a i j dk = Sort.partEqLoop Sort.ltInt a (a + 1) (b - 1) (Sort.swp d a pivot) ∧ Mod (Sv v) w w') (b - 1 + 1 - (a + 1)) ⟨a + 1,b - 1,Sort.swp d a pivot,?_⟩ ?_
 ·simp
  exact ⟨by omega,by omega,hD1,size_swp _ _ _,hM1⟩
 ·rintro k ρ ds w1 ⟨i,j,dk,rfl,hai,hij,hjb,e0,e1,ei,ej,rfl,hD,hz,hI,hM⟩
  simp
  refine WC_loop (fun k ρ ds w' => ∃ i2 : Nat, k = j + 1 - i2 ∧ i ≤ i2 ∧ i2 ≤ j + 1 ∧ ρ 0 = v ∧ ρ 1 = .int .i64 a ∧ ρ 9 = .int .i64 i2 ∧ ρ 10 = .int .i64 j ∧ ds = [] ∧ Suint64.A w' v dk ∧
   Sort.scanUp (fun x => !Sort.ltInt dk[a]! x) dk j i2 = Sort.scanUp (fun x => !Sort.ltInt dk[a]! x) dk j i ∧ Mod (Sv v) w w') (j + 1 - i) ⟨i,?_⟩ ?_
  ·simp [e0,e1,ei,ej]
   exact ⟨hij,hD,hM⟩
  ·rintro k ρ ds w2 ⟨i2,rfl,hi2,hij2,e0,e1,ei,ej,rfl,hD,hS,hM⟩
   have wi_ : IntKind.i64.wrap ((i2 : Int) + 1) = ((i2 + 1 : Nat) : Int) := wnat _ _ (by omega) (by omega)
   have ia := Suint64.ix hD a (by omega)
   simp
   refine WC_drQ 12 rfl (by kernel_rfl) fun W hW => ?_
   replace hD := hD.dr hW
   replace hM := hM.dr hW
   by_cases hle : i2 ≤ j
   ·have ii := Suint64.ix hD i2 (by omega)
    obtain ⟨ca,ci,-⟩ := hD.facts a i2 (by omega) (by omega)
    simp [e0,e1,ei,ej,hle,ia,ii,ca,ci]
    refine FN.mono (Suint64.less_c (at_ dk a) (at_ dk i2) W) ?_
    rintro _ _ ⟨rfl,rfl⟩
    simp
    by_cases hl : Sort.ltInt (at_ dk a) (at_ dk i2) = false
    ·rw [← su_go (fun x => !Sort.ltInt dk[a]! x) hle (by simpa [at_] using hl)] at hS
     simp [hl,e0,e1,ei,ej]
     rw [wi_]
     exact ⟨j + 1 - (i2 + 1),by omega,i2 + 1,rfl,by omega,by omega,rfl,hD,hS,hM⟩
    ·replace hl := (Bool.eq_not).2 hl
     simp only [Bool.not_false] at hl
     have hu : i2 ≤ j → Sort.ltInt (at_ dk a) (at_ dk i2) = !false := fun _ => hl
     rw [su_end (fun x => !Sort.ltInt dk[a]! x) (.inr (by simpa [at_] using hl))] at hS
     simp [hl]
     refine WC_loop (fun k ρ ds w' => ∃ j2 : Nat, k = j2 ∧ j2 ≤ j ∧ i2 ≤ j2 + 1 ∧ ρ 0 = v ∧ ρ 1 = .int .i64 a ∧ ρ 9 = .int .i64 i2 ∧ ρ 10 = .int .i64 j2 ∧ ds = [] ∧ Suint64.A w' v dk ∧
      Sort.scanDown (fun x => Sort.ltInt dk[a]! x) dk i2 j2 = Sort.scanDown (fun x => Sort.ltInt dk[a]! x) dk i2 j ∧ Mod (Sv v) w w') j ⟨j,?_⟩ ?_
     ·simp [e0,e1,ei,ej]
      exact ⟨hij2,hD,hM⟩
     ·rintro k ρ ds w2 ⟨j2,rfl,hj2,hij3,e0,e1,ei,ej,rfl,hD,hT,hM⟩
      have ia := Suint64.ix hD a (by omega)
      simp
      refine WC_drQ 12 rfl (by kernel_rfl) fun W hW => ?_
      replace hD := hD.dr hW
      replace hM := hM.dr hW
      by_cases hle : i2 ≤ k
      ·obtain ⟨p,hp⟩ : ∃ p,k = p + 1 := ⟨k - 1,by omega⟩
       have wj_ : IntKind.i64.wrap ((k : Int) - 1) = (p : Int) := wnat _ _ (by omega) (by omega)
       have ik := Suint64.ix hD k (by omega)
       obtain ⟨ca,ck,-⟩ := hD.facts a k (by omega) (by omega)
       simp [e0,e1,ei,ej,hle,ia,ik,ca,ck]
       refine FN.mono (Suint64.less_c (at_ dk a) (at_ dk k) W) ?_
       rintro _ _ ⟨rfl,rfl⟩
       simp
       by_cases hl2 : Sort.ltInt (at_ dk a) (at_ dk k) = true
       ·rw [← sd_go (fun x => Sort.ltInt dk[a]! x) hle hp (by simpa [at_] using hl2)] at hT
        simp [hl2,e0,e1,ei,ej,wj_]
        exact ⟨p,by omega,by omega,by omega,rfl,hD,hT,hM⟩
       ·replace hl2 := (Bool.eq_not).2 hl2
        simp only [Bool.not_true] at hl2
        have hd : i2 ≤ k → Sort.ltInt (at_ dk a) (at_ dk k) = !true := fun _ => hl2
        rw [sd_end (fun x => Sort.ltInt dk[a]! x) (.inr (by simpa [at_] using hl2))] at hT
        simp [hl2]
        rw [Sort.partEqLoop_eq,← hS] at hI
        have hT' : k = Sort.scanDown (fun x => Sort.ltInt dk[a]! x) dk i2 j := hT
        rw [← hT'] at hI
        by_cases hgt : k < i2
        ·rw [if_pos hgt] at hI
         simp [ei,ej,hgt]
         unfold Sort.partitionEqual
         rw [← hI]
         exact ⟨rfl,hD,hM⟩
        ·rw [if_neg hgt] at hI
         have hne : i2 ≠ k := fun e => by
          have h1 := hu (by omega)
          have h2 := hd (by omega)
          rw [e] at h1; rw [h1] at h2; cases h2
         have wi2_ : IntKind.i64.wrap ((i2 : Int) + 1) = ((i2 + 1 : Nat) : Int) := wnat _ _ (by omega) (by omega)
         have wk_ : IntKind.i64.wrap ((k : Int) - 1) = ((k - 1 : Nat) : Int) := wnat _ _ (by omega) (by omega)
         have ii := Suint64.ix hD i2 (by omega)
         have ik := Suint64.ix hD k (by omega)
         simp [ei,ej,hgt]
         refine WC_drS 13 rfl (by kernel_rfl) fun W2 hW2 => ?_
         replace hD := hD.dr hW2
         replace hM := hM.dr hW2
         obtain ⟨c1,c2,f1,c3,f2⟩ := hD.facts i2 k (by omega) (by omega)
         simp [e0,e1,ei,ej,ii,ik,c1,c2,f1,c3,f2]
         rw [wi2_,wk_]
         exact ⟨k - 1 + 1 - (i2 + 1),by omega,i2 + 1,k - 1,rfl,by omega,by omega,by omega,rfl,rfl,_,hD.swap (by omega) (by omega),by rw [size_swp]; exact hz,hI,hD.mswap hM (by omega) _ _⟩
      ·have hd : i2 ≤ k → Sort.ltInt (at_ dk a) (at_ dk k) = !true := fun h => (hle h).elim
       rw [sd_end (fun x => Sort.ltInt dk[a]! x) (.inl hle)] at hT
       simp [ei,ej,hle]
       rw [Sort.partEqLoop_eq,← hS] at hI
       have hT' : k = Sort.scanDown (fun x => Sort.ltInt dk[a]! x) dk i2 j := hT
       rw [← hT'] at hI
       by_cases hgt : k < i2
       ·rw [if_pos hgt] at hI
        simp [ei,hgt]
        unfold Sort.partitionEqual
        rw [← hI]
        exact ⟨rfl,hD,hM⟩
       ·rw [if_neg hgt] at hI
        have hne : i2 ≠ k := fun e => by
         have h1 := hu (by omega)
         have h2 := hd (by omega)
         rw [e] at h1; rw [h1] at h2; cases h2
        have wi2_ : IntKind.i64.wrap ((i2 : Int) + 1) = ((i2 + 1 : Nat) : Int) := wnat _ _ (by omega) (by omega)
        have wk_ : IntKind.i64.wrap ((k : Int) - 1) = ((k - 1 : Nat) : Int) := wnat _ _ (by omega) (by omega)
        have ii := Suint64.ix hD i2 (by omega)
        have ik := Suint64.ix hD k (by omega)
        simp [hgt]
        refine WC_drS 13 rfl (by kernel_rfl) fun W2 hW2 => ?_
        replace hD := hD.dr hW2
        replace hM := hM.dr hW2
        obtain ⟨c1,c2,f1,c3,f2⟩ := hD.facts i2 k (by omega) (by omega)
        simp [e0,e1,ei,ej,ii,ik,c1,c2,f1,c3,f2]
        rw [wi2_,wk_]
        exact ⟨k - 1 + 1 - (i2 + 1),by omega,i2 + 1,k - 1,rfl,by omega,by omega,by omega,rfl,rfl,_,hD.swap (by omega) (by omega),by rw [size_swp]; exact hz,hI,hD.mswap hM (by omega) _ _⟩
   ·have hu : i2 ≤ j → Sort.ltInt (at_ dk a) (at_ dk i2) = !false := fun h => (hle h).elim
    rw [su_end (fun x => !Sort.ltInt dk[a]! x) (.inl hle)] at hS
    simp [ei,ej,hle]
    refine WC_loop (fun k ρ ds w' => ∃ j2 : Nat, k = j2 ∧ j2 ≤ j ∧ i2 ≤ j2 + 1 ∧ ρ 0 = v ∧ ρ 1 = .int .i64 a ∧ ρ 9 = .int .i64 i2 ∧ ρ 10 = .int .i64 j2 ∧ ds = [] ∧ Suint64.A w' v dk ∧
     Sort.scanDown (fun x => Sort.ltInt dk[a]! x) dk i2 j2 = Sort.scanDown (fun x => Sort.ltInt dk[a]! x) dk i2 j ∧ Mod (Sv v) w w') j ⟨j,?_⟩ ?_
    ·simp [e0,e1,ei,ej]
     exact ⟨hij2,hD,hM⟩
    ·rintro k ρ ds w2 ⟨j2,rfl,hj2,hij3,e0,e1,ei,ej,rfl,hD,hT,hM⟩
     have ia := Suint64.ix hD a (by omega)
     simp
     refine WC_drQ 12 rfl (by kernel_rfl) fun W hW => ?_
     replace hD := hD.dr hW
     replace hM := hM.dr hW
     by_cases hle : i2 ≤ k
     ·obtain ⟨p,hp⟩ : ∃ p,k = p + 1 := ⟨k - 1,by omega⟩
      have wj_ : IntKind.i64.wrap ((k : Int) - 1) = (p : Int) := wnat _ _ (by omega) (by omega)
      have ik := Suint64.ix hD k (by omega)
      obtain ⟨ca,ck,-⟩ := hD.facts a k (by omega) (by omega)
      simp [e0,e1,ei,ej,hle,ia,ik,ca,ck]
      refine FN.mono (Suint64.less_c (at_ dk a) (at_ dk k) W) ?_
      rintro _ _ ⟨rfl,rfl⟩
      simp
      by_cases hl2 : Sort.ltInt (at_ dk a) (at_ dk k) = true
      ·rw [← sd_go (fun x => Sort.ltInt dk[a]! x) hle hp (by simpa [at_] using hl2)] at hT
       simp [hl2,e0,e1,ei,ej,wj_]
       exact ⟨p,by omega,by omega,by omega,rfl,hD,hT,hM⟩
      ·replace hl2 := (Bool.eq_not).2 hl2
       simp only [Bool.not_true] at hl2
       have hd : i2 ≤ k → Sort.ltInt (at_ dk a) (at_ dk k) = !true := fun _ => hl2
       rw [sd_end (fun x => Sort.ltInt dk[a]! x) (.inr (by simpa [at_] using hl2))] at hT
       simp [hl2]
       rw [Sort.partEqLoop_eq,← hS] at hI
       have hT' : k = Sort.scanDown (fun x => Sort.ltInt dk[a]! x) dk i2 j := hT
       rw [← hT'] at hI
       by_cases hgt : k < i2
       ·rw [if_pos hgt] at hI
        simp [ei,ej,hgt]
        unfold Sort.partitionEqual
        rw [← hI]
        exact ⟨rfl,hD,hM⟩
       ·rw [if_neg hgt] at hI
        have hne : i2 ≠ k := fun e => by
         have h1 := hu (by omega)
         have h2 := hd (by omega)
         rw [e] at h1; rw [h1] at h2; cases h2
        have wi2_ : IntKind.i64.wrap ((i2 : Int) + 1) = ((i2 + 1 : Nat) : Int) := wnat _ _ (by omega) (by omega)
        have wk_ : IntKind.i64.wrap ((k : Int) - 1) = ((k - 1 : Nat) : Int) := wnat _ _ (by omega) (by omega)
        have ii := Suint64.ix hD i2 (by omega)
        have ik := Suint64.ix hD k (by omega)
        simp [ei,ej,hgt]
        refine WC_drS 13 rfl (by kernel_rfl) fun W2 hW2 => ?_
        replace hD := hD.dr hW2
        replace hM := hM.dr hW2
        obtain ⟨c1,c2,f1,c3,f2⟩ := hD.facts i2 k (by omega) (by omega)
        simp [e0,e1,ei,ej,ii,ik,c1,c2,f1,c3,f2]
        rw [wi2_,wk_]
        exact ⟨k - 1 + 1 - (i2 + 1),by omega,i2 + 1,k - 1,rfl,by omega,by omega,by omega,rfl,rfl,_,hD.swap (by omega) (by omega),by rw [size_swp]; exact hz,hI,hD.mswap hM (by omega) _ _⟩
     ·have hd : i2 ≤ k → Sort.ltInt (at_ dk a) (at_ dk k) = !true := fun h => (hle h).elim
      rw [sd_end (fun x => Sort.ltInt dk[a]! x) (.inl hle)] at hT
      simp [ei,ej,hle]
      rw [Sort.partEqLoop_eq,← hS] at hI
      have hT' : k = Sort.scanDown (fun x => Sort.ltInt dk[a]! x) dk i2 j := hT
      rw [← hT'] at hI
      by_cases hgt : k < i2
      ·rw [if_pos hgt] at hI
       simp [ei,hgt]
       unfold Sort.partitionEqual
       rw [← hI]
       exact ⟨rfl,hD,hM⟩
      ·rw [if_neg hgt] at hI
       have hne : i2 ≠ k := fun e => by
        have h1 := hu (by omega)
        have h2 := hd (by omega)
        rw [e] at h1; rw [h1] at h2; cases h2
       have wi2_ : IntKind.i64.wrap ((i2 : Int) + 1) = ((i2 + 1 : Nat) : Int) := wnat _ _ (by omega) (by omega)
       have wk_ : IntKind.i64.wrap ((k : Int) - 1) = ((k - 1 : Nat) : Int) := wnat _ _ (by omega) (by omega)
       have ii := Suint64.ix hD i2 (by omega)
       have ik := Suint64.ix hD k (by omega)
       simp [hgt]
       refine WC_drS 13 rfl (by kernel_rfl) fun W2 hW2 => ?_
       replace hD := hD.dr hW2
       replace hM := hM.dr hW2
       obtain ⟨c1,c2,f1,c3,f2⟩ := hD.facts i2 k (by omega) (by omega)
       simp [e0,e1,ei,ej,ii,ik,c1,c2,f1,c3,f2]
       rw [wi2_,wk_]
       exact ⟨k - 1 + 1 - (i2 + 1),by omega,i2 + 1,k - 1,rfl,by omega,by omega,by omega,rfl,rfl,_,hD.swap (by omega) (by omega),by rw [size_swp]; exact hz,hI,hD.mswap hM (by omega) _ _⟩
end Go.Proofs
namespace Go.Proofs
open Pk
set_option maxRecDepth 10000
set_option maxHeartbeats 8000000 in
theorem Suint64.part_c {w : World} {v : Value} {d : Array Int} {a b pivot : Nat} (hA : Suint64.A w v d) (hap : a ≤ pivot) (hpb : pivot < b) (hb : b ≤ d.size) (hn : d.size ≤ 1048576) :
  FN Tryz.prog 192 [v,.int .i64 a,.int .i64 b,.int .i64 pivot] w fun e w' => (∃ fl,e = .returned (.tuple #[.int .i64 (Sort.partition Sort.ltInt d a b pivot).1,.bool fl])) ∧ Suint64.A w' v (Sort.partition Sort.ltInt d a b pivot).2.2 ∧ Mod (Sv v) w w' := by
 refine FN_enter Tryz.func192 rfl rfl (by kernel_rfl) ?_
 have w1_ : IntKind.i64.wrap ((a : Int) + 1) = ((a + 1 : Nat) : Int) := wnat _ _ (by omega) (by omega)
 have w2_ : IntKind.i64.wrap ((b : Int) - 1) = ((b - 1 : Nat) : Int) := wnat _ _ (by omega) (by omega)
 have ia := Suint64.ix hA a (by omega)
 have ip := Suint64.ix hA pivot (by omega)
 simp
 refine WC_drS 13 rfl (by kernel_rfl) fun W hW => ?_
 have hD := hA.dr hW
 have hM : Mod (Sv v) w W := (Mod.refl _ _).dr hW
 obtain ⟨c1,c2,f1,c3,f2⟩ := hD.facts a pivot (by omega) (by omega)
 simp [ia,ip,c1,c2,f1,c3,f2]
 rw [w1_,w2_]
 replace hM := hD.mswap (j := pivot) hM (i := a) (by omega) (.int .u64 (at_ d pivot)) (.int .u64 (at_ d a))
 replace hD := hD.swap (i := a) (j := pivot) (by omega) (by omega)
 obtain ⟨dk,hdk⟩ : ∃ dk,dk = Sort.swp d a pivot := ⟨_,rfl⟩
 obtain ⟨i,hi⟩ : ∃ i,i = a + 1 := ⟨_,rfl⟩
 obtain ⟨j,hj⟩ : ∃ j,j = b - 1 := ⟨_,rfl⟩
 have hI : Sort.partLoop Sort.ltInt a i j dk = Sort.partLoop Sort.ltInt a (a + 1) (b - 1) (Sort.swp d a pivot) := by rw [hi,hj,hdk]
 have hz : dk.size = d.size := by rw [hdk]; exact size_swp _ _ _
 rw [← hdk] at hD
 rw [← hi,← hj]
 have hai : a < i := by omega
 have hij : i ≤ j + 1 := by omega
 have hjb : j < b := by omega
 clear hdk c1 c2 f1 c3 f2
 refine WC_gen (fun σ => σ 0 = v ∧ σ 1 = .int .i64 a ∧ σ 10 = .int .i64 i ∧ σ 11 = .int .i64 j) (by simp) fun σ ⟨e0,e1,ei,ej⟩ => ?_
 refine WC_loop (fun k ρ ds w' => ∃ i2 : Nat, k = j + 1 - i2 ∧ i ≤ i2 ∧ i2 ≤ j + 1 ∧ ρ 0 = v ∧ ρ 1 = .int .i64 a ∧ ρ 10 = .int .i64 i2 ∧ ρ 11 = .int .i64 j ∧ ds = [] ∧ Suint64.A w' v dk ∧
  Sort.scanUp (fun x => Sort.ltInt x dk[a]!) dk j i2 = Sort.scanUp (fun x => Sort.ltInt x dk[a]!) dk j i ∧ Mod (Sv v) w w') (j + 1 - i) ⟨i,?_⟩ ?_
 ·simp [e0,e1,ei,ej]
  exact ⟨hij,hD,hM⟩
 ·rintro k ρ ds w2 ⟨i2,rfl,hi2,hij2,e0,e1,ei,ej,rfl,hD,hS,hM⟩
  have wi_ : IntKind.i64.wrap ((i2 : Int) + 1) = ((i2 + 1 : Nat) : Int) := wnat _ _ (by omega) (by omega)
  have ia := Suint64.ix hD a (by omega)
  simp
  refine WC_drQ 12 rfl (by kernel_rfl) fun W hW => ?_
  replace hD := hD.dr hW
  replace hM := hM.dr hW
  by_cases hle : i2 ≤ j
  ·have ii := Suint64.ix hD i2 (by omega)
   obtain ⟨ca,ci,-⟩ := hD.facts a i2 (by omega) (by omega)
   simp [e0,e1,ei,ej,hle,ia,ii,ca,ci]
   refine FN.mono (Suint64.less_c (at_ dk i2) (at_ dk a) W) ?_
   rintro _ _ ⟨rfl,rfl⟩
   simp
   by_cases hl : Sort.ltInt (at_ dk i2) (at_ dk a) = true
   ·rw [← su_go (fun x => Sort.ltInt x dk[a]!) hle (by simpa [at_] using hl)] at hS
    simp [hl,e0,e1,ei,ej]
    rw [wi_]
    exact ⟨j + 1 - (i2 + 1),by omega,i2 + 1,rfl,by omega,by omega,rfl,hD,hS,hM⟩
   ·replace hl := (Bool.eq_not).2 hl
    simp only [Bool.not_true] at hl
    have hu : i2 ≤ j → Sort.ltInt (at_ dk i2) (at_ dk a) = !true := fun _ => hl
    rw [su_end (fun x => Sort.ltInt x dk[a]!) (.inr (by simpa [at_] using hl))] at hS
    simp [hl]
    refine WC_loop (fun k ρ ds w' => ∃ j2 : Nat, k = j2 ∧ j2 ≤ j ∧ i2 ≤ j2 + 1 ∧ ρ 0 = v ∧ ρ 1 = .int .i64 a ∧ ρ 10 = .int .i64 i2 ∧ ρ 11 = .int .i64 j2 ∧ ds = [] ∧ Suint64.A w' v dk ∧
     Sort.scanDown (fun x => !Sort.ltInt x dk[a]!) dk i2 j2 = Sort.scanDown (fun x => !Sort.ltInt x dk[a]!) dk i2 j ∧ Mod (Sv v) w w') j ⟨j,?_⟩ ?_
    ·simp [e0,e1,ei,ej]
     exact ⟨hij2,hD,hM⟩
    ·rintro k ρ ds w2 ⟨j2,rfl,hj2,hij3,e0,e1,ei,ej,rfl,hD,hT,hM⟩
     have ia := Suint64.ix hD a (by omega)
     simp
     refine WC_drQ 12 rfl (by kernel_rfl) fun W hW => ?_
     replace hD := hD.dr hW
     replace hM := hM.dr hW
     by_cases hle : i2 ≤ k
     ·obtain ⟨p,hp⟩ : ∃ p,k = p + 1 := ⟨k - 1,by omega⟩
      have wj_ : IntKind.i64.wrap ((k : Int) - 1) = (p : Int) := wnat _ _ (by omega) (by omega)
      have ik := Suint64.ix hD k (by omega)
      obtain ⟨ca,ck,-⟩ := hD.facts a k (by omega) (by omega)
      simp [e0,e1,ei,ej,hle,ia,ik,ca,ck]
      refine FN.mono (Suint64.less_c (at_ dk k) (at_ dk a) W) ?_
      rintro _ _ ⟨rfl,rfl⟩
      simp
      by_cases hl2 : Sort.ltInt (at_ dk k) (at_ dk a) = false
      ·rw [← sd_go (fun x => !Sort.ltInt x dk[a]!) hle hp (by simpa [at_] using hl2)] at hT
       simp [hl2,e0,e1,ei,ej,wj_]
       exact ⟨p,by omega,by omega,by omega,rfl,hD,hT,hM⟩
      ·replace hl2 := (Bool.eq_not).2 hl2
       simp only [Bool.not_false] at hl2
       have hd : i2 ≤ k → Sort.ltInt (at_ dk k) (at_ dk a) = !false := fun _ => hl2
       rw [sd_end (fun x => !Sort.ltInt x dk[a]!) (.inr (by simpa [at_] using hl2))] at hT
       simp [hl2]
       rw [Sort.partLoop_eq,← hS] at hI
       have hT' : k = Sort.scanDown (fun x => !Sort.ltInt x dk[a]!) dk i2 j := hT
       rw [← hT'] at hI
       by_cases hgt : k < i2
       ·have ia := Suint64.ix hD a (by omega)
        have ik := Suint64.ix hD k (by omega)
        rw [if_pos hgt] at hI
        simp [ei,ej,hgt]
        refine WC_drS 13 rfl (by kernel_rfl) fun W2 hW2 => ?_
        replace hD := hD.dr hW2
        replace hM := hM.dr hW2
        obtain ⟨c1,c2,f1,c3,f2⟩ := hD.facts k a (by omega) (by omega)
        simp [e0,e1,ej,ia,ik,c1,c2,f1,c3,f2]
        rw [Sort.partition_fst,Sort.partition_arr,← hI]
        exact ⟨rfl,hD.swap (by omega) (by omega),hD.mswap hM (by omega) _ _⟩
       ·rw [if_neg hgt] at hI
        have hne : i2 ≠ k := fun e => by
         have h1 := hu (by omega)
         have h2 := hd (by omega)
         rw [e] at h1; rw [h1] at h2; cases h2
        have wi2_ : IntKind.i64.wrap ((i2 : Int) + 1) = ((i2 + 1 : Nat) : Int) := wnat _ _ (by omega) (by omega)
        have wk_ : IntKind.i64.wrap ((k : Int) - 1) = ((k - 1 : Nat) : Int) := wnat _ _ (by omega) (by omega)
        have ii := Suint64.ix hD i2 (by omega)
        have ik := Suint64.ix hD k (by omega)
        simp [ei,ej,hgt]
        refine WC_drS 13 rfl (by kernel_rfl) fun W2 hW2 => ?_
        replace hD := hD.dr hW2
        replace hM := hM.dr hW2
        obtain ⟨c1,c2,f1,c3,f2⟩ := hD.facts i2 k (by omega) (by omega)
        have hD2 := hD.swap (i := i2) (j := k) (by omega) (by omega)
        have hM2 := hD.mswap (j := k) hM (i := i2) (by omega) (.int .u64 (at_ dk k)) (.int .u64 (at_ dk i2))
        simp [e0,ei,ej,ii,ik,c1,c2,f1,c3,f2]
        rw [wi2_,wk_]
        refine WC_loop (fun k ρ ds w' => ∃ (i j : Nat) (dk : Array Int), k = j + 1 - i ∧ a < i ∧ i ≤ j + 1 ∧ j < b ∧ ρ 0 = v ∧ ρ 1 = .int .i64 a ∧ ρ 10 = .int .i64 i ∧ ρ 11 = .int .i64 j ∧ ds = [] ∧ Suint64.A w' v dk ∧ dk.size = d.size ∧
         Sort.partLoop Sort.ltInt a i j dk = Sort.partLoop Sort.ltInt a (a + 1) (b - 1) (Sort.swp d a pivot) ∧ Mod (Sv v) w w') (k - 1 + 1 - (i2 + 1)) ⟨i2 + 1,k - 1,Sort.swp dk i2 k,?_⟩ ?_
        ·simp [e0,e1]
         exact ⟨by omega,by omega,by omega,hD2,by rw [size_swp]; exact hz,hI,hM2⟩
        ·rintro kk ρ ds w1 ⟨i,j,dk,rfl,hai,hij,hjb,e0,e1,ei,ej,rfl,hD,hz,hI,hM⟩
         simp
         refine WC_loop (fun k ρ ds w' => ∃ i2 : Nat, k = j + 1 - i2 ∧ i ≤ i2 ∧ i2 ≤ j + 1 ∧ ρ 0 = v ∧ ρ 1 = .int .i64 a ∧ ρ 10 = .int .i64 i2 ∧ ρ 11 = .int .i64 j ∧ ds = [] ∧ Suint64.A w' v dk ∧
          Sort.scanUp (fun x => Sort.ltInt x dk[a]!) dk j i2 = Sort.scanUp (fun x => Sort.ltInt x dk[a]!) dk j i ∧ Mod (Sv v) w w') (j + 1 - i) ⟨i,?_⟩ ?_
         ·simp [e0,e1,ei,ej]
          exact ⟨hij,hD,hM⟩
         ·rintro k ρ ds w2 ⟨i2,rfl,hi2,hij2,e0,e1,ei,ej,rfl,hD,hS,hM⟩
          have wi_ : IntKind.i64.wrap ((i2 : Int) + 1) = ((i2 + 1 : Nat) : Int) := wnat _ _ (by omega) (by omega)
          have ia := Suint64.ix hD a (by omega)
          simp
          refine WC_drQ 12 rfl (by kernel_rfl) fun W hW => ?_
          replace hD := hD.dr hW
          replace hM := hM.dr hW
          by_cases hle : i2 ≤ j
          ·have ii := Suint64.ix hD i2 (by omega)
           obtain ⟨ca,ci,-⟩ := hD.facts a i2 (by omega) (by omega)
           simp [e0,e1,ei,ej,hle,ia,ii,ca,ci]
           refine FN.mono (Suint64.less_c (at_ dk i2) (at_ dk a) W) ?_
           rintro _ _ ⟨rfl,rfl⟩
           simp
           by_cases hl : Sort.ltInt (at_ dk i2) (at_ dk a) = true
           ·rw [← su_go (fun x => Sort.ltInt x dk[a]!) hle (by simpa [at_] using hl)] at hS
            simp [hl,e0,e1,ei,ej]
            rw [wi_]
            exact ⟨j + 1 - (i2 + 1),by omega,i2 + 1,rfl,by omega,by omega,rfl,hD,hS,hM⟩
           ·replace hl := (Bool.eq_not).2 hl
            simp only [Bool.not_true] at hl
            have hu : i2 ≤ j → Sort.ltInt (at_ dk i2) (at_ dk a) = !true := fun _ => hl
            rw [su_end (fun x => Sort.ltInt x dk[a]!) (.inr (by simpa [at_] using hl))] at hS
            simp [hl]
            refine WC_loop (fun k ρ ds w' => ∃ j2 : Nat, k = j2 ∧ j2 ≤ j ∧ i2 ≤ j2 + 1 ∧ ρ 0 = v ∧ ρ 1 = .int .i64 a ∧ ρ 10 = .int .i64 i2 ∧ ρ 11 = .int .i64 j2 ∧ ds = [] ∧ Suint64.A w' v dk ∧
             Sort.scanDown (fun x => !Sort.ltInt x dk[a]!) dk i2 j2 = Sort.scanDown (fun x => !Sort.ltInt x dk[a]!) dk i2 j ∧ Mod (Sv v) w w') j ⟨j,?_⟩ ?_
            ·simp [e0,e1,ei,ej]
             exact ⟨hij2,hD,hM⟩
            ·rintro k ρ ds w2 ⟨j2,rfl,hj2,hij3,e0,e1,ei,ej,rfl,hD,hT,hM⟩
             have ia := Suint64.ix hD a (by omega)
             simp
             refine WC_drQ 12 rfl (by kernel_rfl) fun W hW => ?_
             replace hD := hD.dr hW
             replace hM := hM.dr hW
             by_cases hle : i2 ≤ k
             ·obtain ⟨p,hp⟩ : ∃ p,k = p + 1 := ⟨k - 1,by omega⟩
              have wj_ : IntKind.i64.wrap ((k : Int) - 1) = (p : Int) := wnat _ _ (by omega) (by omega)
              have ik := Suint64.ix hD k (by omega)
              obtain ⟨ca,ck,-⟩ := hD.facts a k (by omega) (by omega)
              simp [e0,e1,ei,ej,hle,ia,ik,ca,ck]
              refine FN.mono (Suint64.less_c (at_ dk k) (at_ dk a) W) ?_
              rintro _ _ ⟨rfl,rfl⟩
              simp
              by_cases hl2 : Sort.ltInt (at_ dk k) (at_ dk a) = false
              ·rw [← sd_go (fun x => !Sort.ltInt x dk[a]!) hle hp (by simpa [at_] using hl2)] at hT
               simp [hl2,e0,e1,ei,ej,wj_]
               exact ⟨p,by omega,by omega,by omega,rfl,hD,hT,hM⟩
              ·replace hl2 := (Bool.eq_not).2 hl2
               simp only [Bool.not_false] at hl2
               have hd : i2 ≤ k → Sort.ltInt (at_ dk k) (at_ dk a) = !false := fun _ => hl2
               rw [sd_end (fun x => !Sort.ltInt x dk[a]!) (.inr (by simpa [at_] using hl2))] at hT
               simp [hl2]
               rw [Sort.partLoop_eq,← hS] at hI
               have hT' : k = Sort.scanDown (fun x => !Sort.ltInt x dk[a]!) dk i2 j := hT
               rw [← hT'] at hI
               by_cases hgt : k < i2
               ·have ia := Suint64.ix hD a (by omega)
                have ik := Suint64.ix hD k (by omega)
                rw [if_pos hgt] at hI
                simp [ei,ej,hgt]
                refine WC_drS 13 rfl (by kernel_rfl) fun W2 hW2 => ?_
                replace hD := hD.dr hW2
                replace hM := hM.dr hW2
                obtain ⟨c1,c2,f1,c3,f2⟩ := hD.facts k a (by omega) (by omega)
                simp [e0,e1,ej,ia,ik,c1,c2,f1,c3,f2]
                rw [Sort.partition_fst,Sort.partition_arr,← hI]
                exact ⟨rfl,hD.swap (by omega) (by omega),hD.mswap hM (by omega) _ _⟩
               ·rw [if_neg hgt] at hI
                have hne : i2 ≠ k := fun e => by
                 have h1 := hu (by omega)
                 have h2 := hd (by omega)
                 rw [e] at h1; rw [h1] at h2; cases h2
                have wi2_ : IntKind.i64.wrap ((i2 : Int) + 1) = ((i2 + 1 : Nat) : Int) := wnat _ _ (by omega) (by omega)
                have wk_ : IntKind.i64.wrap ((k : Int) - 1) = ((k - 1 : Nat) : Int) := wnat _ _ (by omega) (by omega)
                have ii := Suint64.ix hD i2 (by omega)
                have ik := Suint64.ix hD k (by omega)
                simp [ei,ej,hgt]
                refine WC_drS 13 rfl (by kernel_rfl) fun W2 hW2 => ?_
                replace hD := hD.dr hW2
                replace hM := hM.dr hW2
                obtain ⟨c1,c2,f1,c3,f2⟩ := hD.facts i2 k (by omega) (by omega)
                have hD2 := hD.swap (i := i2) (j := k) (by omega) (by omega)
                have hM2 := hD.mswap (j := k) hM (i := i2) (by omega) (.int .u64 (at_ dk k)) (.int .u64 (at_ dk i2))
                simp [e0,e1,ei,ej,ii,ik,c1,c2,f1,c3,f2]
                rw [wi2_,wk_]
                exact ⟨k - 1 + 1 - (i2 + 1),by omega,i2 + 1,k - 1,rfl,by omega,by omega,by omega,rfl,rfl,_,hD2,by rw [size_swp]; exact hz,hI,hM2⟩
             ·have hd : i2 ≤ k → Sort.ltInt (at_ dk k) (at_ dk a) = !false := fun h => (hle h).elim
              rw [sd_end (fun x => !Sort.ltInt x dk[a]!) (.inl hle)] at hT
              simp [ei,ej,hle]
              rw [Sort.partLoop_eq,← hS] at hI
              have hT' : k = Sort.scanDown (fun x => !Sort.ltInt x dk[a]!) dk i2 j := hT
              rw [← hT'] at hI
              by_cases hgt : k < i2
              ·have ia := Suint64.ix hD a (by omega)
               have ik := Suint64.ix hD k (by omega)
               rw [if_pos hgt] at hI
               simp [hgt]
               refine WC_drS 13 rfl (by kernel_rfl) fun W2 hW2 => ?_
               replace hD := hD.dr hW2
               replace hM := hM.dr hW2
               obtain ⟨c1,c2,f1,c3,f2⟩ := hD.facts k a (by omega) (by omega)
               simp [e0,e1,ej,ia,ik,c1,c2,f1,c3,f2]
               rw [Sort.partition_fst,Sort.partition_arr,← hI]
               exact ⟨rfl,hD.swap (by omega) (by omega),hD.mswap hM (by omega) _ _⟩
              ·rw [if_neg hgt] at hI
               have hne : i2 ≠ k := fun e => by
                have h1 := hu (by omega)
                have h2 := hd (by omega)
                rw [e] at h1; rw [h1] at h2; cases h2
               have wi2_ : IntKind.i64.wrap ((i2 : Int) + 1) = ((i2 + 1 : Nat) : Int) := wnat _ _ (by omega) (by omega)
               have wk_ : IntKind.i64.wrap ((k : Int) - 1) = ((k - 1 : Nat) : Int) := wnat _ _ (by omega) (by omega)
               have ii := Suint64.ix hD i2 (by omega)
               have ik := Suint64.ix hD k (by omega)
               simp [hgt]
               refine WC_drS 13 rfl (by kernel_rfl) fun W2 hW2 => ?_
               replace hD := hD.dr hW2
               replace hM := hM.dr hW2
               obtain ⟨c1,c2,f1,c3,f2⟩ := hD.facts i2 k (by omega) (by omega)
               have hD2 := hD.swap (i := i2) (j := k) (by omega) (by omega)
               have hM2 := hD.mswap (j := k) hM (i := i2) (by omega) (.int .u64 (at_ dk k)) (.int .u64 (at_ dk i2))
               simp [e0,e1,ei,ej,ii,ik,c1,c2,f1,c3,f2]
               rw [wi2_,wk_]
               exact ⟨k - 1 + 1 - (i2 + 1),by omega,i2 + 1,k - 1,rfl,by omega,by omega,by omega,rfl,rfl,_,hD2,by rw [size_swp]; exact hz,hI,hM2⟩
          ·have hu : i2 ≤ j → Sort.ltInt (at_ dk i2) (at_ dk a) = !true := fun h => (hle h).elim
           rw [su_end (fun x => Sort.ltInt x dk[a]!) (.inl hle)] at hS
           simp [ei,ej,hle]
           refine WC_loop (fun k ρ ds w' => ∃ j2 : Nat, k = j2 ∧ j2 ≤ j ∧ i2 ≤ j2 + 1 ∧ ρ 0 = v ∧ ρ 1 = .int .i64 a ∧ ρ 10 = .int .i64 i2 ∧ ρ 11 = .int .i64 j2 ∧ ds = [] ∧ Suint64.A w' v dk ∧
            Sort.scanDown (fun x => !Sort.ltInt x dk[a]!) dk i2 j2 = Sort.scanDown (fun x => !Sort.ltInt x dk[a]!) dk i2 j ∧ Mod (Sv v) w w') j ⟨j,?_⟩ ?_
           ·simp [e0,e1,ei,ej]
            exact ⟨hij2,hD,hM⟩
           ·rintro k ρ ds w2 ⟨j2,rfl,hj2,hij3,e0,e1,ei,ej,rfl,hD,hT,hM⟩
            have ia := Suint64.ix hD a (by omega)
            simp
            refine WC_drQ 12 rfl (by kernel_rfl) fun W hW => ?_
            replace hD := hD.dr hW
            replace hM := hM.dr hW
            by_cases hle : i2 ≤ k
            ·obtain ⟨p,hp⟩ : ∃ p,k = p + 1 := ⟨k - 1,by omega⟩
             have wj_ : IntKind.i64.wrap ((k : Int) - 1) = (p : Int) := wnat _ _ (by omega) (by omega)
             have ik := Suint64.ix hD k (by omega)
             obtain ⟨ca,ck,-⟩ := hD.facts a k (by omega) (by omega)
             simp [e0,e1,ei,ej,hle,ia,ik,ca,ck]
             refine FN.mono (Suint64.less_c (at_ dk k) (at_ dk a) W) ?_
             rintro _ _ ⟨rfl,rfl⟩
             simp
             by_cases hl2 : Sort.ltInt (at_ dk k) (at_ dk a) = false
             ·rw [← sd_go (fun x => !Sort.ltInt x dk[a]!) hle hp (by simpa [at_] using hl2)] at hT
              simp [hl2,e0,e1,ei,ej,wj_]
              exact ⟨p,by omega,by omega,by omega,rfl,hD,hT,hM⟩
             ·replace hl2 := (Bool.eq_not).2 hl2
              simp only [Bool.not_false] at hl2
              have hd : i2 ≤ k → Sort.ltInt (at_ dk k) (at_ dk a) = !false := fun _ => hl2
              rw [sd_end (fun x => !Sort.ltInt x dk[a]!) (.inr (by simpa [at_] using hl2))] at hT
              simp [hl2]
              rw [Sort.partLoop_eq,← hS] at hI
              have hT' : k = Sort.scanDown (fun x => !Sort.ltInt x dk[a]!) dk i2 j := hT
              rw [← hT'] at hI
              by_cases hgt : k < i2
              ·have ia := Suint64.ix hD a (by omega)
               have ik := Suint64.ix hD k (by omega)
               rw [if_pos hgt] at hI
               simp [ei,ej,hgt]
               refine WC_drS 13 rfl (by kernel_rfl) fun W2 hW2 => ?_
               replace hD := hD.dr hW2
               replace hM := hM.dr hW2
               obtain ⟨c1,c2,f1,c3,f2⟩ := hD.facts k a (by omega) (by omega)
               simp [e0,e1,ej,ia,ik,c1,c2,f1,c3,f2]
               rw [Sort.partition_fst,Sort.partition_arr,← hI]
               exact ⟨rfl,hD.swap (by omega) (by omega),hD.mswap hM (by omega) _ _⟩
              ·rw [if_neg hgt] at hI
               have hne : i2 ≠ k := fun e => by
                have h1 := hu (by omega)
                have h2 := hd (by omega)
                rw [e] at h1; rw [h1] at h2; cases h2
               have wi2_ : IntKind.i64.wrap ((i2 : Int) + 1) = ((i2 + 1 : Nat) : Int) := wnat _ _ (by omega) (by omega)
               have wk_ : IntKind.i64.wrap ((k : Int) - 1) = ((k - 1 : Nat) : Int) := wnat _ _ (by omega) (by omega)
               have ii := Suint64.ix hD i2 (by omega)
               have ik := Suint64.ix hD k (by omega)
               simp [ei,ej,hgt]
               refine WC_drS 13 rfl (by kernel_rfl) fun W2 hW2 => ?_
               replace hD := hD.dr hW2
               replace hM := hM.dr hW2
               obtain ⟨c1,c2,f1,c3,f2⟩ := hD.facts i2 k (by omega) (by omega)
               have hD2 := hD.swap (i := i2) (j := k) (by omega) (by omega)
               have hM2 := hD.mswap (j := k) hM (i := i2) (by omega) (.int .u64 (at_ dk k)) (.int .u64 (at_ dk i2))
               simp [e0,e1,ei,ej,ii,ik,c1,c2,f1,c3,f2]
               rw [wi2_,wk_]
               exact ⟨k - 1 + 1 - (i2 + 1),by omega,i2 + 1,k - 1,rfl,by omega,by omega,by omega,rfl,rfl,_,hD2,by rw [size_swp]; exact hz,hI,hM2⟩
            ·have hd : i2 ≤ k → Sort.ltInt (at_ dk k) (at_ dk a) = !false := fun h => (hle h).elim
             rw [sd_end (fun x => !Sort.ltInt x dk[a]!) (.inl hle)] at hT
             simp [ei,ej,hle]
             rw [Sort.partLoop_eq,← hS] at hI
             have hT' : k = Sort.scanDown (fun x => !Sort.ltInt x dk[a]!) dk i2 j := hT
             rw [← hT'] at hI
             by_cases hgt : k < i2
             ·have ia := Suint64.ix hD a (by omega)
              have ik := Suint64.ix hD k (by omega)
              rw [if_pos hgt] at hI
              simp [hgt]
              refine WC_drS 13 rfl (by kernel_rfl) fun W2 hW2 => ?_
              replace hD := hD.dr hW2
              replace hM := hM.dr hW2
              obtain ⟨c1,c2,f1,c3,f2⟩ := hD.facts k a (by omega) (by omega)
              simp [e0,e1,ej,ia,ik,c1,c2,f1,c3,f2]
              rw [Sort.partition_fst,Sort.partition_arr,← hI]
              exact ⟨rfl,hD.swap (by omega) (by omega),hD.mswap hM (by omega) _ _⟩
             ·rw [if_neg hgt] at hI
              have hne : i2 ≠ k := fun e => by
               have h1 := hu (by omega)
               have h2 := hd (by omega)
               rw [e] at h1; rw [h1] at h2; cases h2
              have wi2_ : IntKind.i64.wrap ((i2 : Int) + 1) = ((i2 + 1 : Nat) : Int) := wnat _ _ (by omega) (by omega)
              have wk_ : IntKind.i64.wrap ((k : Int) - 1) = ((k - 1 : Nat) : Int) := wnat _ _ (by omega) (by omega)
              have ii := Suint64.ix hD i2 (by omega)
              have ik := Suint64.ix hD k (by omega)
              simp [hgt]
              refine WC_drS 13 rfl (by kernel_rfl) fun W2 hW2 => ?_
              replace hD := hD.dr hW2
              replace hM := hM.dr hW2
              obtain ⟨c1,c2,f1,c3,f2⟩ := hD.facts i2 k (by omega) (by omega)
              have hD2 := hD.swap (i := i2) (j := k) (by omega) (by omega)
              have hM2 := hD.mswap (j := k) hM (i := i2) (by omega) (.int .u64 (at_ dk k)) (.int .u64 (at_ dk i2))
              simp [e0,e1,ei,ej,ii,ik,c1,c2,f1,c3,f2]
              rw [wi2_,wk_]
              exact ⟨k - 1 + 1 - (i2 + 1),by omega,i2 + 1,k - 1,rfl,by omega,by omega,by omega,rfl,rfl,_,hD2,by rw [size_swp]; exact hz,hI,hM2⟩
     ·have hd : i2 ≤ k → Sort.ltInt (at_ dk k) (at_ dk a) = !false := fun h => (hle h).elim
      rw [sd_end (fun x => !Sort.ltInt x dk[a]!) (.inl hle)] at hT
      simp [ei,ej,hle]
      rw [Sort.partLoop_eq,← hS] at hI
      have hT' : k = Sort.scanDown (fun x => !Sort.ltInt x dk[a]!) dk i2 j := hT
      rw [← hT'] at hI
      by_cases hgt : k < i2
      ·have ia := Suint64.ix hD a (by omega)
       have ik := Suint64.ix hD k (by omega)
       rw [if_pos hgt] at hI
       simp [hgt]
       refine WC_drS 13 rfl (by kernel_rfl) fun W2 hW2 => ?_
       replace hD := hD.dr hW2
       replace hM := hM.dr hW2
       obtain ⟨c1,c2,f1,c3,f2⟩ := hD.facts k a (by omega) (by omega)
       simp [e0,e1,ej,ia,ik,c1,c2,f1,c3,f2]
       rw [Sort.partition_fst,Sort.partition_arr,← hI]
       exact ⟨rfl,hD.swap (by omega) (by omega),hD.mswap hM (by omega) _ _⟩
      ·rw [if_neg hgt] at hI
       have hne : i2 ≠ k := fun e => by
        have h1 := hu (by omega)
        have h2 := hd (by omega)
        rw [e] at h1; rw [h1] at h2; cases h2
       have wi2_ : IntKind.i64.wrap ((i2 : Int) + 1) = ((i2 + 1 : Nat) : Int) := wnat _ _ (by omega) (by omega)
       have wk_ : IntKind.i64.wrap ((k : Int) - 1) = ((k - 1 : Nat) : Int) := wnat _ _ (by omega) (by omega)
       have ii := Suint64.ix hD i2 (by omega)
       have ik := Suint64.ix hD k (by omega)
       simp [hgt]
       refine WC_drS 13 rfl (by kernel_rfl) fun W2 hW2 => ?_
       replace hD := hD.dr hW2
       replace hM := hM.dr hW2
       obtain ⟨c1,c2,f1,c3,f2⟩ := hD.facts i2 k (by omega) (by omega)
       have hD2 := hD.swap (i := i2) (j := k) (by omega) (by omega)
       have hM2 := hD.mswap (j := k) hM (i := i2) (by omega) (.int .u64 (at_ dk k)) (.int .u64 (at_ dk i2))
       simp [e0,ei,ej,ii,ik,c1,c2,f1,c3,f2]
       rw [wi2_,wk_]
       refine WC_loop (fun k ρ ds w' => ∃ (i j : Nat) (dk : Array Int), k = j + 1 - i ∧ a < i ∧ i ≤ j + 1 ∧ j < b ∧ ρ 0 = v ∧ ρ 1 = .int .i64 a ∧ ρ 10 = .int .i64 i ∧ ρ 11 = .int .i64 j ∧ ds = [] ∧ Suint64.A w' v dk ∧ dk.size = d.size ∧
        Sort.partLoop Sort.ltInt a i j dk = Sort.partLoop Sort.ltInt a (a + 1) (b - 1) (Sort.swp d a pivot) ∧ Mod (Sv v) w w') (k - 1 + 1 - (i2 + 1)) ⟨i2 + 1,k - 1,Sort.swp dk i2 k,?_⟩ ?_
       ·simp [e0,e1]
        exact ⟨by omega,by omega,by omega,hD2,by rw [size_swp]; exact hz,hI,hM2⟩
       ·rintro kk ρ ds w1 ⟨i,j,dk,rfl,hai,hij,hjb,e0,e1,ei,ej,rfl,hD,hz,hI,hM⟩
        simp
        refine WC_loop (fun k ρ ds w' => ∃ i2 : Nat, k = j + 1 - i2 ∧ i ≤ i2 ∧ i2 ≤ j + 1 ∧ ρ 0 = v ∧ ρ 1 = .int .i64 a ∧ ρ 10 = .int .i64 i2 ∧ ρ 11 = .int .i64 j ∧ ds = [] ∧ Suint64.A w' v dk ∧
         Sort.scanUp (fun x => Sort.ltInt x dk[a]!) dk j i2 = Sort.scanUp (fun x => Sort.ltInt x dk[a]!) dk j i ∧ Mod (Sv v) w w') (j + 1 - i) ⟨i,?_⟩ ?_
        ·simp [e0,e1,ei,ej]
         exact ⟨hij,hD,hM⟩
        ·rintro k ρ ds w2 ⟨i2,rfl,hi2,hij2,e0,e1,ei,ej,rfl,hD,hS,hM⟩
         have wi_ : IntKind.i64.wrap ((i2 : Int) + 1) = ((i2 + 1 : Nat) : Int) := wnat _ _ (by omega) (by omega)
         have ia := Suint64.ix hD a (by omega)
         simp
         refine WC_drQ 12 rfl (by kernel_rfl) fun W hW => ?_
         replace hD := hD.dr hW
         replace hM := hM.dr hW
         by_cases hle : i2 ≤ j
         ·have ii := Suint64.ix hD i2 (by omega)
          obtain ⟨ca,ci,-⟩ := hD.facts a i2 (by omega) (by omega)
          simp [e0,e1,ei,ej,hle,ia,ii,ca,ci]
          refine FN.mono (Suint64.less_c (at_ dk i2) (at_ dk a) W) ?_
          rintro _ _ ⟨rfl,rfl⟩
          simp
          by_cases hl : Sort.ltInt (at_ dk i2) (at_ dk a) = true
          ·rw [← su_go (fun x => Sort.ltInt x dk[a]!) hle (by simpa [at_] using hl)] at hS
           simp [hl,e0,e1,ei,ej]
           rw [wi_]
           exact ⟨j + 1 - (i2 + 1),by omega,i2 + 1,rfl,by omega,by omega,rfl,hD,hS,hM⟩
          ·replace hl := (Bool.eq_not).2 hl
           simp only [Bool.not_true] at hl
           have hu : i2 ≤ j → Sort.ltInt (at_ dk i2) (at_ dk a) = !true := fun _ => hl
           rw [su_end (fun x => Sort.ltInt x dk[a]!) (.inr (by simpa [at_] using hl))] at hS
           simp [hl]
           refine WC_loop (fun k ρ ds w' => ∃ j2 : Nat, k = j2 ∧ j2 ≤ j ∧ i2 ≤ j2 + 1 ∧ ρ 0 = v ∧ ρ 1 = .int .i64 a ∧ ρ 10 = .int .i64 i2 ∧ ρ 11 = .int .i64 j2 ∧ ds = [] ∧ Suint64.A w' v dk ∧
            Sort.scanDown (fun x => !Sort.ltInt x dk[a]!) dk i2 j2 = Sort.scanDown (fun x => !Sort.ltInt x dk[a]!) dk i2 j ∧ Mod (Sv v) w w') j ⟨j,?_⟩ ?_
           ·simp [e0,e1,ei,ej]
            exact ⟨hij2,hD,hM⟩
           ·rintro k ρ ds w2 ⟨j2,rfl,hj2,hij3,e0,e1,ei,ej,rfl,hD,hT,hM⟩
            have ia := Suint64.ix hD a (by omega)
            simp
            refine WC_drQ 12 rfl (by kernel_rfl) fun W hW => ?_
            replace hD := hD.dr hW
            replace hM := hM.dr hW
            by_cases hle : i2 ≤ k
            ·obtain ⟨p,hp⟩ : ∃ p,k = p + 1 := ⟨k - 1,by omega⟩
             have wj_ : IntKind.i64.wrap ((k : Int) - 1) = (p : Int) := wnat _ _ (by omega) (by omega)
             have ik := Suint64.ix hD k (by omega)
             obtain ⟨ca,ck,-⟩ := hD.facts a k (by omega) (by omega)
             simp [e0,e1,ei,ej,hle,ia,ik,ca,ck]
             refine FN.mono (Suint64.less_c (at_ dk k) (at_ dk a) W) ?_
             rintro _ _ ⟨rfl,rfl⟩
             simp
             by_cases hl2 : Sort.ltInt (at_ dk k) (at_ dk a) = false
             ·rw [← sd_go (fun x => !Sort.ltInt x dk[a]!) hle hp (by simpa [at_] using hl2)] at hT
              simp [hl2,e0,e1,ei,ej,wj_]
              exact ⟨p,by omega,by omega,by omega,rfl,hD,hT,hM⟩
             ·replace hl2 := (Bool.eq_not).2 hl2
              simp only [Bool.not_false] at hl2
              have hd : i2 ≤ k → Sort.ltInt (at_ dk k) (at_ dk a) = !false := fun _ => hl2
              rw [sd_end (fun x => !Sort.ltInt x dk[a]!) (.inr (by simpa [at_] using hl2))] at hT
              simp [hl2]
              rw [Sort.partLoop_eq,← hS] at hI
              have hT' : k = Sort.scanDown (fun x => !Sort.ltInt x dk[a]!) dk i2 j := hT
              rw [← hT'] at hI
              by_cases hgt : k < i2
              ·have ia := Suint64.ix hD a (by omega)
               have ik := Suint64.ix hD k (by omega)
               rw [if_pos hgt] at hI
               simp [ei,ej,hgt]
               refine WC_drS 13 rfl (by kernel_rfl) fun W2 hW2 => ?_
               replace hD := hD.dr hW2
               replace hM := hM.dr hW2
               obtain ⟨c1,c2,f1,c3,f2⟩ := hD.facts k a (by omega) (by omega)
               simp [e0,e1,ej,ia,ik,c1,c2,f1,c3,f2]
               rw [Sort.partition_fst,Sort.partition_arr,← hI]
               exact ⟨rfl,hD.swap (by omega) (by omega),hD.mswap hM (by omega) _ _⟩
              ·rw [if_neg hgt] at hI
               have hne : i2 ≠ k := fun e => by
                have h1 := hu (by omega)
                have h2 := hd (by omega)
                rw [e] at h1; rw [h1] at h2; cases h2
               have wi2_ : IntKind.i64.wrap ((i2 : Int) + 1) = ((i2 + 1 : Nat) : Int) := wnat _ _ (by omega) (by omega)
               have wk_ : IntKind.i64.wrap ((k : Int) - 1) = ((k - 1 : Nat) : Int) := wnat _ _ (by omega) (by omega)
               have ii := Suint64.ix hD i2 (by omega)
               have ik := Suint64.ix hD k (by omega)
               simp [ei,ej,hgt]
               refine WC_drS 13 rfl (by kernel_rfl) fun W2 hW2 => ?_
               replace hD := hD.dr hW2
               replace hM := hM.dr hW2
               obtain ⟨c1,c2,f1,c3,f2⟩ := hD.facts i2 k (by omega) (by omega)
               have hD2 := hD.swap (i := i2) (j := k) (by omega) (by omega)
               have hM2 := hD.mswap (j := k) hM (i := i2) (by omega) (.int .u64 (at_ dk k)) (.int .u64 (at_ dk i2))
               simp [e0,e1,ei,ej,ii,ik,c1,c2,f1,c3,f2]
               rw [wi2_,wk_]
               exact ⟨k - 1 + 1 - (i2 + 1),by omega,i2 + 1,k - 1,rfl,by omega,by omega,by omega,rfl,rfl,_,hD2,by rw [size_swp]; exact hz,hI,hM2⟩
            ·have hd : i2 ≤ k → Sort.ltInt (at_ dk k) (at_ dk a) = !false := fun h => (hle h).elim
             rw [sd_end (fun x => !Sort.ltInt x dk[a]!) (.inl hle)] at hT
             simp [ei,ej,hle]
             rw [Sort.partLoop_eq,← hS] at hI
             have hT' : k = Sort.scanDown (fun x => !Sort.ltInt x dk[a]!) dk i2 j := hT
             rw [← hT'] at hI
             by_cases hgt : k < i2
             ·have ia := Suint64.ix hD a (by omega)
              have ik := Suint64.ix hD k (by omega)
              rw [if_pos hgt] at hI
              simp [hgt]
              refine WC_drS 13 rfl (by kernel_rfl) fun W2 hW2 => ?_
              replace hD := hD.dr hW2
              replace hM := hM.dr hW2
              obtain ⟨c1,c2,f1,c3,f2⟩ := hD.facts k a (by omega) (by omega)
              simp [e0,e1,ej,ia,ik,c1,c2,f1,c3,f2]
              rw [Sort.partition_fst,Sort.partition_arr,← hI]
              exact ⟨rfl,hD.swap (by omega) (by omega),hD.mswap hM (by omega) _ _⟩
             ·rw [if_neg hgt] at hI
              have hne : i2 ≠ k := fun e => by
               have h1 := hu (by omega)
               have h2 := hd (by omega)
               rw [e] at h1; rw [h1] at h2; cases h2
              have wi2_ : IntKind.i64.wrap ((i2 : Int) + 1) = ((i2 + 1 : Nat) : Int) := wnat _ _ (by omega) (by omega)
              have wk_ : IntKind.i64.wrap ((k : Int) - 1) = ((k - 1 : Nat) : Int) := wnat _ _ (by omega) (by omega)
              have ii := Suint64.ix hD i2 (by omega)
              have ik := Suint64.ix hD k (by omega)
              simp [hgt]
              refine WC_drS 13 rfl (by kernel_rfl) fun W2 hW2 => ?_
              replace hD := hD.dr hW2
              replace hM := hM.dr hW2
              obtain ⟨c1,c2,f1,c3,f2⟩ := hD.facts i2 k (by omega) (by omega)
              have hD2 := hD.swap (i := i2) (j := k) (by omega) (by omega)
              have hM2 := hD.mswap (j := k) hM (i := i2) (by omega) (.int .u64 (at_ dk k)) (.int .u64 (at_ dk i2))
              simp [e0,e1,ei,ej,ii,ik,c1,c2,f1,c3,f2]
              rw [wi2_,wk_]
              exact ⟨k - 1 + 1 - (i2 + 1),by omega,i2 + 1,k - 1,rfl,by omega,by omega,by omega,rfl,rfl,_,hD2,by rw [size_swp]; exact hz,hI,hM2⟩
         ·have hu : i2 ≤ j → Sort.ltInt (at_ dk i2) (at_ dk a) = !true := fun h => (hle h).elim
          rw [su_end (fun x => Sort.ltInt x dk[a]!) (.inl hle)] at hS
          simp [ei,ej,hle]
          refine WC_loop (fun k ρ ds w' => ∃ j2 : Nat, k = j2 ∧ j2 ≤ j ∧ i2 ≤ j2 + 1 ∧ ρ 0 = v ∧ ρ 1 = .int .i64 a ∧ ρ 10 = .int .i64 i2 ∧ ρ 11 = .int .i64 j2 ∧ ds = [] ∧ Suint64.A w' v dk ∧
           Sort.scanDown (fun x => !Sort.ltInt x dk[a]!) dk i2 j2 = Sort.scanDown (fun x => !Sort.ltInt x dk[a]!) dk i2 j ∧ Mod (Sv v) w w') j ⟨j,?_⟩ ?_
          ·simp [e0,e1,ei,ej]
           exact ⟨hij2,hD,hM⟩
          ·rintro k ρ ds w2 ⟨j2,rfl,hj2,hij3,e0,e1,ei,ej,rfl,hD,hT,hM⟩
           have ia := Suint64.ix hD a (by omega)
           simp
           refine WC_drQ 12 rfl (by kernel_rfl) fun W hW => ?_
           replace hD := hD.dr hW
           replace hM := hM.dr hW
           by_cases hle : i2 ≤ k
           ·obtain ⟨p,hp⟩ : ∃ p,k = p + 1 := ⟨k - 1,by omega⟩
            have wj_ : IntKind.i64.wrap ((k : Int) - 1) = (p : Int) := wnat _ _ (by omega) (by omega)
            have ik := Suint64.ix hD k (by omega)
            obtain ⟨ca,ck,-⟩ := hD.facts a k (by omega) (by omega)
            simp [e0,e1,ei,ej,hle,ia,ik,ca,ck]
            refine FN.mono (Suint64.less_c (at_ dk k) (at_ dk a) W) ?_
            rintro _ _ ⟨rfl,rfl⟩
            simp
            by_cases hl2 : Sort.ltInt (at_ dk k) (at_ dk a) = false
            ·rw [← sd_go (fun x => !Sort.ltInt x dk[a]!) hle hp (by simpa [at_] using hl2)] at hT
             simp [hl2,e0,e1,ei,ej,wj_]
             exact ⟨p,by omega,by omega,by omega,rfl,hD,hT,hM⟩
            ·replace hl2 := (Bool.eq_not).2 hl2
             simp only [Bool.not_false] at hl2
             have hd : i2 ≤ k → Sort.ltInt (at_ dk k) (at_ dk a) = !false := fun _ => hl2
             rw [sd_end (fun x => !Sort.ltInt x dk[a]!) (.inr (by simpa [at_] using hl2))] at hT
             simp [hl2]
             rw [Sort.partLoop_eq,← hS] at hI
             have hT' : k = Sort.scanDown (fun x => !Sort.ltInt x dk[a]!) dk i2 j := hT
             rw [← hT'] at hI
             by_cases hgt : k < i2
             ·have ia := Suint64.ix hD a (by omega)
              have ik := Suint64.ix hD k (by omega)
              rw [if_pos hgt] at hI
              simp [ei,ej,hgt]
              refine WC_drS 13 rfl (by kernel_rfl) fun W2 hW2 => ?_
              replace hD := hD.dr hW2
              replace hM := hM.dr hW2
              obtain ⟨c1,c2,f1,c3,f2⟩ := hD.facts k a (by omega) (by omega)
              simp [e0,e1,ej,ia,ik,c1,c2,f1,c3,f2]
              rw [Sort.partition_fst,Sort.partition_arr,← hI]
              exact ⟨rfl,hD.swap (by omega) (by omega),hD.mswap hM (by omega) _ _⟩
             ·rw [if_neg hgt] at hI
              have hne : i2 ≠ k := fun e => by
               have h1 := hu (by omega)
               have h2 := hd (by omega)
               rw [e] at h1; rw [h1] at h2; cases h2
              have wi2_ : IntKind.i64.wrap ((i2 : Int) + 1) = ((i2 + 1 : Nat) : Int) := wnat _ _ (by omega) (by omega)
              have wk_ : IntKind.i64.wrap ((k : Int) - 1) = ((k - 1 : Nat) : Int) := wnat _ _ (by omega) (by omega)
              have ii := Suint64.ix hD i2 (by omega)
              have ik := Suint64.ix hD k (by omega)
              simp [ei,ej,hgt]
              refine WC_drS 13 rfl (by kernel_rfl) fun W2 hW2 => ?_
              replace hD := hD.dr hW2
              replace hM := hM.dr hW2
              obtain ⟨c1,c2,f1,c3,f2⟩ := hD.facts i2 k (by omega) (by omega)
              have hD2 := hD.swap (i := i2) (j := k) (by omega) (by omega)
              have hM2 := hD.mswap (j := k) hM (i := i2) (by omega) (.int .u64 (at_ dk k)) (.int .u64 (at_ dk i2))
              simp [e0,e1,ei,ej,ii,ik,c1,c2,f1,c3,f2]
              rw [wi2_,wk_]
              exact ⟨k - 1 + 1 - (i2 + 1),by omega,i2 + 1,k - 1,rfl,by omega,by omega,by omega,rfl,rfl,_,hD2,by rw [size_swp]; exact hz,hI,hM2⟩
           ·have hd : i2 ≤ k → Sort.ltInt (at_ dk k) (at_ dk a) = !false := fun h => (hle h).elim
            rw [sd_end (fun x => !Sort.ltInt x dk[a]!) (.inl hle)] at hT
            simp [ei,ej,hle]
            rw [Sort.partLoop_eq,← hS] at hI
            have hT' : k = Sort.scanDown (fun x => !Sort.ltInt x dk[a]!) dk i2 j := hT
            rw [← hT'] at hI
            by_cases hgt : k < i2
            ·have ia := Suint64.ix hD a (by omega)
             have ik := Suint64.ix hD k (by omega)
             rw [if_pos hgt] at hI
             simp [hgt]
             refine WC_drS 13 rfl (by kernel_rfl) fun W2 hW2 => ?_
             replace hD := hD.dr hW2
             replace hM := hM.dr hW2
             obtain ⟨c1,c2,f1,c3,f2⟩ := hD.facts k a (by omega) (by omega)
             simp [e0,e1,ej,ia,ik,c1,c2,f1,c3,f2]
             rw [Sort.partition_fst,Sort.partition_arr,← hI]
             exact ⟨rfl,hD.swap (by omega) (by omega),hD.mswap hM (by omega) _ _⟩
            ·rw [if_neg hgt] at hI
             have hne : i2 ≠ k := fun e => by
              have h1 := hu (by omega)
              have h2 := hd (by omega)
              rw [e] at h1; rw [h1] at h2; cases h2
             have wi2_ : IntKind.i64.wrap ((i2 : Int) + 1) = ((i2 + 1 : Nat) : Int) := wnat _ _ (by omega) (by omega)
             have wk_ : IntKind.i64.wrap ((k : Int) - 1) = ((k - 1 : Nat) : Int) := wnat _ _ (by omega) (by omega)
             have ii := Suint64.ix hD i2 (by omega)
             have ik := Suint64.ix hD k (by omega)
             simp [hgt]
             refine WC_drS 13 rfl (by kernel_rfl) fun W2 hW2 => ?_
             replace hD := hD.dr hW2
             replace hM := hM.dr hW2
             obtain ⟨c1,c2,f1,c3,f2⟩ := hD.facts i2 k (by omega) (by omega)
             have hD2 := hD.swap (i := i2) (j := k) (by omega) (by omega)
             have hM2 := hD.mswap (j := k) hM (i := i2) (by omega) (.int .u64 (at_ dk k)) (.int .u64 (at_ dk i2))
             simp [e0,e1,ei,ej,ii,ik,c1,c2,f1,c3,f2]
             rw [wi2_,wk_]
             exact ⟨k - 1 + 1 - (i2 + 1),by omega,i2 + 1,k - 1,rfl,by omega,by omega,by omega,rfl,rfl,_,hD2,by rw [size_swp]; exact hz,hI,hM2⟩
  ·have hu : i2 ≤ j → Sort.ltInt (at_ dk i2) (at_ dk a) = !true := fun h => (hle h).elim
   rw [su_end (fun x => Sort.ltInt x dk[a]!) (.inl hle)] at hS
   simp [ei,ej,hle]
   refine WC_loop (fun k ρ ds w' => ∃ j2 : Nat, k = j2 ∧ j2 ≤ j ∧ i2 ≤ j2 + 1 ∧ ρ 0 = v ∧ ρ 1 = .int .i64 a ∧ ρ 10 = .int .i64 i2 ∧ ρ 11 = .int .i64 j2 ∧ ds = [] ∧ Suint64.A w' v dk ∧
    Sort.scanDown (fun x => !Sort.ltInt x dk[a]!) dk i2 j2 = Sort.scanDown (fun x => !Sort.ltInt x dk[a]!) dk i2 j ∧ Mod (Sv v) w w') j ⟨j,?_⟩ ?_
   ·simp [e0,e1,ei,ej]
    exact ⟨hij2,hD,hM⟩
   ·rintro k ρ ds w2 ⟨j2,rfl,hj2,hij3,e0,e1,ei,ej,rfl,hD,hT,hM⟩
    have ia := Suint64.ix hD a (by omega)
    simp
    refine WC_drQ 12 rfl (by kernel_rfl) fun W hW => ?_
    replace hD := hD.dr hW
    replace hM := hM.dr hW
    by_cases hle : i2 ≤ k
    ·obtain ⟨p,hp⟩ : ∃ p,k = p + 1 := ⟨k - 1,by omega⟩
     have wj_ : IntKind.i64.wrap ((k : Int) - 1) = (p : Int) := wnat _ _ (by omega) (by omega)
     have ik := Suint64.ix hD k (by omega)
     obtain ⟨ca,ck,-⟩ := hD.facts a k (by omega) (by omega)
     simp [e0,e1,ei,ej,hle,ia,ik,ca,ck]
     refine FN.mono (Suint64.less_c (at_ dk k) (at_ dk a) W) ?_
     rintro _ _ ⟨rfl,rfl⟩
     simp
     by_cases hl2 : Sort.ltInt (at_ dk k) (at_ dk a) = false
     ·rw [← sd_go (fun x => !Sort.ltInt x dk[a]!) hle hp (by simpa [at_] using hl2)] at hT
      simp [hl2,e0,e1,ei,ej,wj_]
      exact ⟨p,by omega,by omega,by omega,rfl,hD,hT,hM⟩
     ·replace hl2 := (Bool.eq_not).2 hl2
      simp only [Bool.not_false] at hl2
      have hd : i2 ≤ k → Sort.ltInt (at_ dk k) (at_ dk a) = !false := fun _ => hl2
      rw [sd_end (fun x => !Sort.ltInt x dk[a]!) (.inr (by simpa [at_] using hl2))] at hT
      simp [hl2]
      rw [Sort.partLoop_eq,← hS] at hI
      have hT' : k = Sort.scanDown (fun x => !Sort.ltInt x dk[a]!) dk i2 j := hT
      rw [← hT'] at hI
      by_cases hgt : k < i2
      ·have ia := Suint64.ix hD a (by omega)
       have ik := Suint64.ix hD k (by omega)
       rw [if_pos hgt] at hI
       simp [ei,ej,hgt]
       refine WC_drS 13 rfl (by kernel_rfl) fun W2 hW2 => ?_
       replace hD := hD.dr hW2
       replace hM := hM.dr hW2
       obtain ⟨c1,c2,f1,c3,f2⟩ := hD.facts k a (by omega) (by omega)
       simp [e0,e1,ej,ia,ik,c1,c2,f1,c3,f2]
       rw [Sort.partition_fst,Sort.partition_arr,← hI]
       exact ⟨rfl,hD.swap (by omega) (by omega),hD.mswap hM (by omega) _ _⟩
      ·rw [if_neg hgt] at hI
       have hne : i2 ≠ k := fun e => by
        have h1 := hu (by omega)
        have h2 := hd (by omega)
        rw [e] at h1; rw [h1] at h2; cases h2
       have wi2_ : IntKind.i64.wrap ((i2 : Int) + 1) = ((i2 + 1 : Nat) : Int) := wnat _ _ (by omega) (by omega)
       have wk_ : IntKind.i64.wrap ((k : Int) - 1) = ((k - 1 : Nat) : Int) := wnat _ _ (by omega) (by omega)
       have ii := Suint64.ix hD i2 (by omega)
       have ik := Suint64.ix hD k (by omega)
       simp [ei,ej,hgt]
       refine WC_drS 13 rfl (by kernel_rfl) fun W2 hW2 => ?_
       replace hD := hD.dr hW2
       replace hM := hM.dr hW2
       obtain ⟨c1,c2,f1,c3,f2⟩ := hD.facts i2 k (by omega) (by omega)
       have hD2 := hD.swap (i := i2) (j := k) (by omega) (by omega)
       have hM2 := hD.mswap (j := k) hM (i := i2) (by omega) (.int .u64 (at_ dk k)) (.int .u64 (at_ dk i2))
       simp [e0,ei,ej,ii,ik,c1,c2,f1,c3,f2]
       rw [wi2_,wk_]
       refine WC_loop (fun k ρ ds w' => ∃ (i j : Nat) (dk : Array Int), k = j + 1 - i ∧ a < i ∧ i ≤ j + 1 ∧ j < b ∧ ρ 0 = v ∧ ρ 1 = .int .i64 a ∧ ρ 10 = .int .i64 i ∧ ρ 11 = .int .i64 j ∧ ds = [] ∧ Suint64.A w' v dk ∧ dk.size = d.size ∧
        Sort.partLoop Sort.ltInt a i j dk = Sort.partLoop Sort.ltInt a (a + 1) (b - 1) (Sort.swp d a pivot) ∧ Mod (Sv v) w w') (k - 1 + 1 - (i2 + 1)) ⟨i2 + 1,k - 1,Sort.swp dk i2 k,?_⟩ ?_
       ·simp [e0,e1]
        exact ⟨by omega,by omega,by omega,hD2,by rw [size_swp]; exact hz,hI,hM2⟩
       ·rintro kk ρ ds w1 ⟨i,j,dk,rfl,hai,hij,hjb,e0,e1,ei,ej,rfl,hD,hz,hI,hM⟩
        simp
        refine WC_loop (fun k ρ ds w' => ∃ i2 : Nat, k = j + 1 - i2 ∧ i ≤ i2 ∧ i2 ≤ j + 1 ∧ ρ 0 = v ∧ ρ 1 = .int .i64 a ∧ ρ 10 = .int .i64 i2 ∧ ρ 11 = .int .i64 j ∧ ds = [] ∧ Suint64.A w' v dk ∧
         Sort.scanUp (fun x => Sort.ltInt x dk[a]!) dk j i2 = Sort.scanUp (fun x => Sort.ltInt x dk[a]!) dk j i ∧ Mod (Sv v) w w') (j + 1 - i) ⟨i,?_⟩ ?_
        ·simp [e0,e1,ei,ej]
         exact ⟨hij,hD,hM⟩
        ·rintro k ρ ds w2 ⟨i2,rfl,hi2,hij2,e0,e1,ei,ej,rfl,hD,hS,hM⟩
         have wi_ : IntKind.i64.wrap ((i2 : Int) + 1) = ((i2 + 1 : Nat) : Int) := wnat _ _ (by omega) (by omega)
         have ia := Suint64.ix hD a (by omega)
         simp
         refine WC_drQ 12 rfl (by kernel_rfl) fun W hW => ?_
         replace hD := hD.dr hW
         replace hM := hM.dr hW
         by_cases hle : i2 ≤ j
         ·have ii := Suint64.ix hD i2 (by omega)
          obtain ⟨ca,ci,-⟩ := hD.facts a i2 (by omega) (by omega)
          simp [e0,e1,ei,ej,hle,ia,ii,ca,ci]
          refine FN.mono (Suint64.less_c (at_ dk i2) (at_ dk a) W) ?_
          rintro _ _ ⟨rfl,rfl⟩
          simp
          by_cases hl : Sort.ltInt (at_ dk i2) (at_ dk a) = true
          ·rw [← su_go (fun x => Sort.ltInt x dk[a]!) hle (by simpa [at_] using hl)] at hS
           simp [hl,e0,e1,ei,ej]
           rw [wi_]
           exact ⟨j + 1 - (i2 + 1),by omega,i2 + 1,rfl,by omega,by omega,rfl,hD,hS,hM⟩
          ·replace hl := (Bool.eq_not).2 hl
           simp only [Bool.not_true] at hl
           have hu : i2 ≤ j → Sort.ltInt (at_ dk i2) (at_ dk a) = !true := fun _ => hl
           rw [su_end (fun x => Sort.ltInt x dk[a]!) (.inr (by simpa [at_] using hl))] at hS
           simp [hl]
           refine WC_loop (fun k ρ ds w' => ∃ j2 : Nat, k = j2 ∧ j2 ≤ j ∧ i2 ≤ j2 + 1 ∧ ρ 0 = v ∧ ρ 1 = .int .i64 a ∧ ρ 10 = .int .i64 i2 ∧ ρ 11 = .int .i64 j2 ∧ ds = [] ∧ Suint64.A w' v dk ∧
            Sort.scanDown (fun x => !Sort.ltInt x dk[a]!) dk i2 j2 = Sort.scanDown (fun x => !Sort.ltInt x dk[a]!) dk i2 j ∧ Mod (Sv v) w w') j ⟨j,?_⟩ ?_
           ·simp [e0,e1,ei,ej]
            exact ⟨hij2,hD,hM⟩
           ·rintro k ρ ds w2 ⟨j2,rfl,hj2,hij3,e0,e1,ei,ej,rfl,hD,hT,hM⟩
            have ia := Suint64.ix hD a (by omega)
            simp
            refine WC_drQ 12 rfl (by kernel_rfl) fun W hW => ?_
            replace hD := hD.dr hW
            replace hM := hM.dr hW
            by_cases hle : i2 ≤ k
            ·obtain ⟨p,hp⟩ : ∃ p,k = p + 1 := ⟨k - 1,by omega⟩
             have wj_ : IntKind.i64.wrap ((k : Int) - 1) = (p : Int) := wnat _ _ (by omega) (by omega)
             have ik := Suint64.ix hD k (by omega)
             obtain ⟨ca,ck,-⟩ := hD.facts a k (by omega) (by omega)
             simp [e0,e1,ei,ej,hle,ia,ik,ca,ck]
             refine FN.mono (Suint64.less_c (at_ dk k) (at_ dk a) W) ?_
             rintro _ _ ⟨rfl,rfl⟩
             simp
             by_cases hl2 : Sort.ltInt (at_ dk k) (at_ dk a) = false
             ·rw [← sd_go (fun x => !Sort.ltInt x dk[a]!) hle hp (by simpa [at_] using hl2)] at hT
              simp [hl2,e0,e1,ei,ej,wj_]
              exact ⟨p,by omega,by omega,by omega,rfl,hD,hT,hM⟩
             ·replace hl2 := (Bool.eq_not).2 hl2
              simp only [Bool.not_false] at hl2
              have hd : i2 ≤ k → Sort.ltInt (at_ dk k) (at_ dk a) = !false := fun _ => hl2
              rw [sd_end (fun x => !Sort.ltInt x dk[a]!) (.inr (by simpa [at_] using hl2))] at hT
              simp [hl2]
              rw [Sort.partLoop_eq,← hS] at hI
              have hT' : k = Sort.scanDown (fun x => !Sort.ltInt x dk[a]!) dk i2 j := hT
              rw [← hT'] at hI
              by_cases hgt : k < i2
              ·have ia := Suint64.ix hD a (by omega)
               have ik := Suint64.ix hD k (by omega)
               rw [if_pos hgt] at hI
               simp [ei,ej,hgt]
               refine WC_drS 13 rfl (by kernel_rfl) fun W2 hW2 => ?_
               replace hD := hD.dr hW2
               replace hM := hM.dr hW2
               obtain ⟨c1,c2,f1,c3,f2⟩ := hD.facts k a (by omega) (by omega)
               simp [e0,e1,ej,ia,ik,c1,c2,f1,c3,f2]
               rw [Sort.partition_fst,Sort.partition_arr,← hI]
               exact ⟨rfl,hD.swap (by omega) (by omega),hD.mswap hM (by omega) _ _⟩
              ·rw [if_neg hgt] at hI
               have hne : i2 ≠ k := fun e => by
                have h1 := hu (by omega)
                have h2 := hd (by omega)
                rw [e] at h1; rw [h1] at h2; cases h2
               have wi2_ : IntKind.i64.wrap ((i2 : Int) + 1) = ((i2 + 1 : Nat) : Int) := wnat _ _ (by omega) (by omega)
               have wk_ : IntKind.i64.wrap ((k : Int) - 1) = ((k - 1 : Nat) : Int) := wnat _ _ (by omega) (by omega)
               have ii := Suint64.ix hD i2 (by omega)
               have ik := Suint64.ix hD k (by omega)
               simp [ei,ej,hgt]
               refine WC_drS 13 rfl (by kernel_rfl) fun W2 hW2 => ?_
               replace hD := hD.dr hW2
               replace hM := hM.dr hW2
               obtain ⟨c1,c2,f1,c3,f2⟩ := hD.facts i2 k (by omega) (by omega)
               have hD2 := hD.swap (i := i2) (j := k) (by omega) (by omega)
               have hM2 := hD.mswap (j := k) hM (i := i2) (by omega) (.int .u64 (at_ dk k)) (.int .u64 (at_ dk i2))
               simp [e0,e1,ei,ej,ii,ik,c1,c2,f1,c3,f2]
               rw [wi2_,wk_]
               exact ⟨k - 1 + 1 - (i2 + 1),by omega,i2 + 1,k - 1,rfl,by omega,by omega,by omega,rfl,rfl,_,hD2,by rw [size_swp]; exact hz,hI,hM2⟩
            ·have hd : i2 ≤ k → Sort.ltInt (at_ dk k) (at_ dk a) = !false := fun h => (hle h).elim
             rw [sd_end (fun x => !Sort.ltInt x dk[a]!) (.inl hle)] at hT
             simp [ei,ej,hle]
             rw [Sort.partLoop_eq,← hS] at hI
             have hT' : k = Sort.scanDown (fun x => !Sort.ltInt x dk[a]!) dk i2 j := hT
             rw [← hT'] at hI
             by_cases hgt : k < i2
             ·have ia := Suint64.ix hD a (by omega)
              have ik := Suint64.ix hD k (by omega)
              rw [if_pos hgt] at hI
              simp [hgt]
              refine WC_drS 13 rfl (by kernel_rfl) fun W2 hW2 => ?_
              replace hD := hD.dr hW2
              replace hM := hM.dr hW2
              obtain ⟨c1,c2,f1,c3,f2⟩ := hD.facts k a (by omega) (by omega)
              simp [e0,e1,ej,ia,ik,c1,c2,f1,c3,f2]
              rw [Sort.partition_fst,Sort.partition_arr,← hI]
              exact ⟨rfl,hD.swap (by omega) (by omega),hD.mswap hM (by omega) _ _⟩
             ·rw [if_neg hgt] at hI
              have hne : i2 ≠ k := fun e => by
               have h1 := hu (by omega)
               have h2 := hd (by omega)
               rw [e] at h1; rw [h1] at h2; cases h2
              have wi2_ : IntKind.i64.wrap ((i2 : Int) + 1) = ((i2 + 1 : Nat) : Int) := wnat _ _ (by omega) (by omega)
              have wk_ : IntKind.i64.wrap ((k : Int) - 1) = ((k - 1 : Nat) : Int) := wnat _ _ (by omega) (by omega)
              have ii := Suint64.ix hD i2 (by omega)
              have ik := Suint64.ix hD k (by omega)
              simp [hgt]
              refine WC_drS 13 rfl (by kernel_rfl) fun W2 hW2 => ?_
              replace hD := hD.dr hW2
              replace hM := hM.dr hW2
              obtain ⟨c1,c2,f1,c3,f2⟩ := hD.facts i2 k (by omega) (by omega)
              have hD2 := hD.swap (i := i2) (j := k) (by omega) (by omega)
              have hM2 := hD.mswap (j := k) hM (i := i2) (by omega) (.int .u64 (at_ dk k)) (.int .u64 (at_ dk i2))
              simp [e0,e1,ei,ej,ii,ik,c1,c2,f1,c3,f2]
              rw [wi2_,wk_]
              exact ⟨k - 1 + 1 - (i2 + 1),by omega,i2 + 1,k - 1,rfl,by omega,by omega,by omega,rfl,rfl,_,hD2,by rw [size_swp]; exact hz,hI,hM2⟩
         ·have hu : i2 ≤ j → Sort.ltInt (at_ dk i2) (at_ dk a) = !true := fun h => (hle h).elim
          rw [su_end (fun x => Sort.ltInt x dk[a]!) (.inl hle)] at hS
          simp [ei,ej,hle]
          refine WC_loop (fun k ρ ds w' => ∃ j2 : Nat, k = j2 ∧ j2 ≤ j ∧ i2 ≤ j2 + 1 ∧ ρ 0 = v ∧ ρ 1 = .int .i64 a ∧ ρ 10 = .int .i64 i2 ∧ ρ 11 = .int .i64 j2 ∧ ds = [] ∧ Suint64.A w' v dk ∧
           Sort.scanDown (fun x => !Sort.ltInt x dk[a]!) dk i2 j2 = Sort.scanDown (fun x => !Sort.ltInt x dk[a]!) dk i2 j ∧ Mod (Sv v) w w') j ⟨j,?_⟩ ?_
          ·simp [e0,e1,ei,ej]
           exact ⟨hij2,hD,hM⟩
          ·rintro k ρ ds w2 ⟨j2,rfl,hj2,hij3,e0,e1,ei,ej,rfl,hD,hT,hM⟩
           have ia := Suint64.ix hD a (by omega)
           simp
           refine WC_drQ 12 rfl (by kernel_rfl) fun W hW => ?_
           replace hD := hD.dr hW
           replace hM := hM.dr hW
           by_cases hle : i2 ≤ k
           ·obtain ⟨p,hp⟩ : ∃ p,k = p + 1 := ⟨k - 1,by omega⟩
            have wj_ : IntKind.i64.wrap ((k : Int) - 1) = (p : Int) := wnat _ _ (by omega) (by omega)
            have ik := Suint64.ix hD k (by omega)
            obtain ⟨ca,ck,-⟩ := hD.facts a k (by omega) (by omega)
            simp [e0,e1,ei,ej,hle,ia,ik,ca,ck]
            refine FN.mono (Suint64.less_c (at_ dk k) (at_ dk a) W) ?_
            rintro _ _ ⟨rfl,rfl⟩
            simp
            by_cases hl2 : Sort.ltInt (at_ dk k) (at_ dk a) = false
            ·rw [← sd_go (fun x => !Sort.ltInt x dk[a]!) hle hp (by simpa [at_] using hl2)] at hT
             simp [hl2,e0,e1,ei,ej,wj_]
             exact ⟨p,by omega,by omega,by omega,rfl,hD,hT,hM⟩
            ·replace hl2 := (Bool.eq_not).2 hl2
             simp only [Bool.not_false] at hl2
             have hd : i2 ≤ k → Sort.ltInt (at_ dk k) (at_ dk a) = !false := fun _ => hl2
             rw [sd_end (fun x => !Sort.ltInt x dk[a]!) (.inr (by simpa [at_] using hl2))] at hT
             simp [hl2]
             rw [Sort.partLoop_eq,← hS] at hI
             have hT' : k = Sort.scanDown (fun x => !Sort.ltInt x dk[a]!) dk i2 j := hT
             rw [← hT'] at hI
             by_cases hgt : k < i2
             ·have ia := Suint64.ix hD a (by omega)
              have ik := Suint64.ix hD k (by omega)
              rw [if_pos hgt] at hI
              simp [ei,ej,hgt]
              refine WC_drS 13 rfl (by kernel_rfl) fun W2 hW2 => ?_
              replace hD := hD.dr hW2
              replace hM := hM.dr hW2
              obtain ⟨c1,c2,f1,c3,f2⟩ := hD.facts k a (by omega) (by omega)
              simp [e0,e1,ej,ia,ik,c1,c2,f1,c3,f2]
              rw [Sort.partition_fst,Sort.partition_arr,← hI]
              exact ⟨rfl,hD.swap (by omega) (by omega),hD.mswap hM (by omega) _ _⟩
             ·rw [if_neg hgt] at hI
              have hne : i2 ≠ k := fun e => by
               have h1 := hu (by omega)
               have h2 := hd (by omega)
               rw [e] at h1; rw [h1] at h2; cases h2
              have wi2_ : IntKind.i64.wrap ((i2 : Int) + 1) = ((i2 + 1 : Nat) : Int) := wnat _ _ (by omega) (by omega)
              have wk_ : IntKind.i64.wrap ((k : Int) - 1) = ((k - 1 : Nat) : Int) := wnat _ _ (by omega) (by omega)
              have ii := Suint64.ix hD i2 (by omega)
              have ik := Suint64.ix hD k (by omega)
              simp [ei,ej,hgt]
              refine WC_drS 13 rfl (by kernel_rfl) fun W2 hW2 => ?_
              replace hD := hD.dr hW2
              replace hM := hM.dr hW2
              obtain ⟨c1,c2,f1,c3,f2⟩ := hD.facts i2 k (by omega) (by omega)
              have hD2 := hD.swap (i := i2) (j := k) (by omega) (by omega)
              have hM2 := hD.mswap (j := k) hM (i := i2) (by omega) (.int .u64 (at_ dk k)) (.int .u64 (at_ dk i2))
              simp [e0,e1,ei,ej,ii,ik,c1,c2,f1,c3,f2]
              rw [wi2_,wk_]
              exact ⟨k - 1 + 1 - (i2 + 1),by omega,i2 + 1,k - 1,rfl,by omega,by omega,by omega,rfl,rfl,_,hD2,by rw [size_swp]; exact hz,hI,hM2⟩
           ·have hd : i2 ≤ k → Sort.ltInt (at_ dk k) (at_ dk a) = !false := fun h => (hle h).elim
            rw [sd_end (fun x => !Sort.ltInt x dk[a]!) (.inl hle)] at hT
            simp [ei,ej,hle]
            rw [Sort.partLoop_eq,← hS] at hI
            have hT' : k = Sort.scanDown (fun x => !Sort.ltInt x dk[a]!) dk i2 j := hT
            rw [← hT'] at hI
            by_cases hgt : k < i2
            ·have ia := Suint64.ix hD a (by omega)
             have ik := Suint64.ix hD k (by omega)
             rw [if_pos hgt] at hI
             simp [hgt]
             refine WC_drS 13 rfl (by kernel_rfl) fun W2 hW2 => ?_
             replace hD := hD.dr hW2
             replace hM := hM.dr hW2
             obtain ⟨c1,c2,f1,c3,f2⟩ := hD.facts k a (by omega) (by omega)
             simp [e0,e1,ej,ia,ik,c1,c2,f1,c3,f2]
             rw [Sort.partition_fst,Sort.partition_arr,← hI]
             exact ⟨rfl,hD.swap (by omega) (by omega),hD.mswap hM (by omega) _ _⟩
            ·rw [if_neg hgt] at hI
             have hne : i2 ≠ k := fun e => by
              have h1 := hu (by omega)
              have h2 := hd (by omega)
              rw [e] at h1; rw [h1] at h2; cases h2
             have wi2_ : IntKind.i64.wrap ((i2 : Int) + 1) = ((i2 + 1 : Nat) : Int) := wnat _ _ (by omega) (by omega)
             have wk_ : IntKind.i64.wrap ((k : Int) - 1) = ((k - 1 : Nat) : Int) := wnat _ _ (by omega) (by omega)
             have ii := Suint64.ix hD i2 (by omega)
             have ik := Suint64.ix hD k (by omega)
             simp [hgt]
             refine WC_drS 13 rfl (by kernel_rfl) fun W2 hW2 => ?_
             replace hD := hD.dr hW2
             replace hM := hM.dr hW2
             obtain ⟨c1,c2,f1,c3,f2⟩ := hD.facts i2 k (by omega) (by omega)
             have hD2 := hD.swap (i := i2) (j := k) (by omega) (by omega)
             have hM2 := hD.mswap (j := k) hM (i := i2) (by omega) (.int .u64 (at_ dk k)) (.int .u64 (at_ dk i2))
             simp [e0,e1,ei,ej,ii,ik,c1,c2,f1,c3,f2]
             rw [wi2_,wk_]
             exact ⟨k - 1 + 1 - (i2 + 1),by omega,i2 + 1,k - 1,rfl,by omega,by omega,by omega,rfl,rfl,_,hD2,by rw [size_swp]; exact hz,hI,hM2⟩
    ·have hd : i2 ≤ k → Sort.ltInt (at_ dk k) (at_ dk a) = !false := fun h => (hle h).elim
     rw [sd_end (fun x => !Sort.ltInt x dk[a]!) (.inl hle)] at hT
     simp [ei,ej,hle]
     rw [Sort.partLoop_eq,← hS] at hI
     have hT' : k = Sort.scanDown (fun x => !Sort.ltInt x dk[a]!) dk i2 j := hT
     rw [← hT'] at hI
     by_cases hgt : k < i2
     ·have ia := Suint64.ix hD a (by omega)
      have ik := Suint64.ix hD k (by omega)
      rw [if_pos hgt] at hI
      simp [hgt]
      refine WC_drS 13 rfl (by kernel_rfl) fun W2 hW2 => ?_
      replace hD := hD.dr hW2
      replace hM := hM.dr hW2
      obtain ⟨c1,c2,f1,c3,f2⟩ := hD.facts k a (by omega) (by omega)
      simp [e0,e1,ej,ia,ik,c1,c2,f1,c3,f2]
      rw [Sort.partition_fst,Sort.partition_arr,← hI]
      exact ⟨rfl,hD.swap (by omega) (by omega),hD.mswap hM (by omega) _ _⟩
     ·rw [if_neg hgt] at hI
      have hne : i2 ≠ k := fun e => by
       have h1 := hu (by omega)
       have h2 := hd (by omega)
       rw [e] at h1; rw [h1] at h2; cases h2
      have wi2_ : IntKind.i64.wrap ((i2 : Int) + 1) = ((i2 + 1 : Nat) : Int) := wnat _ _ (by omega) (by omega)
      have wk_ : IntKind.i64.wrap ((k : Int) - 1) = ((k - 1 : Nat) : Int) := wnat _ _ (by omega) (by omega)
      have ii := Suint64.ix hD i2 (by omega)
      have ik := Suint64.ix hD k (by omega)
      simp [hgt]
      refine WC_drS 13 rfl (by kernel_rfl) fun W2 hW2 => ?_
      replace hD := hD.dr hW2
      replace hM := hM.dr hW2
      obtain ⟨c1,c2,f1,c3,f2⟩ := hD.facts i2 k (by omega) (by omega)
      have hD2 := hD.swap (i := i2) (j := k) (by omega) (by omega)
      have hM2 := hD.mswap (j := k) hM (i := i2) (by omega) (.int .u64 (at_ dk k)) (.int .u64 (at_ dk i2))
      simp [e0,ei,ej,ii,ik,c1,c2,f1,c3,f2]
      rw [wi2_,wk_]
      refine WC_loop (fun k ρ ds w' => ∃ (i j : Nat) (dk : Array Int), k = j + 1 - i ∧ a < i ∧ i ≤ j + 1 ∧ j < b ∧ ρ 0 = v ∧ ρ 1 = .int .i64 a ∧ ρ 10 = .int .i64 i ∧ ρ 11 = .int .i64 j ∧ ds = [] ∧ Suint64.A w' v dk ∧ dk.size = d.size ∧
       Sort.partLoop Sort.ltInt a i j dk = Sort.partLoop Sort.ltInt a (a + 1) (b - 1) (Sort.swp d a pivot) ∧ Mod (Sv v) w w') (k - 1 + 1 - (i2 + 1)) ⟨i2 + 1,k - 1,Sort.swp dk i2 k,?_⟩ ?_
      ·simp [e0,e1]
       exact ⟨by omega,by omega,by omega,hD2,by rw [size_swp]; exact hz,hI,hM2⟩
      ·rintro kk ρ ds w1 ⟨i,j,dk,rfl,hai,hij,hjb,e0,e1,ei,ej,rfl,hD,hz,hI,hM⟩
       simp
       refine WC_loop (fun k ρ ds w' => ∃ i2 : Nat, k = j + 1 - i2 ∧ i ≤ i2 ∧ i2 ≤ j + 1 ∧ ρ 0 = v ∧ ρ 1 = .int .i64 a ∧ ρ 10 = .int .i64 i2 ∧ ρ 11 = .int .i64 j ∧ ds = [] ∧ Suint64.A w' v dk ∧
        Sort.scanUp (fun x => Sort.ltInt x dk[a]!) dk j i2 = Sort.scanUp (fun x => Sort.ltInt x dk[a]!) dk j i ∧ Mod (Sv v) w w') (j + 1 - i) ⟨i,?_⟩ ?_
       ·simp [e0,e1,ei,ej]
        exact ⟨hij,hD,hM⟩
       ·rintro k ρ ds w2 ⟨i2,rfl,hi2,hij2,e0,e1,ei,ej,rfl,hD,hS,hM⟩
        have wi_ : IntKind.i64.wrap ((i2 : Int) + 1) = ((i2 + 1 : Nat) : Int) := wnat _ _ (by omega) (by omega)
        have ia := Suint64.ix hD a (by omega)
        simp
        refine WC_drQ 12 rfl (by kernel_rfl) fun W hW => ?_
        replace hD := hD.dr hW
        replace hM := hM.dr hW
        by_cases hle : i2 ≤ j
        ·have ii := Suint64.ix hD i2 (by omega)
         obtain ⟨ca,ci,-⟩ := hD.facts a i2 (by omega) (by omega)
         simp [e0,e1,ei,ej,hle,ia,ii,ca,ci]
         refine FN.mono (Suint64.less_c (at_ dk i2) (at_ dk a) W) ?_
         rintro _ _ ⟨rfl,rfl⟩
         simp
         by_cases hl : Sort.ltInt (at_ dk i2) (at_ dk a) = true
         ·rw [← su_go (fun x => Sort.ltInt x dk[a]!) hle (by simpa [at_] using hl)] at hS
          simp [hl,e0,e1,ei,ej]
          rw [wi_]
          exact ⟨j + 1 - (i2 + 1),by omega,i2 + 1,rfl,by omega,by omega,rfl,hD,hS,hM⟩
         ·replace hl := (Bool.eq_not).2 hl
          simp only [Bool.not_true] at hl
          have hu : i2 ≤ j → Sort.ltInt (at_ dk i2) (at_ dk a) = !true := fun _ => hl
          rw [su_end (fun x => Sort.ltInt x dk[a]!) (.inr (by simpa [at_] using hl))] at hS
          simp [hl]
          refine WC_loop (fun k ρ ds w' => ∃ j2 : Nat, k = j2 ∧ j2 ≤ j ∧ i2 ≤ j2 + 1 ∧ ρ 0 = v ∧ ρ 1 = .int .i64 a ∧ ρ 10 = .int .i64 i2 ∧ ρ 11 = .int .i64 j2 ∧ ds = [] ∧ Suint64.A w' v dk ∧
           Sort.scanDown (fun x => !Sort.ltInt x dk[a]!) dk i2 j2 = Sort.scanDown (fun x => !Sort.ltInt x dk[a]!) dk i2 j ∧ Mod (Sv v) w w') j ⟨j,?_⟩ ?_
          ·simp [e0,e1,ei,ej]
           exact ⟨hij2,hD,hM⟩
          ·rintro k ρ ds w2 ⟨j2,rfl,hj2,hij3,e0,e1,ei,ej,rfl,hD,hT,hM⟩
           have ia := Suint64.ix hD a (by omega)
           simp
           refine WC_drQ 12 rfl (by kernel_rfl) fun W hW => ?_
           replace hD := hD.dr hW
           replace hM := hM.dr hW
           by_cases hle : i2 ≤ k
           ·obtain ⟨p,hp⟩ : ∃ p,k = p + 1 := ⟨k - 1,by omega⟩
            have wj_ : IntKind.i64.wrap ((k : Int) - 1) = (p : Int) := wnat _ _ (by omega) (by omega)
            have ik := Suint64.ix hD k (by omega)
            obtain ⟨ca,ck,-⟩ := hD.facts a k (by omega) (by omega)
            simp [e0,e1,ei,ej,hle,ia,ik,ca,ck]
            refine FN.mono (Suint64.less_c (at_ dk k) (at_ dk a) W) ?_
            rintro _ _ ⟨rfl,rfl⟩
            simp
            by_cases hl2 : Sort.ltInt (at_ dk k) (at_ dk a) = false
            ·rw [← sd_go (fun x => !Sort.ltInt x dk[a]!) hle hp (by simpa [at_] using hl2)] at hT
             simp [hl2,e0,e1,ei,ej,wj_]
             exact ⟨p,by omega,by omega,by omega,rfl,hD,hT,hM⟩
            ·replace hl2 := (Bool.eq_not).2 hl2
             simp only [Bool.not_false] at hl2
             have hd : i2 ≤ k → Sort.ltInt (at_ dk k) (at_ dk a) = !false := fun _ => hl2
             rw [sd_end (fun x => !Sort.ltInt x dk[a]!) (.inr (by simpa [at_] using hl2))] at hT
             simp [hl2]
             rw [Sort.partLoop_eq,← hS] at hI
             have hT' : k = Sort.scanDown (fun x => !Sort.ltInt x dk[a]!) dk i2 j := hT
             rw [← hT'] at hI
             by_cases hgt : k < i2
             ·have ia := Suint64.ix hD a (by omega)
              have ik := Suint64.ix hD k (by omega)
              rw [if_pos hgt] at hI
              simp [ei,ej,hgt]
              refine WC_drS 13 rfl (by kernel_rfl) fun W2 hW2 => ?_
              replace hD := hD.dr hW2
              replace hM := hM.dr hW2
              obtain ⟨c1,c2,f1,c3,f2⟩ := hD.facts k a (by omega) (by omega)
              simp [e0,e1,ej,ia,ik,c1,c2,f1,c3,f2]
              rw [Sort.partition_fst,Sort.partition_arr,← hI]
              exact ⟨rfl,hD.swap (by omega) (by omega),hD.mswap hM (by omega) _ _⟩
             ·rw [if_neg hgt] at hI
              have hne : i2 ≠ k := fun e => by
               have h1 := hu (by omega)
               have h2 := hd (by omega)
               rw [e] at h1; rw [h1] at h2; cases h2
              have wi2_ : IntKind.i64.wrap ((i2 : Int) + 1) = ((i2 + 1 : Nat) : Int) := wnat _ _ (by omega) (by omega)
              have wk_ : IntKind.i64.wrap ((k : Int) - 1) = ((k - 1 : Nat) : Int) := wnat _ _ (by omega) (by omega)
              have ii := Suint64.ix hD i2 (by omega)
              have ik := Suint64.ix hD k (by omega)
              simp [ei,ej,hgt]
              refine WC_drS 13 rfl (by kernel_rfl) fun W2 hW2 => ?_
              replace hD := hD.dr hW2
              replace hM := hM.dr hW2
              obtain ⟨c1,c2,f1,c3,f2⟩ := hD.facts i2 k (by omega) (by omega)
              have hD2 := hD.swap (i := i2) (j := k) (by omega) (by omega)
              have hM2 := hD.mswap (j := k) hM (i := i2) (by omega) (.int .u64 (at_ dk k)) (.int .u64 (at_ dk i2))
              simp [e0,e1,ei,ej,ii,ik,c1,c2,f1,c3,f2]
              rw [wi2_,wk_]
              exact ⟨k - 1 + 1 - (i2 + 1),by omega,i2 + 1,k - 1,rfl,by omega,by omega,by omega,rfl,rfl,_,hD2,by rw [size_swp]; exact hz,hI,hM2⟩
           ·have hd : i2 ≤ k → Sort.ltInt (at_ dk k) (at_ dk a) = !false := fun h => (hle h).elim
            rw [sd_end (fun x => !Sort.ltInt x dk[a]!) (.inl hle)] at hT
            simp [ei,ej,hle]
            rw [Sort.partLoop_eq,← hS] at hI
            have hT' : k = Sort.scanDown (fun x => !Sort.ltInt x dk[a]!) dk i2 j := hT
            rw [← hT'] at hI
            by_cases hgt : k < i2
            ·have ia := Suint64.ix hD a (by omega)
             have ik := Suint64.ix hD k (by omega)
             rw [if_pos hgt] at hI
             simp [hgt]
             refine WC_drS 13 rfl (by kernel_rfl) fun W2 hW2 => ?_
             replace hD := hD.dr hW2
             replace hM := hM.dr hW2
             obtain ⟨c1,c2,f1,c3,f2⟩ := hD.facts k a (by omega) (by omega)
             simp [e0,e1,ej,ia,ik,c1,c2,f1,c3,f2]
             rw [Sort.partition_fst,Sort.partition_arr,← hI]
             exact ⟨rfl,hD.swap (by omega) (by omega),hD.mswap hM (by omega) _ _⟩
            ·rw [if_neg hgt] at hI
             have hne : i2 ≠ k := fun e => by
              have h1 := hu (by omega)
              have h2 := hd (by omega)
              rw [e] at h1; rw [h1] at h2; cases h2
             have wi2_ : IntKind.i64.wrap ((i2 : Int) + 1) = ((i2 + 1 : Nat) : Int) := wnat _ _ (by omega) (by omega)
             have wk_ : IntKind.i64.wrap ((k : Int) - 1) = ((k - 1 : Nat) : Int) := wnat _ _ (by omega) (by omega)
             have ii := Suint64.ix hD i2 (by omega)
             have ik := Suint64.ix hD k (by omega)
             simp [hgt]
             refine WC_drS 13 rfl (by kernel_rfl) fun W2 hW2 => ?_
             replace hD := hD.dr hW2
             replace hM := hM.dr hW2
             obtain ⟨c1,c2,f1,c3,f2⟩ := hD.facts i2 k (by omega) (by omega)
             have hD2 := hD.swap (i := i2) (j := k) (by omega) (by omega)
             have hM2 := hD.mswap (j := k) hM (i := i2) (by omega) (.int .u64 (at_ dk k)) (.int .u64 (at_ dk i2))
             simp [e0,e1,ei,ej,ii,ik,c1,c2,f1,c3,f2]
             rw [wi2_,wk_]
             exact ⟨k - 1 + 1 - (i2 + 1),by omega,i2 + 1,k - 1,rfl,by omega,by omega,by omega,rfl,rfl,_,hD2,by rw [size_swp]; exact hz,hI,hM2⟩
        ·have hu : i2 ≤ j → Sort.ltInt (at_ dk i2) (at_ dk a) = !true := fun h => (hle h).elim
         rw [su_end (fun x => Sort.ltInt x dk[a]!) (.inl hle)] at hS
         simp [ei,ej,hle]
         refine WC_loop (fun k ρ ds w' => ∃ j2 : Nat, k = j2 ∧ j2 ≤ j ∧ i2 ≤ j2 + 1 ∧ ρ 0 = v ∧ ρ 1 = .int .i64 a ∧ ρ 10 = .int .i64 i2 ∧ ρ 11 = .int .i64 j2 ∧ ds = [] ∧ Suint64.A w' v dk ∧
          Sort.scanDown (fun x => !Sort.ltInt x dk[a]!) dk i2 j2 = Sort.scanDown (fun x => !Sort.ltInt x dk[a]!) dk i2 j ∧ Mod (Sv v) w w') j ⟨j,?_⟩ ?_
         ·simp [e0,e1,ei,ej]
          exact ⟨hij2,hD,hM⟩
         ·rintro k ρ ds w2 ⟨j2,rfl,hj2,hij3,e0,e1,ei,ej,rfl,hD,hT,hM⟩
          have ia := Suint64.ix hD a (by omega)
          simp
          refine WC_drQ 12 rfl (by kernel_rfl) fun W hW => ?_
          replace hD := hD.dr hW
          replace hM := hM.dr hW
          by_cases hle : i2 ≤ k
          ·obtain ⟨p,hp⟩ : ∃ p,k = p + 1 := ⟨k - 1,by omega⟩
           have wj_ : IntKind.i64.wrap ((k : Int) - 1) = (p : Int) := wnat _ _ (by omega) (by omega)
           have ik := Suint64.ix hD k (by omega)
           obtain ⟨ca,ck,-⟩ := hD.facts a k (by omega) (by omega)
           simp [e0,e1,ei,ej,hle,ia,ik,ca,ck]
           refine FN.mono (Suint64.less_c (at_ dk k) (at_ dk a) W) ?_
           rintro _ _ ⟨rfl,rfl⟩
           simp
           by_cases hl2 : Sort.ltInt (at_ dk k) (at_ dk a) = false
           ·rw [← sd_go (fun x => !Sort.ltInt x dk[a]!) hle hp (by simpa [at_] using hl2)] at hT
            simp [hl2,e0,e1,ei,ej,wj_]
            exact ⟨p,by omega,by omega,by omega,rfl,hD,hT,hM⟩
           ·replace hl2 := (Bool.eq_not).2 hl2
            simp only [Bool.not_false] at hl2
            have hd : i2 ≤ k → Sort.ltInt (at_ dk k) (at_ dk a) = !false := fun _ => hl2
            rw [sd_end (fun x => !Sort.ltInt x dk[a]!) (.inr (by simpa [at_] using hl2))] at hT
            simp [hl2]
            rw [Sort.partLoop_eq,← hS] at hI
            have hT' : k = Sort.scanDown (fun x => !Sort.ltInt x dk[a]!) dk i2 j := hT
            rw [← hT'] at hI
            by_cases hgt : k < i2
            ·have ia := Suint64.ix hD a (by omega)
             have ik := Suint64.ix hD k (by omega)
             rw [if_pos hgt] at hI
             simp [ei,ej,hgt]
             refine WC_drS 13 rfl (by kernel_rfl) fun W2 hW2 => ?_
             replace hD := hD.dr hW2
             replace hM := hM.dr hW2
             obtain ⟨c1,c2,f1,c3,f2⟩ := hD.facts k a (by omega) (by omega)
             simp [e0,e1,ej,ia,ik,c1,c2,f1,c3,f2]
             rw [Sort.partition_fst,Sort.partition_arr,← hI]
             exact ⟨rfl,hD.swap (by omega) (by omega),hD.mswap hM (by omega) _ _⟩
            ·rw [if_neg hgt] at hI
             have hne : i2 ≠ k := fun e => by
              have h1 := hu (by omega)
              have h2 := hd (by omega)
              rw [e] at h1; rw [h1] at h2; cases h2
             have wi2_ : IntKind.i64.wrap ((i2 : Int) + 1) = ((i2 + 1 : Nat) : Int) := wnat _ _ (by omega) (by omega)
             have wk_ : IntKind.i64.wrap ((k : Int) - 1) = ((k - 1 : Nat) : Int) := wnat _ _ (by omega) (by omega)
             have ii := Suint64.ix hD i2 (by omega)
             have ik := Suint64.ix hD k (by omega)
             simp [ei,ej,hgt]
             refine WC_drS 13 rfl (by kernel_rfl) fun W2 hW2 => ?_
             replace hD := hD.dr hW2
             replace hM := hM.dr hW2
             obtain ⟨c1,c2,f1,c3,f2⟩ := hD.facts i2 k (by omega) (by omega)
             have hD2 := hD.swap (i := i2) (j := k) (by omega) (by omega)
             have hM2 := hD.mswap (j := k) hM (i := i2) (by omega) (.int .u64 (at_ dk k)) (.int .u64 (at_ dk i2))
             simp [e0,e1,ei,ej,ii,ik,c1,c2,f1,c3,f2]
             rw [wi2_,wk_]
             exact ⟨k - 1 + 1 - (i2 + 1),by omega,i2 + 1,k - 1,rfl,by omega,by omega,by omega,rfl,rfl,_,hD2,by rw [size_swp]; exact hz,hI,hM2⟩
          ·have hd : i2 ≤ k → Sort.ltInt (at_ dk k) (at_ dk a) = !false := fun h => (hle h).elim
           rw [sd_end (fun x => !Sort.ltInt x dk[a]!) (.inl hle)] at hT
           simp [ei,ej,hle]
           rw [Sort.partLoop_eq,← hS] at hI
           have hT' : k = Sort.scanDown (fun x => !Sort.ltInt x dk[a]!) dk i2 j := hT
           rw [← hT'] at hI
           by_cases hgt : k < i2
           ·have ia := Suint64.ix hD a (by omega)
            have ik := Suint64.ix hD k (by omega)
            rw [if_pos hgt] at hI
            simp [hgt]
            refine WC_drS 13 rfl (by kernel_rfl) fun W2 hW2 => ?_
            replace hD := hD.dr hW2
            replace hM := hM.dr hW2
            obtain ⟨c1,c2,f1,c3,f2⟩ := hD.facts k a (by omega) (by omega)
            simp [e0,e1,ej,ia,ik,c1,c2,f1,c3,f2]
            rw [Sort.partition_fst,Sort.partition_arr,← hI]
            exact ⟨rfl,hD.swap (by omega) (by omega),hD.mswap hM (by omega) _ _⟩
           ·rw [if_neg hgt] at hI
            have hne : i2 ≠ k := fun e => by
             have h1 := hu (by omega)
             have h2 := hd (by omega)
             rw [e] at h1; rw [h1] at h2; cases h2
            have wi2_ : IntKind.i64.wrap ((i2 : Int) + 1) = ((i2 + 1 : Nat) : Int) := wnat _ _ (by omega) (by omega)
            have wk_ : IntKind.i64.wrap ((k : Int) - 1) = ((k - 1 : Nat) : Int) := wnat _ _ (by omega) (by omega)
            have ii := Suint64.ix hD i2 (by omega)
            have ik := Suint64.ix hD k (by omega)
            simp [hgt]
            refine WC_drS 13 rfl (by kernel_rfl) fun W2 hW2 => ?_
            replace hD := hD.dr hW2
            replace hM := hM.dr hW2
            obtain ⟨c1,c2,f1,c3,f2⟩ := hD.facts i2 k (by omega) (by omega)
            have hD2 := hD.swap (i := i2) (j := k) (by omega) (by omega)
            have hM2 := hD.mswap (j := k) hM (i := i2) (by omega) (.int .u64 (at_ dk k)) (.int .u64 (at_ dk i2))
            simp [e0,e1,ei,ej,ii,ik,c1,c2,f1,c3,f2]
            rw [wi2_,wk_]
            exact ⟨k - 1 + 1 - (i2 + 1),by omega,i2 + 1,k - 1,rfl,by omega,by omega,by omega,rfl,rfl,_,hD2,by rw [size_swp]; exact hz,hI,hM2⟩
end Go.Proofs
namespace Go.Proofs
open Pk
set_option maxRecDepth 10000
/- what lies between the pivot's choice and the partition; d1: the row,hP1: shuffled -/
set_option maxHeartbeats 8000000 in
theorem Suint64.pdq_c {v : Value} : ∀ (N a b : Nat) (d : Array Int) (w : World) (z : Int), b - a < N → a ≤ b → b ≤ d.size → d.size ≤ 255 → Suint64.A w v d → Sort.Below Sort.ltInt a b d →
  FN Tryz.prog 182 [v,.int .i64 a,.int .i64 b,.int .i64 z] w fun e w' => (∃ u,e = .returned u) ∧ ∃ d',Sort.PermIn a b d d' ∧ Sort.SortedIn Sort.ltInt a b d' ∧ Suint64.A w' v d' ∧ Mod (Sv v) w w' := by
 intro N
 induction N with
 | zero => intro a b d w z h; omega
 | succ N ih =>
 intro a b d w z hN hab hb hn hA hB
 refine FN_enter Tryz.func182 rfl rfl (by kernel_rfl) ?_
 simp
 refine WC_loop (fun k ρ ds w' => ∃ (a' b' : Nat) (z : Int) (b8 b9 : Bool) (dk : Array Int), k = b' - a' ∧ a' ≤ b' ∧ b' ≤ d.size ∧ b' - a' ≤ b - a ∧ ρ 0 = v ∧ ρ 1 = .int .i64 a' ∧ ρ 2 = .int .i64 b' ∧ ρ 3 = .int .i64 z ∧ ρ 8 = .bool b8 ∧ ρ 9 = .bool b9 ∧ ds = [] ∧
  Suint64.A w' v dk ∧ dk.size = d.size ∧ Sort.Below Sort.ltInt a' b' dk ∧ (∀ R,Sort.PermIn a' b' dk R → Sort.SortedIn Sort.ltInt a' b' R → Sort.PermIn a b d R ∧ Sort.SortedIn Sort.ltInt a b R) ∧ Mod (Sv v) w w') (b - a) ⟨a,b,z,true,true,d,?_⟩ ?_
 ·simp
  exact ⟨hab,hb,hA,hB,fun R h1 h2 => ⟨h1,h2⟩,Mod.refl _ _⟩
 ·rintro k ρ ds w1 ⟨a',b',z,b8,b9,dk,rfl,hab',hb',hle,e0,e1,e2,e3,e8,e9,rfl,hD,hz,hB,hC,hM⟩
  have w1_ : IntKind.i64.wrap ((b' : Int) - (a' : Int)) = ((b' - a' : Nat) : Int) := wnat _ _ (by omega) (by omega)
  by_cases h12 : b' - a' ≤ 12
  ·have h12' : ((b' - a' : Nat) : Int) ≤ 12 := by omega
   simp [e0,e1,e2,w1_,h12']
   refine FN.mono (Suint64.ins_c hD (a := a') (b := b') (by omega) (by omega) (by omega)) ?_
   rintro _ w2 ⟨⟨u,rfl⟩,hD2,hM2⟩
   simp
   obtain ⟨q1,q2⟩ := Sort.insertionSort_holds Sort.swo_ltInt dk a' b' hab' (by omega)
   exact ⟨_,(hC _ q1 q2).1,(hC _ q1 q2).2,hD2,hM.trans hM2⟩
  ·have h12' : ¬ ((b' - a' : Nat) : Int) ≤ 12 := by omega
   by_cases hz0 : z = 0
   ·subst hz0
    simp [e0,e1,e2,e3,w1_,h12']
    refine FN.mono (Suint64.heap_c hD (a := a') (b := b') (by omega) (by omega) (by omega)) ?_
    rintro _ w2 ⟨⟨u,rfl⟩,hD2,hM2⟩
    simp
    obtain ⟨q1,q2⟩ := Sort.heapSort_holds Sort.swo_ltInt dk a' b' hab' (by omega)
    exact ⟨_,(hC _ q1 q2).1,(hC _ q1 q2).2,hD2,hM.trans hM2⟩
   ·have hz0' : (z == 0) = false := by simp [hz0]
    refine with_tail (T := ∀ (σ : Env) (W : World) (d3 : Array Int) (p : Nat),
     (σ 0 = v ∧ σ 1 = .int .i64 a' ∧ σ 2 = .int .i64 b' ∧ (∃ z,σ 3 = .int .i64 z) ∧ (∃ c,σ 8 = .bool c) ∧ (∃ c,σ 9 = .bool c) ∧ σ 10 = .int .i64 ((b' - a' : Nat) : Int) ∧ σ 11 = .int .i64 p) ∧
     Suint64.A W v d3 ∧ Sort.PermIn a' b' dk d3 ∧ a' ≤ p ∧ p < b' ∧ Mod (Sv v) w W → WC Tryz.prog 134 none ?c ?Q σ [] W) (fun tail => ?_) ?_
    rotate_left 2
    ·simp [e1,e2,e3,e8,w1_,h12',hz0']
     cases b8
     ·simp [e0,e1,e2]
      refine FN.mono (Suint64.brk_c hD (a := a') (b := b') (by omega) (by omega) (by omega)) ?_
      rintro _ w2 ⟨⟨u,rfl⟩,d1,hP1,hD,hM2⟩
      replace hM := hM.trans hM2
      have hz1 := hP1.1
      obtain ⟨z1,hz1'⟩ : ∃ z1,z1 = IntKind.i64.wrap (z - 1) := ⟨_,rfl⟩
      simp [e0,e1,e2,e3,← hz1']
      refine FN.mono (Suint64.piv_c hD (a := a') (b := b') (by omega) (by omega) (by omega)) ?_
      rintro _ w3 ⟨⟨p,h,rfl,hp1,hp2⟩,hD,hM3⟩
      replace hM := hM.trans hM3
      simp
      by_cases h2 : h = 2
      ·simp [h2,e0,e1,e2]
       refine FN.mono (Suint64.rev_c hD (a := a') (b := b') (by omega) (by omega) (by omega)) ?_
       rintro _ w4 ⟨⟨u,rfl⟩,d2,hP2,hD,hM4⟩
       replace hM := hM.trans hM4
       replace hP1 := Sort.permIn_trans _ _ _ _ _ hP1 hP2
       have hz2 := hP1.1
       obtain ⟨p2,hp⟩ : ∃ p2,p2 = b' - 1 - (p - a') := ⟨_,rfl⟩
       have wa_ : IntKind.i64.wrap ((b' : Int) - 1) = ((b' - 1 : Nat) : Int) := wnat _ _ (by omega) (by omega)
       have wb_ : IntKind.i64.wrap ((p : Int) - (a' : Int)) = ((p - a' : Nat) : Int) := wnat _ _ (by omega) (by omega)
       have wc_ : IntKind.i64.wrap (((b' - 1 : Nat) : Int) - ((p - a' : Nat) : Int)) = (p2 : Int) := wnat _ _ (by omega) (by omega)
       simp [e1,e2,e8,wa_,wb_,wc_]
       refine tail _ _ d2 p2 ⟨?_,hD,hP1,by omega,by omega,hM⟩
       simp [e0,e1,e2,e8,e9]
      ·have h2' : (h == 2) = false := by simp [h2]
       simp [h2',e8]
       refine tail _ _ d1 p ⟨?_,hD,hP1,by omega,by omega,hM⟩
       simp [e0,e1,e2,e8,e9]
     ·obtain ⟨d1,hd1⟩ : ∃ d1,d1 = dk := ⟨_,rfl⟩
      have hP1 : Sort.PermIn a' b' dk d1 := by rw [hd1]; exact Sort.permIn_refl _ _ _
      rw [← hd1] at hD
      have hz1 := hP1.1
      simp [e0,e1,e2]
      refine FN.mono (Suint64.piv_c hD (a := a') (b := b') (by omega) (by omega) (by omega)) ?_
      rintro _ w3 ⟨⟨p,h,rfl,hp1,hp2⟩,hD,hM3⟩
      replace hM := hM.trans hM3
      simp
      by_cases h2 : h = 2
      ·simp [h2,e0,e1,e2]
       refine FN.mono (Suint64.rev_c hD (a := a') (b := b') (by omega) (by omega) (by omega)) ?_
       rintro _ w4 ⟨⟨u,rfl⟩,d2,hP2,hD,hM4⟩
       replace hM := hM.trans hM4
       replace hP1 := Sort.permIn_trans _ _ _ _ _ hP1 hP2
       have hz2 := hP1.1
       obtain ⟨p2,hp⟩ : ∃ p2,p2 = b' - 1 - (p - a') := ⟨_,rfl⟩
       have wa_ : IntKind.i64.wrap ((b' : Int) - 1) = ((b' - 1 : Nat) : Int) := wnat _ _ (by omega) (by omega)
       have wb_ : IntKind.i64.wrap ((p : Int) - (a' : Int)) = ((p - a' : Nat) : Int) := wnat _ _ (by omega) (by omega)
       have wc_ : IntKind.i64.wrap (((b' - 1 : Nat) : Int) - ((p - a' : Nat) : Int)) = (p2 : Int) := wnat _ _ (by omega) (by omega)
       simp [e1,e2,e8,e9,wa_,wb_,wc_]
       cases b9
       ·simp
        refine tail _ _ d2 p2 ⟨?_,hD,hP1,by omega,by omega,hM⟩
        simp [e0,e1,e2,e3,e8,e9]
       ·simp [e0,e1,e2]
        have hz3 := hP1.1
        refine FN.mono (Suint64.pis_c hD (a := a') (b := b') (by omega) (by omega) (by omega)) ?_
        rintro _ w5 ⟨rfl,hD,hM5⟩
        replace hM := hM.trans hM5
        have hB1 := Sort.Below.perm hB (by omega) hP1
        obtain ⟨hq1,hq2⟩ := Sort.partialInsertionSort_holds Sort.swo_ltInt d2 a' b' (by omega) (by omega) hB1
        generalize Sort.partialInsertionSort Sort.ltInt d2 a' b' = R at *
        obtain ⟨R1,R2⟩ := R
        cases R2
        ·simp
         refine tail _ _ R1 p2 ⟨?_,hD,Sort.permIn_trans _ _ _ _ _ hP1 hq1,by omega,by omega,hM⟩
         simp [e0,e1,e2,e3,e8,e9]
        ·simp
         exact ⟨R1,(hC _ (Sort.permIn_trans _ _ _ _ _ hP1 hq1) (hq2 rfl)).1,(hC _ (Sort.permIn_trans _ _ _ _ _ hP1 hq1) (hq2 rfl)).2,hD,hM⟩
      ·have h2' : (h == 2) = false := by simp [h2]
       simp [h2',e8,e9]
       cases b9
       ·simp
        refine tail _ _ d1 p ⟨?_,hD,hP1,by omega,by omega,hM⟩
        simp [e0,e1,e2,e3,e8,e9]
       ·by_cases h1 : h = 1
        ·simp [h1,e0,e1,e2]
         have hz3 := hP1.1
         refine FN.mono (Suint64.pis_c hD (a := a') (b := b') (by omega) (by omega) (by omega)) ?_
         rintro _ w5 ⟨rfl,hD,hM5⟩
         replace hM := hM.trans hM5
         have hB1 := Sort.Below.perm hB (by omega) hP1
         obtain ⟨hq1,hq2⟩ := Sort.partialInsertionSort_holds Sort.swo_ltInt d1 a' b' (by omega) (by omega) hB1
         generalize Sort.partialInsertionSort Sort.ltInt d1 a' b' = R at *
         obtain ⟨R1,R2⟩ := R
         cases R2
         ·simp
          refine tail _ _ R1 p ⟨?_,hD,Sort.permIn_trans _ _ _ _ _ hP1 hq1,by omega,by omega,hM⟩
          simp [e0,e1,e2,e3,e8,e9]
         ·simp
          exact ⟨R1,(hC _ (Sort.permIn_trans _ _ _ _ _ hP1 hq1) (hq2 rfl)).1,(hC _ (Sort.permIn_trans _ _ _ _ _ hP1 hq1) (hq2 rfl)).2,hD,hM⟩
        ·have h1' : (h == 1) = false := by simp [h1]
         simp [h1']
         refine tail _ _ d1 p ⟨?_,hD,hP1,by omega,by omega,hM⟩
         simp [e0,e1,e2,e3,e8,e9]
    ·rintro σ W d3 p ⟨⟨e0,e1,e2,⟨z,e3⟩,⟨c8,e8⟩,⟨c9,e9⟩,e10,e11⟩,hD,hP,hp1,hp2,hM⟩
     have hz3 := hP.1
     have hB3 := Sort.Below.perm hB (by omega) hP
     refine WC_drQ 12 rfl (by kernel_rfl) fun W hW => ?_
     replace hD := hD.dr hW
     replace hM := hM.dr hW
     by_cases ha0 : 0 < a'
     ·have wa_ : IntKind.i64.wrap ((a' : Int) - 1) = ((a' - 1 : Nat) : Int) := wnat _ _ (by omega) (by omega)
      have i1 := Suint64.ix hD (a' - 1) (by omega)
      have i2 := Suint64.ix hD p (by omega)
      obtain ⟨c1,c2,-⟩ := hD.facts (a' - 1) p (by omega) (by omega)
      simp [e0,e1,e11,ha0,wa_,i1,i2,c1,c2]
      refine FN.mono (Suint64.less_c (at_ d3 (a' - 1)) (at_ d3 p) W) ?_
      rintro _ _ ⟨rfl,rfl⟩
      simp
      by_cases hl : Sort.ltInt (at_ d3 (a' - 1)) (at_ d3 p) = true
      ·simp [hl,e0,e1,e2,e11]
       refine FN.mono (Suint64.part_c hD (a := a') (b := b') (pivot := p) hp1 hp2 (by omega) (by omega)) ?_
       rintro _ w6 ⟨⟨fl,rfl⟩,hD,hM6⟩
       replace hM := hM.trans hM6
       obtain ⟨mid,hmid⟩ : ∃ mid,mid = (Sort.partition Sort.ltInt d3 a' b' p).1 := ⟨_,rfl⟩
       obtain ⟨d4,hd4⟩ : ∃ d4,d4 = (Sort.partition Sort.ltInt d3 a' b' p).2.2 := ⟨_,rfl⟩
       obtain ⟨q1,q2,q3,q4,q5,q6,q7⟩ := Sort.round_part Sort.swo_ltInt (Sort.partition_holds _) (d3 := d3) (d4 := d4) (mid := mid) (ap := (Sort.partition Sort.ltInt d3 a' b' p).2.1) hp1 hp2 (by omega) hB3 (by rw [hmid,hd4])
       rw [← hd4] at hD
       rw [← hmid]
       have wl_ : IntKind.i64.wrap ((mid : Int) - (a' : Int)) = ((mid - a' : Nat) : Int) := wnat _ _ (by omega) (by omega)
       have wr_ : IntKind.i64.wrap ((b' : Int) - (mid : Int)) = ((b' - mid : Nat) : Int) := wnat _ _ (by omega) (by omega)
       have wm_ : IntKind.i64.wrap ((mid : Int) + 1) = ((mid + 1 : Nat) : Int) := wnat _ _ (by omega) (by omega)
       simp [e1,e2,e10,wl_,wr_]
       by_cases hlr : mid - a' < b' - mid
       ·simp [hlr,e0,e1,e3]
        refine FN.mono (ih a' mid d4 w6 z (by omega) q1 (by omega) (by omega) hD q4) ?_
        rintro _ w7 ⟨⟨u,rfl⟩,L,hL1,hL2,hD,hM7⟩
        replace hM := hM.trans hM7
        obtain ⟨r1,r2⟩ := q6 L hL1 hL2
        have hLz := hL1.1
        simp [e0,e2,e3]
        rw [wm_]
        exact ⟨b' - (mid + 1),by omega,mid + 1,b',rfl,by omega,by omega,by omega,rfl,rfl,by omega,L,hD,by omega,r1,fun R h1 h2 => hC R (Sort.permIn_trans _ _ _ _ _ hP (r2 R h1 h2).1) (r2 R h1 h2).2,hM⟩
       ·simp [hlr,e0,e2,e3]
        rw [wm_]
        refine FN.mono (ih (mid + 1) b' d4 w6 z (by omega) (by omega) (by omega) (by omega) hD q5) ?_
        rintro _ w7 ⟨⟨u,rfl⟩,L,hL1,hL2,hD,hM7⟩
        replace hM := hM.trans hM7
        obtain ⟨r1,r2⟩ := q7 L hL1 hL2
        have hLz := hL1.1
        simp [e0,e1,e3]
        exact ⟨mid - a',by omega,a',mid,rfl,by omega,by omega,by omega,rfl,rfl,by omega,L,hD,by omega,r1,fun R h1 h2 => hC R (Sort.permIn_trans _ _ _ _ _ hP (r2 R h1 h2).1) (r2 R h1 h2).2,hM⟩
      ·replace hl := Bool.eq_false_iff.2 hl
       simp [hl,e0,e1,e2,e11]
       refine FN.mono (Suint64.peq_c hD (a := a') (b := b') (pivot := p) hp1 hp2 (by omega) (by omega)) ?_
       rintro _ w6 ⟨rfl,hD,hM6⟩
       replace hM := hM.trans hM6
       obtain ⟨mid,hmid⟩ : ∃ mid,mid = (Sort.partitionEqual Sort.ltInt d3 a' b' p).1 := ⟨_,rfl⟩
       obtain ⟨d4,hd4⟩ : ∃ d4,d4 = (Sort.partitionEqual Sort.ltInt d3 a' b' p).2 := ⟨_,rfl⟩
       obtain ⟨q1,q2,q3,q4,q5⟩ := Sort.round_eq Sort.swo_ltInt (Sort.partitionEqual_holds _) (d3 := d3) (d4 := d4) (mid := mid) ha0 hp1 hp2 (by omega) hB3 hl (by rw [hmid,hd4])
       rw [← hd4] at hD
       rw [← hmid]
       simp [e0,e2,e3,e8,e9]
       exact ⟨b' - mid,by omega,mid,b',rfl,by omega,by omega,by omega,rfl,rfl,d4,hD,by omega,q4,fun R h1 h2 => hC R (Sort.permIn_trans _ _ _ _ _ hP (q5 R h1 h2).1) (q5 R h1 h2).2,hM⟩
     ·simp [e0,e1,e2,e11,ha0]
      refine FN.mono (Suint64.part_c hD (a := a') (b := b') (pivot := p) hp1 hp2 (by omega) (by omega)) ?_
      rintro _ w6 ⟨⟨fl,rfl⟩,hD,hM6⟩
      replace hM := hM.trans hM6
      obtain ⟨mid,hmid⟩ : ∃ mid,mid = (Sort.partition Sort.ltInt d3 a' b' p).1 := ⟨_,rfl⟩
      obtain ⟨d4,hd4⟩ : ∃ d4,d4 = (Sort.partition Sort.ltInt d3 a' b' p).2.2 := ⟨_,rfl⟩
      obtain ⟨q1,q2,q3,q4,q5,q6,q7⟩ := Sort.round_part Sort.swo_ltInt (Sort.partition_holds _) (d3 := d3) (d4 := d4) (mid := mid) (ap := (Sort.partition Sort.ltInt d3 a' b' p).2.1) hp1 hp2 (by omega) hB3 (by rw [hmid,hd4])
      rw [← hd4] at hD
      rw [← hmid]
      have wl_ : IntKind.i64.wrap ((mid : Int) - (a' : Int)) = ((mid - a' : Nat) : Int) := wnat _ _ (by omega) (by omega)
      have wr_ : IntKind.i64.wrap ((b' : Int) - (mid : Int)) = ((b' - mid : Nat) : Int) := wnat _ _ (by omega) (by omega)
      have wm_ : IntKind.i64.wrap ((mid : Int) + 1) = ((mid + 1 : Nat) : Int) := wnat _ _ (by omega) (by omega)
      simp [e1,e2,e10,wl_,wr_]
      by_cases hlr : mid - a' < b' - mid
      ·simp [hlr,e0,e1,e3]
       refine FN.mono (ih a' mid d4 w6 z (by omega) q1 (by omega) (by omega) hD q4) ?_
       rintro _ w7 ⟨⟨u,rfl⟩,L,hL1,hL2,hD,hM7⟩
       replace hM := hM.trans hM7
       obtain ⟨r1,r2⟩ := q6 L hL1 hL2
       have hLz := hL1.1
       simp [e0,e2,e3]
       rw [wm_]
       exact ⟨b' - (mid + 1),by omega,mid + 1,b',rfl,by omega,by omega,by omega,rfl,rfl,by omega,L,hD,by omega,r1,fun R h1 h2 => hC R (Sort.permIn_trans _ _ _ _ _ hP (r2 R h1 h2).1) (r2 R h1 h2).2,hM⟩
      ·simp [hlr,e0,e2,e3]
       rw [wm_]
       refine FN.mono (ih (mid + 1) b' d4 w6 z (by omega) (by omega) (by omega) (by omega) hD q5) ?_
       rintro _ w7 ⟨⟨u,rfl⟩,L,hL1,hL2,hD,hM7⟩
       replace hM := hM.trans hM7
       obtain ⟨r1,r2⟩ := q7 L hL1 hL2
       have hLz := hL1.1
       simp [e0,e1,e3]
       exact ⟨mid - a',by omega,a',mid,rfl,by omega,by omega,by omega,rfl,rfl,by omega,L,hD,by omega,r1,fun R h1 h2 => hC R (Sort.permIn_trans _ _ _ _ _ hP (r2 R h1 h2).1) (r2 R h1 h2).2,hM⟩
theorem Suint64.sort_c {w : World} {v : Value} {d : Array Int} (hA : Suint64.A w v d) (hn : d.size ≤ 255) :
  FN Tryz.prog 175 [v] w fun e w' => (∃ u,e = .returned u) ∧ ∃ d',Sort.PermIn 0 d.size d d' ∧ Sort.SortedIn Sort.ltInt 0 d.size d' ∧ Suint64.A w' v d' ∧ Mod (Sv v) w w' := by
 refine FN_enter Tryz.func175 rfl rfl (by kernel_rfl) ?_
 simp [hA.isLen]
 rw [wrap64u _ (by omega) (by omega)]
 refine FN.mono (Suint64.blen_c d.size hn w) ?_
 rintro _ w1 ⟨⟨k,rfl,-⟩,hw⟩
 subst hw
 simp
 refine FN.mono (Suint64.pdq_c (d.size + 1) 0 d.size d w1 k (by omega) (by omega) (Nat.le_refl _) hn hA (.inl rfl)) ?_
 rintro _ w2 ⟨⟨u,rfl⟩,d',h1,h2,h3,h4⟩
 simp
 exact ⟨d',h1,h2,h3,h4⟩
theorem Suint64.sorts {w : World} {v : Value} {xs : List Int} (h : Sl w 1 v xs.length (xs.map (Value.int .u64))) (hf : ∀ j, j < xs.length → w.frozen? ⟨slB v, slO v + j, none⟩ = false) (hb : xs.length ≤ 255) :
  FN Tryz.prog 175 [v] w fun e w' => (∃ u,e = .returned u) ∧ ∃ ys : List Int,ys.Perm xs ∧ ys.Pairwise (· ≤ ·) ∧ Sl w' 1 v ys.length (ys.map (Value.int .u64)) ∧ Mod (Sv v) w w' := by
 have hA : Suint64.A w v xs.toArray := by
  refine ⟨?_, fun j hj => ?_, fun j hj => hf j (by simpa using hj)⟩
  ·rcases h.blk with ⟨h1, h2⟩ | ⟨b, o, c, rfl, hc⟩
   ·obtain ⟨a,c,rfl⟩ := h.isSlice
    cases a with
    | none => exact .inl ⟨c,by rw [h2],by simpa using h2⟩
    | some a => cases h1
   ·exact .inr ⟨b,o,c,by simp⟩
  ·have hj' : j < xs.length := by simpa using hj
   have := h.at_ j (Value.int .u64 xs[j]) (by simp [hj'])
   rw [this]
   simp [at_,hj']
 refine FN.mono (Suint64.sort_c hA (by simpa using hb)) ?_
 rintro _ w' ⟨hu,d',h1,h2,h3,h4⟩
 have hz : d'.size = xs.length := by simpa using h1.1
 refine ⟨hu, d'.toList, ?_, ?_, ?_, h4⟩
 ·have hq := h1.2.2
  have e1 : d'.extract 0 xs.toArray.size = d' := by rw [List.size_toArray,← hz]; simp
  have e2 : xs.toArray.extract 0 xs.toArray.size = xs.toArray := by simp
  rw [e1,e2] at hq
  exact hq
 ·rw [List.pairwise_iff_getElem]
  intro i j hi hj hij
  have := h2 i j (Nat.zero_le _) hij (by simpa [hz] using hj)
  have hi' : i < d'.size := by simpa using hi
  have hj' : j < d'.size := by simpa using hj
  simp only [Sort.ltInt,decide_eq_false_iff_not,getElem!_pos d' i hi',getElem!_pos d' j hj'] at this
  simpa using this
 ·refine ⟨by simp, ?_, fun j u hj => ?_⟩
  ·have hv := h3.val
   rcases hv with ⟨c, rfl, h0⟩ | ⟨b, o, c, rfl⟩
   ·exact .inl ⟨c,rfl,by simpa using h0⟩
   ·rcases h.blk with ⟨h1, -⟩ | ⟨b', o', c', h1, hc⟩
    ·cases h1
    ·simp only [Value.slice.injEq] at h1
     exact .inr ⟨b,o,c,by simp,by rw [Array.length_toList,hz,h1.2.2]; exact hc⟩
  ·have hj' : j < d'.size := by have := (List.getElem?_eq_some_iff.1 hj).1; simpa using this
   have := h3.cell j hj'
   rw [this]
   simp [hj'] at hj
   rw [← hj]
   simp [at_,getElem!_pos d' j hj']
end Go.Proofs