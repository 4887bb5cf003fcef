/-
 Contracts of the functions that the law reaches,step by step.
-/
import Derived.Test.YtdflcfoalhhjlaaGreatAmO
import Derived.Test.YtdflcfoalhhjlaaGreatEngJ
namespace Go.Proofs
open Pk
set_option maxRecDepth 10000
theorem Suint64.nan_c (x : Int) (w : World) : FN Tryz.prog 105 [.int .u64 x] w fun e w' => e = .returned (.bool false) ∧ w' = w := by
 refine FN_enter Tryz.func105 rfl rfl (by kernel_rfl) ?_
 simp
theorem Suint64.less_c (x y : Int) (w : World) : FN Tryz.prog 190 [.int .u64 x, .int .u64 y] w fun e w' => e = .returned (.bool (Sort.ltInt x y)) ∧ w' = w := by
 refine FN_enter Tryz.func190 rfl rfl (by kernel_rfl) ?_
 simp
 refine FN.mono (Suint64.nan_c x w) ?_
 rintro _ _ ⟨rfl,rfl⟩
 simp [Sort.ltInt]
abbrev Suint64.A (w : World) (v : Value) (d : Array Int) := Arr .u64 w v d
theorem Suint64.ix {w : World} {v : Value} {d : Array Int} (h : Suint64.A w v d) (j : Nat) (hj : j < d.size) (W : World) : (Instr.indexAt 180 v (.int .i64 (j : Int))).run Tryz.prog W = .ok (.pointer (some ⟨slB v, slO v + j, none⟩)) W :=
 h.index (by simp) (fun W => by simp) j hj W
theorem Suint64.ins_c {w : World} {v : Value} {d : Array Int} {a b : Nat} (hA : Suint64.A w v d) (hb : b ≤ d.size) (ha : a ≤ 1048576) (hn : d.size ≤ 1048576) :
  FN Tryz.prog 184 [v,.int .i64 a,.int .i64 b] w fun e w' => (∃ u,e = .returned u) ∧ Suint64.A w' v (Sort.insertionSort Sort.ltInt d a b) ∧ Mod (Sv v) w w' := by
 refine FN_enter Tryz.func184 rfl rfl (by kernel_rfl) ?_
 simp
 rw [wnat _ (a + 1) (by omega) (by omega)]
 refine WC_loop (fun k ρ ds w' => ∃ (i : Nat) (dk : Array Int), k = b - i ∧ a + 1 ≤ i ∧ ρ 0 = v ∧ ρ 1 = .int .i64 a ∧ ρ 2 = .int .i64 b ∧ ρ 6 = .int .i64 i ∧ ds = [] ∧ Suint64.A w' v dk ∧ dk.size = d.size ∧
  Sort.insOuter Sort.ltInt a b i dk = Sort.insertionSort Sort.ltInt d a b ∧ Mod (Sv v) w w') (b - (a + 1)) ⟨a + 1,d,?_⟩ ?_
 ·simp
  exact ⟨hA,rfl,Mod.refl _ _⟩
 ·rintro k ρ ds w1 ⟨i,dk,rfl,hi,e0,e1,e2,e6,rfl,hD,hz,hI,hM⟩
  by_cases hlt : i < b
  ·simp [e2,e6,hlt]
   have hI0 := hI
   rw [Sort.insOuter,if_pos hlt] at hI
   refine WC_loop (fun k ρ ds w' => ∃ (j : Nat) (dj : Array Int), k = j ∧ j ≤ i ∧ ρ 0 = v ∧ ρ 1 = .int .i64 a ∧ ρ 2 = .int .i64 b ∧ ρ 6 = .int .i64 i ∧ ρ 7 = .int .i64 j ∧ ds = [] ∧ Suint64.A w' v dj ∧ dj.size = d.size ∧
    Sort.insInner Sort.ltInt a j dj = Sort.insInner Sort.ltInt a i dk ∧ Mod (Sv v) w w') i ⟨i,dk,?_⟩ ?_
   ·simp [e0,e1,e2,e6]
    exact ⟨hD,hz,hM⟩
   ·rintro k ρ ds w2 ⟨j,dj,rfl,hj,e0,e1,e2,e6,e7,rfl,hD,hz,hJ,hM⟩
    simp
    refine WC_drQ 13 rfl (by kernel_rfl) fun W hW => ?_
    replace hD := hD.dr hW
    replace hM := hM.dr hW
    have fin : Sort.insInner Sort.ltInt a k dj = dj → ∃ m', m' < b - i ∧ ∃ i' : Nat, m' = b - i' ∧ a + 1 ≤ i' ∧ IntKind.i64.wrap ((i : Int) + 1) = i' ∧ ∃ dk', Suint64.A W v dk' ∧ dk'.size = d.size ∧
      Sort.insOuter Sort.ltInt a b i' dk' = Sort.insertionSort Sort.ltInt d a b ∧ Mod (Sv v) w W := by
     intro hs
     exact ⟨b - (i + 1),by omega,i + 1,rfl,by omega,wnat _ _ (by omega) (by omega),dj,hD,hz,by rw [← hI,← hJ,hs],hM⟩
    by_cases hja : a < k
    ·obtain ⟨p,hp⟩ : ∃ p,k = p + 1 := ⟨k - 1,by omega⟩
     have ew : IntKind.i64.wrap ((k : Int) - 1) = (p : Int) := wnat _ _ (by omega) (by omega)
     have i1 := Suint64.ix hD k (by omega)
     have i2 := Suint64.ix hD p (by omega)
     obtain ⟨c1,c2,f1,c3,f2⟩ := hD.facts k p (by omega) (by omega)
     have hst : Sort.insInner Sort.ltInt a k dj = if Sort.ltInt (at_ dj k) (at_ dj p) then Sort.insInner Sort.ltInt a p (Sort.swp dj k p) else dj := by
      subst hp
      rw [Sort.insInner]
      have : decide (p + 1 > a) = true := by simp; omega
      rw [this,Bool.true_and]; rfl
     simp [e0,e1,e7,hja,i1,i2,ew,c1,c2]
     refine FN.mono (Suint64.less_c (at_ dj k) (at_ dj p) W) ?_
     rintro _ _ ⟨rfl,rfl⟩
     simp
     by_cases hl : Sort.ltInt (at_ dj k) (at_ dj p) = true
     ·rw [hst,if_pos hl] at hJ
      simp [hl]
      refine WC_drS 15 rfl (by kernel_rfl) fun W' hW' => ?_
      replace hD := hD.dr hW'
      replace hM := hM.dr hW'
      obtain ⟨c1,c2,f1,c3,f2⟩ := hD.facts k p (by omega) (by omega)
      simp [e0,e7,i1,i2,ew,c1,c2,f1,c3,f2]
      exact ⟨p,by omega,by omega,e1,e2,e6,rfl,_,hD.swap (by omega) (by omega),by rw [Sort.size_swp]; exact hz,hJ,hD.mswap hM (by omega) _ _⟩
     ·rw [hst,if_neg hl] at fin
      simp [hl,e0,e1,e2,e6]
      exact fin rfl
    ·have hst : Sort.insInner Sort.ltInt a k dj = dj := by
      cases k with
      | zero => rfl
      | succ p =>
       rw [Sort.insInner]
       have : decide (p + 1 > a) = false := by simp; omega
       rw [this]; rfl
     simp [e0,e1,e2,e6,e7,hja]
     exact fin hst
  ·simp [e2,e6,hlt]
   rw [Sort.insOuter,if_neg hlt] at hI
   subst hI
   exact ⟨hD,hM⟩
end Go.Proofs
namespace Go.Proofs
open Pk
set_option maxRecDepth 10000
theorem Suint64.sift_c {w : World} {v : Value} {d : Array Int} {lo hi first : Nat} (hA : Suint64.A w v d) (hlo : lo ≤ hi) (hb : first + hi ≤ d.size) (hn : d.size ≤ 1048576) :
  FN Tryz.prog 195 [v,.int .i64 lo,.int .i64 hi,.int .i64 first] w fun e w' => (∃ u,e = .returned u) ∧ Suint64.A w' v (Sort.siftDown Sort.ltInt hi first lo d) ∧ Mod (Sv v) w w' := by
 refine FN_enter Tryz.func195 rfl rfl (by kernel_rfl) ?_
 simp
 refine WC_loop (fun k ρ ds w' => ∃ (r : Nat) (dk : Array Int), k = hi - r ∧ r ≤ hi ∧ ρ 0 = v ∧ ρ 2 = .int .i64 hi ∧ ρ 3 = .int .i64 first ∧ ρ 8 = .int .i64 r ∧ ds = [] ∧ Suint64.A w' v dk ∧ dk.size = d.size ∧
  Sort.siftDown Sort.ltInt hi first r dk = Sort.siftDown Sort.ltInt hi first lo d ∧ Mod (Sv v) w w') (hi - lo) ⟨lo,d,?_⟩ ?_
 ·simp
  exact ⟨hlo,hA,Mod.refl _ _⟩
 ·rintro k ρ ds w1 ⟨r,dk,rfl,hr,e0,e2,e3,e8,rfl,hD,hz,hI,hM⟩
  obtain ⟨r2,hr2⟩ : ∃ r2,r2 = 2 * r := ⟨_,rfl⟩
  obtain ⟨c,hc⟩ : ∃ c,c = r2 + 1 := ⟨_,rfl⟩
  obtain ⟨c1,hc1⟩ : ∃ c1,c1 = c + 1 := ⟨_,rfl⟩
  have w1_ : IntKind.i64.wrap (2 * (r : Int)) = (r2 : Int) := wnat _ _ (by omega) (by omega)
  have w2_ : IntKind.i64.wrap ((r2 : Int) + 1) = (c : Int) := wnat _ _ (by omega) (by omega)
  have w3_ : IntKind.i64.wrap ((c : Int) + 1) = (c1 : Int) := wnat _ _ (by omega) (by omega)
  by_cases hlt : hi ≤ c
  ·simp [e2,e8,w1_,w2_,hlt]
   rw [sift_stop _ (by omega)] at hI
   rw [← hI]; exact ⟨hD,hM⟩
  ·simp [e2,e8,w1_,w2_,hlt]
   obtain ⟨fc,hfc⟩ : ∃ fc,fc = first + c := ⟨_,rfl⟩
   obtain ⟨fc1,hfc1⟩ : ∃ fc1,fc1 = fc + 1 := ⟨_,rfl⟩
   obtain ⟨fr,hfr⟩ : ∃ fr,fr = first + r := ⟨_,rfl⟩
   have w4_ : IntKind.i64.wrap ((first : Int) + (c : Int)) = (fc : Int) := wnat _ _ (by omega) (by omega)
   have w5_ : IntKind.i64.wrap ((fc : Int) + 1) = (fc1 : Int) := wnat _ _ (by omega) (by omega)
   have w6_ : IntKind.i64.wrap ((first : Int) + (r : Int)) = (fr : Int) := wnat _ _ (by omega) (by omega)
   have w7_ : IntKind.i64.wrap ((first : Int) + (c1 : Int)) = (fc1 : Int) := wnat _ _ (by omega) (by omega)
   have ir := Suint64.ix hD fr (by omega)
   have ic := Suint64.ix hD fc (by omega)
   obtain ⟨cr,cc,-⟩ := hD.facts fr fc (by omega) (by omega)
   refine WC_drQ 18 rfl (by kernel_rfl) fun W hW => ?_
   replace hD := hD.dr hW
   replace hM := hM.dr hW
   have tailOk : ∀ x : Nat, x < hi → x = (if (decide (2 * r + 2 < hi) && Sort.ltInt (at_ dk (first + (2 * r + 1))) (at_ dk (first + (2 * r + 2)))) = true then 2 * r + 2 else 2 * r + 1) →
    Sort.siftDown Sort.ltInt hi first lo d = if Sort.ltInt (at_ dk fr) (at_ dk (first + x)) = true then Sort.siftDown Sort.ltInt hi first x (Sort.swp dk fr (first + x)) else dk := by
    intro x hx h
    rw [← hI,sift_go _ hx h,hfr]
   by_cases hlt1 : c1 < hi
   ·have ic1 := Suint64.ix hD fc1 (by omega)
    obtain ⟨cc,cc1,-⟩ := hD.facts fc fc1 (by omega) (by omega)
    have hcond : (decide (2 * r + 2 < hi) && Sort.ltInt (at_ dk (first + (2 * r + 1))) (at_ dk (first + (2 * r + 2)))) = Sort.ltInt (at_ dk fc) (at_ dk fc1) := by
     have e1 : decide (2 * r + 2 < hi) = true := by simp; omega
     rw [e1,Bool.true_and]; congr 2 <;> omega
    simp [e0,e2,e3,w3_,w4_,w5_,hlt1,ic,ic1,cc,cc1]
    refine FN.mono (Suint64.less_c (at_ dk fc) (at_ dk fc1) W) ?_
    rintro _ _ ⟨rfl,rfl⟩
    simp
    by_cases hl : Sort.ltInt (at_ dk fc) (at_ dk fc1) = true
    ·obtain ⟨x,hx,hx1,hx2⟩ : ∃ x,x = c1 ∧ x < hi ∧ (x = if (decide (2 * r + 2 < hi) && Sort.ltInt (at_ dk (first + (2 * r + 1))) (at_ dk (first + (2 * r + 2)))) = true then 2 * r + 2 else 2 * r + 1) := ⟨c1,rfl,hlt1,by rw [hcond,if_pos hl]; omega⟩
     simp [hl,w3_]
     refine WC_gen (fun σ => σ 0 = v ∧ σ 2 = .int .i64 hi ∧ σ 3 = .int .i64 first ∧ σ 8 = .int .i64 r ∧ σ 9 = .int .i64 x) (by simp [e0,e2,e3,e8,hx]) fun σ ⟨e0,e2,e3,e8,e9⟩ => ?_
     obtain ⟨fx,hfx⟩ : ∃ fx,fx = first + x := ⟨_,rfl⟩
     have w8_ : IntKind.i64.wrap ((first : Int) + (x : Int)) = (fx : Int) := wnat _ _ (by omega) (by omega)
     have ix := Suint64.ix hD fx (by omega)
     refine WC_drQ 12 rfl (by kernel_rfl) fun W' hW' => ?_
     replace hD := hD.dr hW'
     replace hM := hM.dr hW'
     obtain ⟨c1_,c2_,-⟩ := hD.facts fr fx (by omega) (by omega)
     have hgo := tailOk x hx1 hx2
     rw [← hfx] at hgo
     simp [e0,e3,e8,e9,w6_,w8_,ir,ix,c1_,c2_]
     refine FN.mono (Suint64.less_c (at_ dk fr) (at_ dk fx) W') ?_
     rintro _ _ ⟨rfl,rfl⟩
     simp
     by_cases hl2 : Sort.ltInt (at_ dk fr) (at_ dk fx) = true
     ·simp [hl2]
      rw [if_pos hl2] at hgo
      refine WC_drS 21 rfl (by kernel_rfl) fun W2 hW2 => ?_
      replace hD := hD.dr hW2
      replace hM := hM.dr hW2
      obtain ⟨c1_,c2_,f1_,c3_,f2_⟩ := hD.facts fr fx (by omega) (by omega)
      simp [e0,e3,e8,e9,w6_,w8_,ir,ix,c1_,c2_,f1_,c3_,f2_]
      exact ⟨hi - x,by omega,x,rfl,by omega,e2,rfl,_,hD.swap (by omega) (by omega),by rw [size_swp]; exact hz,hgo.symm,hD.mswap hM (by omega) _ _⟩
     ·simp [hl2]
      rw [if_neg hl2] at hgo
      rw [hgo]
      exact ⟨hD,hM⟩
    ·obtain ⟨x,hx,hx1,hx2⟩ : ∃ x,x = c ∧ x < hi ∧ (x = if (decide (2 * r + 2 < hi) && Sort.ltInt (at_ dk (first + (2 * r + 1))) (at_ dk (first + (2 * r + 2)))) = true then 2 * r + 2 else 2 * r + 1) := ⟨c,rfl,by omega,by rw [hcond,if_neg hl]; omega⟩
     simp [hl]
     refine WC_gen (fun σ => σ 0 = v ∧ σ 2 = .int .i64 hi ∧ σ 3 = .int .i64 first ∧ σ 8 = .int .i64 r ∧ σ 9 = .int .i64 x) (by simp [e0,e2,e3,e8,hx]) fun σ ⟨e0,e2,e3,e8,e9⟩ => ?_
     obtain ⟨fx,hfx⟩ : ∃ fx,fx = first + x := ⟨_,rfl⟩
     have w8_ : IntKind.i64.wrap ((first : Int) + (x : Int)) = (fx : Int) := wnat _ _ (by omega) (by omega)
     have ix := Suint64.ix hD fx (by omega)
     refine WC_drQ 12 rfl (by kernel_rfl) fun W' hW' => ?_
     replace hD := hD.dr hW'
     replace hM := hM.dr hW'
     obtain ⟨c1_,c2_,-⟩ := hD.facts fr fx (by omega) (by omega)
     have hgo := tailOk x hx1 hx2
     rw [← hfx] at hgo
     simp [e0,e3,e8,e9,w6_,w8_,ir,ix,c1_,c2_]
     refine FN.mono (Suint64.less_c (at_ dk fr) (at_ dk fx) W') ?_
     rintro _ _ ⟨rfl,rfl⟩
     simp
     by_cases hl2 : Sort.ltInt (at_ dk fr) (at_ dk fx) = true
     ·simp [hl2]
      rw [if_pos hl2] at hgo
      refine WC_drS 21 rfl (by kernel_rfl) fun W2 hW2 => ?_
      replace hD := hD.dr hW2
      replace hM := hM.dr hW2
      obtain ⟨c1_,c2_,f1_,c3_,f2_⟩ := hD.facts fr fx (by omega) (by omega)
      simp [e0,e3,e8,e9,w6_,w8_,ir,ix,c1_,c2_,f1_,c3_,f2_]
      exact ⟨hi - x,by omega,x,rfl,by omega,e2,rfl,_,hD.swap (by omega) (by omega),by rw [size_swp]; exact hz,hgo.symm,hD.mswap hM (by omega) _ _⟩
     ·simp [hl2]
      rw [if_neg hl2] at hgo
      rw [hgo]
      exact ⟨hD,hM⟩
   ·have hcond : (decide (2 * r + 2 < hi) && Sort.ltInt (at_ dk (first + (2 * r + 1))) (at_ dk (first + (2 * r + 2)))) = false := by
     have e1 : decide (2 * r + 2 < hi) = false := by simp; omega
     rw [e1,Bool.false_and]
    obtain ⟨x,hx,hx1,hx2⟩ : ∃ x,x = c ∧ x < hi ∧ (x = if (decide (2 * r + 2 < hi) && Sort.ltInt (at_ dk (first + (2 * r + 1))) (at_ dk (first + (2 * r + 2)))) = true then 2 * r + 2 else 2 * r + 1) := ⟨c,rfl,by omega,by rw [hcond]; simp; omega⟩
    simp [e2,w3_,hlt1]
    refine WC_gen (fun σ => σ 0 = v ∧ σ 2 = .int .i64 hi ∧ σ 3 = .int .i64 first ∧ σ 8 = .int .i64 r ∧ σ 9 = .int .i64 x) (by simp [e0,e2,e3,e8,hx]) fun σ ⟨e0,e2,e3,e8,e9⟩ => ?_
    obtain ⟨fx,hfx⟩ : ∃ fx,fx = first + x := ⟨_,rfl⟩
    have w8_ : IntKind.i64.wrap ((first : Int) + (x : Int)) = (fx : Int) := wnat _ _ (by omega) (by omega)
    have ix := Suint64.ix hD fx (by omega)
    refine WC_drQ 12 rfl (by kernel_rfl) fun W' hW' => ?_
    replace hD := hD.dr hW'
    replace hM := hM.dr hW'
    obtain ⟨c1_,c2_,-⟩ := hD.facts fr fx (by omega) (by omega)
    have hgo := tailOk x hx1 hx2
    rw [← hfx] at hgo
    simp [e0,e3,e8,e9,w6_,w8_,ir,ix,c1_,c2_]
    refine FN.mono (Suint64.less_c (at_ dk fr) (at_ dk fx) W') ?_
    rintro _ _ ⟨rfl,rfl⟩
    simp
    by_cases hl2 : Sort.ltInt (at_ dk fr) (at_ dk fx) = true
    ·simp [hl2]
     rw [if_pos hl2] at hgo
     refine WC_drS 21 rfl (by kernel_rfl) fun W2 hW2 => ?_
     replace hD := hD.dr hW2
     replace hM := hM.dr hW2
     obtain ⟨c1_,c2_,f1_,c3_,f2_⟩ := hD.facts fr fx (by omega) (by omega)
     simp [e0,e3,e8,e9,w6_,w8_,ir,ix,c1_,c2_,f1_,c3_,f2_]
     exact ⟨hi - x,by omega,x,rfl,by omega,e2,rfl,_,hD.swap (by omega) (by omega),by rw [size_swp]; exact hz,hgo.symm,hD.mswap hM (by omega) _ _⟩
    ·simp [hl2]
     rw [if_neg hl2] at hgo
     rw [hgo]
     exact ⟨hD,hM⟩
end Go.Proofs
namespace Go.Proofs
open Pk
set_option maxRecDepth 10000
theorem Suint64.heap_c {w : World} {v : Value} {d : Array Int} {a b : Nat} (hA : Suint64.A w v d) (hab : a ≤ b) (hb : b ≤ d.size) (hn : d.size ≤ 1048576) :
  FN Tryz.prog 185 [v,.int .i64 a,.int .i64 b] w fun e w' => (∃ u,e = .returned u) ∧ Suint64.A w' v (Sort.heapSort Sort.ltInt d a b) ∧ Mod (Sv v) w w' := by
 refine FN_enter Tryz.func185 rfl rfl (by kernel_rfl) ?_
 obtain ⟨hi,hhi⟩ : ∃ hi,hi = b - a := ⟨_,rfl⟩
 have w1_ : IntKind.i64.wrap ((b : Int) - (a : Int)) = (hi : Int) := wnat _ _ (by omega) (by omega)
 have w2_ : IntKind.i64.wrap ((hi : Int) - 1) = (hi : Int) - 1 := wrap64 _ (by omega) (by omega)
 obtain ⟨m,hm⟩ : ∃ m : Nat,m = (hi - 1) / 2 := ⟨_,rfl⟩
 have w3_ : IntKind.i64.wrap (((hi : Int) - 1).tdiv 2) = (m : Int) := by
  have : ((hi : Int) - 1).tdiv 2 = (m : Int) := by
   rcases Nat.eq_zero_or_pos hi with h0 | h0
   ·subst h0; subst hm; decide
   ·rw [Int.tdiv_eq_ediv_of_nonneg (by omega)]; omega
  rw [this]; exact wrap64 _ (by omega) (by omega)
 simp [w1_,w2_,w3_]
 refine WC_loop (fun k ρ ds w' => ∃ (z : Int) (dk : Array Int), z = (k : Int) - 1 ∧ k ≤ m + 1 ∧ ρ 0 = v ∧ ρ 6 = .int .i64 a ∧ ρ 7 = .int .i64 0 ∧ ρ 8 = .int .i64 hi ∧ ρ 9 = .int .i64 z ∧ ds = [] ∧ Suint64.A w' v dk ∧ dk.size = d.size ∧
  Sort.heapBuild Sort.ltInt hi a k dk = Sort.heapBuild Sort.ltInt hi a (m + 1) d ∧ Mod (Sv v) w w') (m + 1) ⟨m,d,?_⟩ ?_
 ·simp
  exact ⟨hA,Mod.refl _ _⟩
 ·rintro k ρ ds w1 ⟨z,dk,hz9,hk,e0,e6,e7,e8,e9,rfl,hD,hz,hI,hM⟩
  cases k with
  | succ p =>
   have : z = (p : Int) := by omega
   subst this
   have w4_ : IntKind.i64.wrap ((p : Int) - 1) = (p : Int) - 1 := wrap64 _ (by omega) (by omega)
   simp [e0,e6,e8,e9]
   refine FN.mono (Suint64.sift_c hD (lo := p) (hi := hi) (first := a) (by omega) (by omega) (by omega)) ?_
   rintro _ w2 ⟨⟨u,rfl⟩,hD2,hM2⟩
   simp [e0,e6,e7,e8,e9,w4_]
   exact ⟨p,by omega,by omega,rfl,_,hD2,by rw [hD2.sizeq hD,hz],hI,hM.trans hM2⟩
  | zero =>
   have : z = -1 := by omega
   subst this
   simp [e9,e8,w2_]
   refine WC_loop (fun k ρ ds w' => ∃ (z : Int) (dk : Array Int), z = (k : Int) - 1 ∧ k ≤ hi ∧ ρ 0 = v ∧ ρ 6 = .int .i64 a ∧ ρ 7 = .int .i64 0 ∧ ρ 10 = .int .i64 z ∧ ds = [] ∧ Suint64.A w' v dk ∧ dk.size = d.size ∧
    Sort.heapPop Sort.ltInt a k dk = Sort.heapSort Sort.ltInt d a b ∧ Mod (Sv v) w w') hi ⟨(hi : Int) - 1,dk,?_⟩ ?_
   ·simp [e0,e6,e7]
    refine ⟨hD,hz,?_,hM⟩
    unfold Sort.heapSort
    rw [← hhi,← hm,← hI]; rfl
   ·rintro k ρ ds w1 ⟨z,dk,hz9,hk,e0,e6,e7,e10,rfl,hD,hz,hI,hM⟩
    cases k with
    | succ p =>
     have : z = (p : Int) := by omega
     subst this
     obtain ⟨ap,hap⟩ : ∃ ap,ap = a + p := ⟨_,rfl⟩
     have w5_ : IntKind.i64.wrap ((p : Int) - 1) = (p : Int) - 1 := wrap64 _ (by omega) (by omega)
     have w6_ : IntKind.i64.wrap ((a : Int) + (p : Int)) = (ap : Int) := wnat _ _ (by omega) (by omega)
     have i1 := Suint64.ix hD a (by omega)
     have i2 := Suint64.ix hD ap (by omega)
     simp [e10]
     refine WC_drS 17 rfl (by kernel_rfl) fun W hW => ?_
     replace hD := hD.dr hW
     replace hM := hM.dr hW
     obtain ⟨c1,c2,f1,c3,f2⟩ := hD.facts a ap (by omega) (by omega)
     simp [e0,e6,e7,e10,w6_,i1,i2,c1,c2,f1,c3,f2]
     have hD' := hD.swap (i := a) (j := ap) (by omega) (by omega)
     have hM' := hD.mswap (j := ap) hM (i := a) (by omega) (.int .u64 (at_ dk ap)) (.int .u64 (at_ dk a))
     refine FN.mono (Suint64.sift_c hD' (lo := 0) (hi := p) (first := a) (by omega) (by rw [size_swp]; omega) (by rw [size_swp]; omega)) ?_
     rintro _ w2 ⟨⟨u,rfl⟩,hD2,hM2⟩
     simp [e0,e6,e7,e10,w5_]
     exact ⟨p,by omega,by omega,rfl,_,hD2,by rw [hD2.sizeq hD',size_swp,hz],by rw [← hI,Sort.heapPop,← hap],hM'.trans hM2⟩
    | zero =>
     have : z = -1 := by omega
     subst this
     simp [e10]
     unfold Sort.heapPop at hI
     rw [← hI]; exact ⟨hD,hM⟩
theorem Suint64.rev_c {w : World} {v : Value} {d : Array Int} {a b : Nat} (hA : Suint64.A w v d) (hab : a < b) (hb : b ≤ d.size) (hn : d.size ≤ 1048576) :
  FN Tryz.prog 188 [v,.int .i64 a,.int .i64 b] w fun e w' => (∃ u,e = .returned u) ∧ ∃ d',Sort.PermIn a b d d' ∧ Suint64.A w' v d' ∧ Mod (Sv v) w w' := by
 refine FN_enter Tryz.func188 rfl rfl (by kernel_rfl) ?_
 obtain ⟨l,hl⟩ : ∃ l,l = b - 1 := ⟨_,rfl⟩
 have w1_ : IntKind.i64.wrap ((b : Int) - 1) = (l : Int) := wnat _ _ (by omega) (by omega)
 simp [w1_]
 refine WC_loop (fun k ρ ds w' => ∃ (i j : Nat) (dk : Array Int), k = j - i ∧ a ≤ i ∧ i ≤ j + 1 ∧ j < b ∧ ρ 0 = v ∧ ρ 6 = .int .i64 i ∧ ρ 7 = .int .i64 j ∧ ds = [] ∧ Suint64.A w' v dk ∧ Sort.PermIn a b d dk ∧ Mod (Sv v) w w') (l - a) ⟨a, l, d, ?_⟩ ?_
 ·simp
  exact ⟨by omega,by omega,hA,Sort.permIn_refl _ _ _,Mod.refl _ _⟩
 ·rintro k ρ ds w1 ⟨i,j,dk,rfl,h1,h2,h3,e0,e6,e7,rfl,hD,hP,hM⟩
  have hz := hP.1
  by_cases hlt : i < j
  ·have w2_ : IntKind.i64.wrap ((i : Int) + 1) = ((i + 1 : Nat) : Int) := wnat _ _ (by omega) (by omega)
   have w3_ : IntKind.i64.wrap ((j : Int) - 1) = ((j - 1 : Nat) : Int) := wnat _ _ (by omega) (by omega)
   have i1 := Suint64.ix hD i (by omega)
   have i2 := Suint64.ix hD j (by omega)
   simp [e6,e7,hlt]
   refine WC_drS 13 rfl (by kernel_rfl) fun W hW => ?_
   replace hD := hD.dr hW
   replace hM := hM.dr hW
   obtain ⟨c1,c2,f1,c3,f2⟩ := hD.facts i j (by omega) (by omega)
   simp [e0,e6,e7,i1,i2,c1,c2,f1,c3,f2]
   rw [w2_,w3_]
   exact ⟨j - 1 - (i + 1), by omega, i + 1, j - 1, rfl, by omega, by omega, by omega, rfl, rfl, _, hD.swap (by omega) (by omega),
    Sort.permIn_trans _ _ _ _ _ hP (Sort.swp_permIn _ _ _ _ _ (by omega) (by omega) (by omega) (by omega) (by omega)),hD.mswap hM (by omega) _ _⟩
  ·simp [e6,e7,hlt]
   exact ⟨dk,hP,hD,hM⟩
end Go.Proofs
namespace Go.Proofs
open Pk
set_option maxRecDepth 10000
theorem Suint64.len64_c (n : Nat) (h1 : n ≤ 255) (w : World) : FN Tryz.prog 194 [.int .u64 n] w fun e w' => (∃ k : Nat, e = .returned (.int .i64 k) ∧ n < 2 ^ k ∧ (n = 0 ∨ 2 ^ k ≤ 2 * n) ∧ k ≤ 8) ∧ w' = w := by
 refine FN_enter Tryz.func194 rfl rfl (by kernel_rfl) ?_
 have b1 : decide ((4294967296 : Int) ≤ n) = false := by simp; omega
 have b2 : decide ((65536 : Int) ≤ n) = false := by simp; omega
 have b3 : decide ((256 : Int) ≤ n) = false := by simp; omega
 simp [b1,b2,b3]
 rw [wrap8u _ (by omega) (by omega)]
 refine onRt_tab (by simp) (by omega) (by kernel_rfl) fun b hb0 hb1 hb2 => ?_
 have w1_ : IntKind.i64.wrap (b : Int) = (b : Int) := wnat _ _ rfl (by omega)
 simp [w1_]
 exact ⟨b,rfl,hb0,hb1,hb2⟩
theorem Suint64.blen_c (n : Nat) (h1 : n ≤ 255) (w : World) : FN Tryz.prog 183 [.int .u64 n] w fun e w' => (∃ k : Nat, e = .returned (.int .i64 k) ∧ n < 2 ^ k ∧ (n = 0 ∨ 2 ^ k ≤ 2 * n) ∧ k ≤ 8) ∧ w' = w := by
 refine FN_enter Tryz.func183 rfl rfl (by kernel_rfl) ?_
 simp
 refine FN.mono (Suint64.len64_c n h1 w) ?_
 rintro _ _ ⟨⟨k,rfl,hk⟩,rfl⟩
 simp
 exact ⟨k,rfl,hk⟩
theorem Suint64.npow_c (n : Nat) (h0 : 0 < n) (h1 : n ≤ 255) (w : World) : FN Tryz.prog 196 [.int .i64 n] w fun e w' => (∃ m : Nat, e = .returned (.int .u64 m) ∧ n < m ∧ m ≤ 2 * n) ∧ w' = w := by
 refine FN_enter Tryz.func196 rfl rfl (by kernel_rfl) ?_
 simp
 rw [wrap64u _ (by omega) (by omega)]
 refine FN.mono (Suint64.blen_c n h1 w) ?_
 rintro _ _ ⟨⟨k,rfl,h2,h3,h4⟩,rfl⟩
 have hk : (0 : Int) ≤ k := by omega
 simp [shlI_one (show k < 64 by omega)]
 exact ⟨2 ^ k,by simp,h2,by omega⟩
theorem Suint64.next_c {w : World} {s : Nat} {z : Int} (hV : Var w s (.int .u64 z)) : FN Tryz.prog 197 [.pointer (some ⟨s, 0, none⟩)] w fun e w' => (∃ x, e = .returned (.int .u64 x)) ∧ (∃ z', Var w' s (.int .u64 z')) ∧ Mod (· = s) w w' := by
 refine FN_enter Tryz.func197 rfl rfl (by kernel_rfl) ?_
 simp
 refine WC_drQ 8 rfl (by kernel_rfl) fun W hW => ?_
 replace hV : Var W s (.int .u64 z) := hV.ext (hW ▸ Ext.drew w)
 have hM : Mod (· = s) w W := hW ▸ (Ext.drew w).mod
 simp [hV.cell,hV.thaw]
 generalize xorI IntKind.u64 _ _ = z1
 obtain ⟨w1,hw1⟩ : ∃ w1,w1 = W.setCell ⟨s,0,none⟩ (.int .u64 z1) := ⟨_,rfl⟩
 rw [← hw1]
 have hV1 : Var w1 s (.int .u64 z1) := hw1 ▸ hV.set _
 have hM1 : Mod (· = s) w w1 := hw1 ▸ hM.setCell _ _ (.inl rfl)
 refine WC_drQ 8 rfl (by kernel_rfl) fun W2 hW2 => ?_
 replace hV1 : Var W2 s (.int .u64 z1) := hV1.ext (hW2 ▸ Ext.drew w1)
 replace hM1 : Mod (· = s) w W2 := hM1.dr hW2
 simp [hV1.cell,hV1.thaw]
 generalize xorI IntKind.u64 _ _ = z2
 obtain ⟨w3,hw3⟩ : ∃ w3,w3 = W2.setCell ⟨s,0,none⟩ (.int .u64 z2) := ⟨_,rfl⟩
 rw [← hw3]
 have hV2 : Var w3 s (.int .u64 z2) := hw3 ▸ hV1.set _
 have hM2 : Mod (· = s) w w3 := hw3 ▸ hM1.setCell _ _ (.inl rfl)
 refine WC_drQ 8 rfl (by kernel_rfl) fun W3 hW3 => ?_
 replace hV2 : Var W3 s (.int .u64 z2) := hV2.ext (hW3 ▸ Ext.drew w3)
 replace hM2 : Mod (· = s) w W3 := hM2.dr hW3
 simp [hV2.cell,hV2.thaw]
 generalize xorI IntKind.u64 _ _ = z3
 have hV3 := hV2.set (.int .u64 z3)
 simp [hV3.cell]
 exact ⟨⟨_,hV3⟩,hM2.setCell _ _ (.inl rfl)⟩
end Go.Proofs
namespace Go.Proofs
open Pk
set_option maxRecDepth 10000
set_option maxHeartbeats 1000000 in
theorem Suint64.brk_c {w : World} {v : Value} {d : Array Int} {a b : Nat} (hA : Suint64.A w v d) (hab : a + 8 ≤ b) (hb : b ≤ d.size) (hn : d.size ≤ 255) :
  FN Tryz.prog 186 [v,.int .i64 a,.int .i64 b] w fun e w' => (∃ u,e = .returned u) ∧ ∃ d',Sort.PermIn a b d d' ∧ Suint64.A w' v d' ∧ Mod (Sv v) w w' := by
 refine FN_enter Tryz.func186 rfl rfl (by kernel_rfl) ?_
 obtain ⟨l,hl⟩ : ∃ l,l = b - a := ⟨_,rfl⟩
 obtain ⟨q,hq⟩ : ∃ q,q = l / 4 := ⟨_,rfl⟩
 obtain ⟨q2,hq2⟩ : ∃ q2,q2 = q * 2 := ⟨_,rfl⟩
 obtain ⟨aq,haq⟩ : ∃ aq,aq = a + q2 := ⟨_,rfl⟩
 obtain ⟨i0,hi0⟩ : ∃ i0,i0 = aq - 1 := ⟨_,rfl⟩
 obtain ⟨i1,hi1⟩ : ∃ i1,i1 = aq + 1 := ⟨_,rfl⟩
 have w1_ : IntKind.i64.wrap ((b : Int) - (a : Int)) = (l : Int) := wnat _ _ (by omega) (by omega)
 have w2_ : IntKind.i64.wrap ((l : Int) / 4) = (q : Int) := wnat _ _ (by omega) (by omega)
 have w3_ : IntKind.i64.wrap ((q : Int) * 2) = (q2 : Int) := wnat _ _ (by omega) (by omega)
 have w4_ : IntKind.i64.wrap ((a : Int) + (q2 : Int)) = (aq : Int) := wnat _ _ (by omega) (by omega)
 have w5_ : IntKind.i64.wrap ((aq : Int) - 1) = (i0 : Int) := wnat _ _ (by omega) (by omega)
 have w6_ : IntKind.i64.wrap ((aq : Int) + 1) = (i1 : Int) := wnat _ _ (by omega) (by omega)
 have w7_ : IntKind.u64.wrap (l : Int) = (l : Int) := wrap64u _ (by omega) (by omega)
 have g1 : (8 : Int) ≤ (l : Int) := by omega
 simp [w1_,g1,w7_]
 obtain ⟨s,hs⟩ : ∃ s,s = w.heap.size := ⟨_,rfl⟩
 obtain ⟨wa,hwa⟩ : ∃ wa,wa = w.alloc (.cells #[.int .u64 l] 285) := ⟨_,rfl⟩
 rw [← hwa]
 have hV : Var wa s (.int .u64 l) := by rw [hwa,hs]; exact Var.new _ _ _
 have hMa : Mod (Sv v) w wa := by rw [hwa]; exact (Mod.refl _ _).alloc _
 have hD : Suint64.A wa v d := hA.ext (by rw [hwa]; exact (Ext.refl _).alloc _)
 have hne : slB v ≠ s := by have := hA.lt (by omega); omega
 refine FN.mono (Suint64.npow_c l (by omega) (by omega) wa) ?_
 rintro _ _ ⟨⟨m,rfl,hm1,hm2⟩,rfl⟩
 simp [w2_,w3_,w4_,w5_]
 refine WC_loop (fun k ρ ds w' => ∃ (i : Nat) (dk : Array Int) (z : Int), k = i1 + 1 - i ∧ i0 ≤ i ∧ ρ 0 = v ∧ ρ 1 = .int .i64 a ∧ ρ 6 = .int .i64 l ∧ ρ 7 = .pointer (some ⟨s, 0, none⟩) ∧ ρ 8 = .int .u64 m ∧ ρ 9 = .int .i64 i ∧ ds = [] ∧
  Suint64.A w' v dk ∧ Sort.PermIn a b d dk ∧ Var w' s (.int .u64 z) ∧ Mod (Sv v) w w') (i1 + 1 - i0) ⟨i0,d,l,?_⟩ ?_
 ·simp [← hs]
  exact ⟨hD,Sort.permIn_refl _ _ _,hV,hMa⟩
 ·rintro k ρ ds w1 ⟨i,dk,z,rfl,h1,e0,e1,e6,e7,e8,e9,rfl,hD,hP,hV,hM⟩
  have hz := hP.1
  by_cases hlt : i ≤ i1
  ·simp [e1,e6,e9,w2_,w3_,w4_,w6_,hlt,e7]
   refine FN.mono (Suint64.next_c hV) ?_
   rintro _ w2 ⟨⟨x,rfl⟩,⟨z',hV2⟩,hM2⟩
   replace hM : Mod (Sv v) w w2 := hM.trans' hM2 fun j hj => .inr (by omega)
   replace hD : Suint64.A w2 v dk := hD.keep fun _ => hM2.blk _ (hD.lt (by omega)) hne
   have w8_ : IntKind.u64.wrap ((m : Int) - 1) = ((m - 1 : Nat) : Int) := by rw [wrap64u _ (by omega) (by omega)]; omega
   obtain ⟨a1,a2⟩ := andI_le (a := x) (b := ((m - 1 : Nat) : Int)) (by omega) (by omega)
   obtain ⟨y,hy⟩ : ∃ y : Nat,andI .u64 x ((m - 1 : Nat) : Int) = (y : Int) := ⟨(andI .u64 x ((m - 1 : Nat) : Int)).toNat,by omega⟩
   have w9_ : IntKind.i64.wrap (y : Int) = (y : Int) := wnat _ _ rfl (by omega)
   simp [e6,e8,w8_,hy,w9_]
   by_cases hg : l ≤ y
   ·obtain ⟨o,ho,ho2⟩ : ∃ o,o = y - l ∧ o < l := ⟨_,rfl,by omega⟩
    have wa_ : IntKind.i64.wrap ((y : Int) - (l : Int)) = (o : Int) := wnat _ _ (by omega) (by omega)
    simp [hg,e6,wa_]
    refine WC_gen (fun σ => σ 0 = v ∧ σ 1 = .int .i64 a ∧ σ 6 = .int .i64 l ∧ σ 7 = .pointer (some ⟨s,0,none⟩) ∧ σ 8 = .int .u64 m ∧ σ 9 = .int .i64 i ∧ σ 10 = .int .i64 o) (by simp [e0,e1,e6,e7,e8,e9]) fun σ ⟨e0,e1,e6,e7,e8,e9,e10⟩ => ?_
    obtain ⟨ao,hao⟩ : ∃ ao,ao = a + o := ⟨_,rfl⟩
    have wb_ : IntKind.i64.wrap ((a : Int) + (o : Int)) = (ao : Int) := wnat _ _ (by omega) (by omega)
    have wc_ : IntKind.i64.wrap ((i : Int) + 1) = ((i + 1 : Nat) : Int) := wnat _ _ (by omega) (by omega)
    have ii := Suint64.ix hD i (by omega)
    have io := Suint64.ix hD ao (by omega)
    refine WC_drS 17 rfl (by kernel_rfl) fun W hW => ?_
    replace hD := hD.dr hW
    replace hM := hM.dr hW
    replace hV2 : Var W s (.int .u64 z') := hV2.ext (hW ▸ Ext.drew w2)
    obtain ⟨c1,c2,f1,c3,f2⟩ := hD.facts i ao (by omega) (by omega)
    simp [e0,e1,e9,e10,wb_,ii,io,c1,c2,f1,c3,f2,e6,e7,e8]
    rw [wc_]
    have hV3 : ∀ x y, Var ((W.setCell ⟨slB v, slO v + i, none⟩ x).setCell ⟨slB v, slO v + ao, none⟩ y) s (.int .u64 z') := fun x y =>
     hV2.keep (by rw [Go.RowKit.Below.heap_setCell _ _ _ _ (Ne.symm hne),Go.RowKit.Below.heap_setCell _ _ _ _ (Ne.symm hne)])
    exact ⟨i1 + 1 - (i + 1),by omega,i + 1,rfl,by omega,rfl,_,hD.swap (by omega) (by omega),Sort.permIn_trans _ _ _ _ _ hP (Sort.swp_permIn _ _ _ _ _ (by omega) (by omega) (by omega) (by omega) (by omega)),⟨_,hV3 _ _⟩,hD.mswap hM (by omega) _ _⟩
   ·obtain ⟨o,ho,ho2⟩ : ∃ o,o = y ∧ o < l := ⟨_,rfl,by omega⟩
    simp [hg]
    refine WC_gen (fun σ => σ 0 = v ∧ σ 1 = .int .i64 a ∧ σ 6 = .int .i64 l ∧ σ 7 = .pointer (some ⟨s,0,none⟩) ∧ σ 8 = .int .u64 m ∧ σ 9 = .int .i64 i ∧ σ 10 = .int .i64 o) (by simp [e0,e1,e6,e7,e8,e9,ho]) fun σ ⟨e0,e1,e6,e7,e8,e9,e10⟩ => ?_
    obtain ⟨ao,hao⟩ : ∃ ao,ao = a + o := ⟨_,rfl⟩
    have wb_ : IntKind.i64.wrap ((a : Int) + (o : Int)) = (ao : Int) := wnat _ _ (by omega) (by omega)
    have wc_ : IntKind.i64.wrap ((i : Int) + 1) = ((i + 1 : Nat) : Int) := wnat _ _ (by omega) (by omega)
    have ii := Suint64.ix hD i (by omega)
    have io := Suint64.ix hD ao (by omega)
    refine WC_drS 17 rfl (by kernel_rfl) fun W hW => ?_
    replace hD := hD.dr hW
    replace hM := hM.dr hW
    replace hV2 : Var W s (.int .u64 z') := hV2.ext (hW ▸ Ext.drew w2)
    obtain ⟨c1,c2,f1,c3,f2⟩ := hD.facts i ao (by omega) (by omega)
    simp [e0,e1,e9,e10,wb_,ii,io,c1,c2,f1,c3,f2,e6,e7,e8]
    rw [wc_]
    have hV3 : ∀ x y, Var ((W.setCell ⟨slB v, slO v + i, none⟩ x).setCell ⟨slB v, slO v + ao, none⟩ y) s (.int .u64 z') := fun x y =>
     hV2.keep (by rw [Go.RowKit.Below.heap_setCell _ _ _ _ (Ne.symm hne),Go.RowKit.Below.heap_setCell _ _ _ _ (Ne.symm hne)])
    exact ⟨i1 + 1 - (i + 1),by omega,i + 1,rfl,by omega,rfl,_,hD.swap (by omega) (by omega),Sort.permIn_trans _ _ _ _ _ hP (Sort.swp_permIn _ _ _ _ _ (by omega) (by omega) (by omega) (by omega) (by omega)),⟨_,hV3 _ _⟩,hD.mswap hM (by omega) _ _⟩
  ·simp [e1,e6,e9,w2_,w3_,w4_,w6_,hlt]
   exact ⟨dk,hP,hD,hM⟩
theorem Suint64.ord_c {w : World} {v : Value} {d : Array Int} {a b s L H : Nat} {z : Int} (hA : Suint64.A w v d) (ha : L ≤ a ∧ a < H) (hb : L ≤ b ∧ b < H) (hH : H ≤ d.size) (hV : Var w s (.int .i64 z)) (hne : slB v ≠ s) :
  FN Tryz.prog 200 [v, .int .i64 a, .int .i64 b, .pointer (some ⟨s, 0, none⟩)] w fun e w' => (∃ x y : Nat, e = .returned (.tuple #[.int .i64 x, .int .i64 y]) ∧ (L ≤ x ∧ x < H) ∧ (L ≤ y ∧ y < H)) ∧
   Suint64.A w' v d ∧ (∃ z',Var w' s (.int .i64 z')) ∧ Mod (· = s) w w' := by
 refine FN_enter Tryz.func200 rfl rfl (by kernel_rfl) ?_
 have i1 := Suint64.ix hA a (by omega)
 have i2 := Suint64.ix hA b (by omega)
 simp
 refine WC_drQ 8 rfl (by kernel_rfl) fun W hW => ?_
 replace hA := hA.dr hW
 replace hV : Var W s (.int .i64 z) := hV.ext (hW ▸ Ext.drew w)
 have hM : Mod (· = s) w W := (Mod.refl _ _).dr hW
 obtain ⟨c1,c2,-⟩ := hA.facts a b (by omega) (by omega)
 simp [i1,i2,c1,c2]
 refine FN.mono (Suint64.less_c (at_ d b) (at_ d a) W) ?_
 rintro _ _ ⟨rfl,rfl⟩
 simp
 by_cases hl : Sort.ltInt (at_ d b) (at_ d a) = true
 ·simp [hl,hV.cell,hV.thaw]
  refine ⟨⟨b,a,⟨rfl,rfl⟩,hb,ha⟩,?_,⟨_,hV.set _⟩,hM.setCell _ _ (.inl rfl)⟩
  exact hA.keep fun _ => Go.RowKit.Below.heap_setCell _ _ _ _ hne
 ·simp [hl]
  exact ⟨⟨a,b,⟨rfl,rfl⟩,ha,hb⟩,hA,⟨_,hV⟩,hM⟩
theorem Suint64.med_c {w : World} {v : Value} {d : Array Int} {a b c s L H : Nat} {z : Int} (hA : Suint64.A w v d) (ha : L ≤ a ∧ a < H) (hb : L ≤ b ∧ b < H) (hc : L ≤ c ∧ c < H) (hH : H ≤ d.size) (hV : Var w s (.int .i64 z)) (hne : slB v ≠ s) :
  FN Tryz.prog 199 [v, .int .i64 a, .int .i64 b, .int .i64 c, .pointer (some ⟨s, 0, none⟩)] w fun e w' => (∃ x : Nat, e = .returned (.int .i64 x) ∧ (L ≤ x ∧ x < H)) ∧
   Suint64.A w' v d ∧ (∃ z',Var w' s (.int .i64 z')) ∧ Mod (· = s) w w' := by
 refine FN_enter Tryz.func199 rfl rfl (by kernel_rfl) ?_
 simp
 refine FN.mono (Suint64.ord_c hA ha hb hH hV hne) ?_
 rintro _ w1 ⟨⟨x,y,rfl,hx,hy⟩,hA1,⟨z1,hV1⟩,hM1⟩
 simp
 refine FN.mono (Suint64.ord_c hA1 hy hc hH hV1 hne) ?_
 rintro _ w2 ⟨⟨x2,y2,rfl,hx2,hy2⟩,hA2,⟨z2,hV2⟩,hM2⟩
 simp
 refine FN.mono (Suint64.ord_c hA2 hx hx2 hH hV2 hne) ?_
 rintro _ w3 ⟨⟨x3,y3,rfl,hx3,hy3⟩,hA3,⟨z3,hV3⟩,hM3⟩
 simp
 exact ⟨⟨y3,rfl,hy3⟩,hA3,⟨_,hV3⟩,(hM1.trans hM2).trans hM3⟩
theorem Suint64.madj_c {w : World} {v : Value} {d : Array Int} {a s L H : Nat} {z : Int} (hA : Suint64.A w v d) (ha : L + 1 ≤ a ∧ a + 1 < H) (hH : H ≤ d.size) (hn : d.size ≤ 1048576) (hV : Var w s (.int .i64 z)) (hne : slB v ≠ s) :
  FN Tryz.prog 198 [v, .int .i64 a, .pointer (some ⟨s, 0, none⟩)] w fun e w' => (∃ x : Nat, e = .returned (.int .i64 x) ∧ (L ≤ x ∧ x < H)) ∧
   Suint64.A w' v d ∧ (∃ z',Var w' s (.int .i64 z')) ∧ Mod (· = s) w w' := by
 refine FN_enter Tryz.func198 rfl rfl (by kernel_rfl) ?_
 have w1_ : IntKind.i64.wrap ((a : Int) - 1) = ((a - 1 : Nat) : Int) := wnat _ _ (by omega) (by omega)
 have w2_ : IntKind.i64.wrap ((a : Int) + 1) = ((a + 1 : Nat) : Int) := wnat _ _ (by omega) (by omega)
 simp
 rw [w1_,w2_]
 refine FN.mono (Suint64.med_c hA (a := a - 1) (b := a) (c := a + 1) (L := L) (H := H) (by omega) (by omega) (by omega) hH hV hne) ?_
 rintro _ w1 ⟨⟨x,rfl,hx⟩,hA1,⟨z1,hV1⟩,hM1⟩
 simp
 exact ⟨⟨x,rfl,hx⟩,hA1,⟨_,hV1⟩,hM1⟩
end Go.Proofs