/-
  Contracts of the functions that the law reaches, step by step.
-/
import Derived.Test.YtfppepjaopbanaaSrtA
namespace Go.Proofs
open Pk
set_option maxRecDepth 10000
theorem Suint32.sift_c {w : World} {v : Value} {d : Array Int} {lo hi first : Nat} (hA : Suint32.A w v d) (hlo : lo ≤ hi) (hb : first + hi ≤ d.size) (hn : d.size ≤ 1048576) :
    FN Try.prog 85 [v, .int .i64 lo, .int .i64 hi, .int .i64 first] w fun e w' => (∃ u, e = .returned u) ∧ Suint32.A w' v (Sort.siftDown Sort.ltInt hi first lo d) ∧ Mod (Sv v) w w' := by
  refine FN_enter Try.func85 rfl rfl (by kernel_rfl) ?_
  simp
  refine WC_loop (fun k ρ ds w' => ∃ (r : Nat) (dk : Array Int), k = hi - r ∧ r ≤ hi ∧ ρ 0 = v ∧ ρ 2 = .int .i64 hi ∧ ρ 3 = .int .i64 first ∧ ρ 8 = .int .i64 r ∧ ds = [] ∧ Suint32.A w' v dk ∧ dk.size = d.size ∧
    Sort.siftDown Sort.ltInt hi first r dk = Sort.siftDown Sort.ltInt hi first lo d ∧ Mod (Sv v) w w') (hi - lo) ⟨lo, d, ?_⟩ ?_
  · simp
    exact ⟨hlo, hA, Mod.refl _ _⟩
  · rintro k ρ ds w1 ⟨r, dk, rfl, hr, e0, e2, e3, e8, rfl, hD, hz, hI, hM⟩
    obtain ⟨r2, hr2⟩ : ∃ r2, r2 = 2 * r := ⟨_, rfl⟩
    obtain ⟨c, hc⟩ : ∃ c, c = r2 + 1 := ⟨_, rfl⟩
    obtain ⟨c1, hc1⟩ : ∃ c1, c1 = c + 1 := ⟨_, rfl⟩
    have w1_ : IntKind.i64.wrap (2 * (r : Int)) = (r2 : Int) := wnat _ _ (by omega) (by omega)
    have w2_ : IntKind.i64.wrap ((r2 : Int) + 1) = (c : Int) := wnat _ _ (by omega) (by omega)
    have w3_ : IntKind.i64.wrap ((c : Int) + 1) = (c1 : Int) := wnat _ _ (by omega) (by omega)
    by_cases hlt : hi ≤ c
    · simp [e2, e8, w1_, w2_, hlt]
      rw [sift_stop _ (by omega)] at hI
      rw [← hI]; exact ⟨hD, hM⟩
    · simp [e2, e8, w1_, w2_, hlt]
      obtain ⟨fc, hfc⟩ : ∃ fc, fc = first + c := ⟨_, rfl⟩
      obtain ⟨fc1, hfc1⟩ : ∃ fc1, fc1 = fc + 1 := ⟨_, rfl⟩
      obtain ⟨fr, hfr⟩ : ∃ fr, fr = first + r := ⟨_, rfl⟩
      have w4_ : IntKind.i64.wrap ((first : Int) + (c : Int)) = (fc : Int) := wnat _ _ (by omega) (by omega)
      have w5_ : IntKind.i64.wrap ((fc : Int) + 1) = (fc1 : Int) := wnat _ _ (by omega) (by omega)
      have w6_ : IntKind.i64.wrap ((first : Int) + (r : Int)) = (fr : Int) := wnat _ _ (by omega) (by omega)
      have w7_ : IntKind.i64.wrap ((first : Int) + (c1 : Int)) = (fc1 : Int) := wnat _ _ (by omega) (by omega)
      have ir := Suint32.ix hD fr (by omega)
      have ic := Suint32.ix hD fc (by omega)
      obtain ⟨cr, cc, -⟩ := hD.facts fr fc (by omega) (by omega)
      refine WC_drQ 18 rfl (by kernel_rfl) fun W hW => ?_
      replace hD := hD.dr hW
      replace hM := hM.dr hW
      have tailOk : ∀ x : Nat, x < hi → x = (if (decide (2 * r + 2 < hi) && Sort.ltInt (at_ dk (first + (2 * r + 1))) (at_ dk (first + (2 * r + 2)))) = true then 2 * r + 2 else 2 * r + 1) →
        Sort.siftDown Sort.ltInt hi first lo d = if Sort.ltInt (at_ dk fr) (at_ dk (first + x)) = true then Sort.siftDown Sort.ltInt hi first x (Sort.swp dk fr (first + x)) else dk := by
        intro x hx h
        rw [← hI, sift_go _ hx h, hfr]
      by_cases hlt1 : c1 < hi
      · have ic1 := Suint32.ix hD fc1 (by omega)
        obtain ⟨cc, cc1, -⟩ := hD.facts fc fc1 (by omega) (by omega)
        have hcond : (decide (2 * r + 2 < hi) && Sort.ltInt (at_ dk (first + (2 * r + 1))) (at_ dk (first + (2 * r + 2)))) = Sort.ltInt (at_ dk fc) (at_ dk fc1) := by
          have e1 : decide (2 * r + 2 < hi) = true := by simp; omega
          rw [e1, Bool.true_and]; congr 2 <;> omega
        simp [e0, e2, e3, w3_, w4_, w5_, hlt1, ic, ic1, cc, cc1]
        refine FN.mono (Suint32.less_c (at_ dk fc) (at_ dk fc1) W) ?_
        rintro _ _ ⟨rfl, rfl⟩
        simp
        by_cases hl : Sort.ltInt (at_ dk fc) (at_ dk fc1) = true
        · obtain ⟨x, hx, hx1, hx2⟩ : ∃ x, x = c1 ∧ x < hi ∧ (x = if (decide (2 * r + 2 < hi) && Sort.ltInt (at_ dk (first + (2 * r + 1))) (at_ dk (first + (2 * r + 2)))) = true then 2 * r + 2 else 2 * r + 1) := ⟨c1, rfl, hlt1, by rw [hcond, if_pos hl]; omega⟩
          simp [hl, w3_]
          refine WC_gen (fun σ => σ 0 = v ∧ σ 2 = .int .i64 hi ∧ σ 3 = .int .i64 first ∧ σ 8 = .int .i64 r ∧ σ 9 = .int .i64 x) (by simp [e0, e2, e3, e8, hx]) fun σ ⟨e0, e2, e3, e8, e9⟩ => ?_
          obtain ⟨fx, hfx⟩ : ∃ fx, fx = first + x := ⟨_, rfl⟩
          have w8_ : IntKind.i64.wrap ((first : Int) + (x : Int)) = (fx : Int) := wnat _ _ (by omega) (by omega)
          have ix := Suint32.ix hD fx (by omega)
          refine WC_drQ 12 rfl (by kernel_rfl) fun W' hW' => ?_
          replace hD := hD.dr hW'
          replace hM := hM.dr hW'
          obtain ⟨c1_, c2_, -⟩ := hD.facts fr fx (by omega) (by omega)
          have hgo := tailOk x hx1 hx2
          rw [← hfx] at hgo
          simp [e0, e3, e8, e9, w6_, w8_, ir, ix, c1_, c2_]
          refine FN.mono (Suint32.less_c (at_ dk fr) (at_ dk fx) W') ?_
          rintro _ _ ⟨rfl, rfl⟩
          simp
          by_cases hl2 : Sort.ltInt (at_ dk fr) (at_ dk fx) = true
          · simp [hl2]
            rw [if_pos hl2] at hgo
            refine WC_drS 21 rfl (by kernel_rfl) fun W2 hW2 => ?_
            replace hD := hD.dr hW2
            replace hM := hM.dr hW2
            obtain ⟨c1_, c2_, f1_, c3_, f2_⟩ := hD.facts fr fx (by omega) (by omega)
            simp [e0, e3, e8, e9, w6_, w8_, ir, ix, c1_, c2_, f1_, c3_, f2_]
            exact ⟨hi - x, by omega, x, rfl, by omega, e2, rfl, _, hD.swap (by omega) (by omega), by rw [size_swp]; exact hz, hgo.symm, hD.mswap hM (by omega) _ _⟩
          · simp [hl2]
            rw [if_neg hl2] at hgo
            rw [hgo]
            exact ⟨hD, hM⟩
        · obtain ⟨x, hx, hx1, hx2⟩ : ∃ x, x = c ∧ x < hi ∧ (x = if (decide (2 * r + 2 < hi) && Sort.ltInt (at_ dk (first + (2 * r + 1))) (at_ dk (first + (2 * r + 2)))) = true then 2 * r + 2 else 2 * r + 1) := ⟨c, rfl, by omega, by rw [hcond, if_neg hl]; omega⟩
          simp [hl]
          refine WC_gen (fun σ => σ 0 = v ∧ σ 2 = .int .i64 hi ∧ σ 3 = .int .i64 first ∧ σ 8 = .int .i64 r ∧ σ 9 = .int .i64 x) (by simp [e0, e2, e3, e8, hx]) fun σ ⟨e0, e2, e3, e8, e9⟩ => ?_
          obtain ⟨fx, hfx⟩ : ∃ fx, fx = first + x := ⟨_, rfl⟩
          have w8_ : IntKind.i64.wrap ((first : Int) + (x : Int)) = (fx : Int) := wnat _ _ (by omega) (by omega)
          have ix := Suint32.ix hD fx (by omega)
          refine WC_drQ 12 rfl (by kernel_rfl) fun W' hW' => ?_
          replace hD := hD.dr hW'
          replace hM := hM.dr hW'
          obtain ⟨c1_, c2_, -⟩ := hD.facts fr fx (by omega) (by omega)
          have hgo := tailOk x hx1 hx2
          rw [← hfx] at hgo
          simp [e0, e3, e8, e9, w6_, w8_, ir, ix, c1_, c2_]
          refine FN.mono (Suint32.less_c (at_ dk fr) (at_ dk fx) W') ?_
          rintro _ _ ⟨rfl, rfl⟩
          simp
          by_cases hl2 : Sort.ltInt (at_ dk fr) (at_ dk fx) = true
          · simp [hl2]
            rw [if_pos hl2] at hgo
            refine WC_drS 21 rfl (by kernel_rfl) fun W2 hW2 => ?_
            replace hD := hD.dr hW2
            replace hM := hM.dr hW2
            obtain ⟨c1_, c2_, f1_, c3_, f2_⟩ := hD.facts fr fx (by omega) (by omega)
            simp [e0, e3, e8, e9, w6_, w8_, ir, ix, c1_, c2_, f1_, c3_, f2_]
            exact ⟨hi - x, by omega, x, rfl, by omega, e2, rfl, _, hD.swap (by omega) (by omega), by rw [size_swp]; exact hz, hgo.symm, hD.mswap hM (by omega) _ _⟩
          · simp [hl2]
            rw [if_neg hl2] at hgo
            rw [hgo]
            exact ⟨hD, hM⟩
      · have hcond : (decide (2 * r + 2 < hi) && Sort.ltInt (at_ dk (first + (2 * r + 1))) (at_ dk (first + (2 * r + 2)))) = false := by
          have e1 : decide (2 * r + 2 < hi) = false := by simp; omega
          rw [e1, Bool.false_and]
        obtain ⟨x, hx, hx1, hx2⟩ : ∃ x, x = c ∧ x < hi ∧ (x = if (decide (2 * r + 2 < hi) && Sort.ltInt (at_ dk (first + (2 * r + 1))) (at_ dk (first + (2 * r + 2)))) = true then 2 * r + 2 else 2 * r + 1) := ⟨c, rfl, by omega, by rw [hcond]; simp; omega⟩
        simp [e2, w3_, hlt1]
        refine WC_gen (fun σ => σ 0 = v ∧ σ 2 = .int .i64 hi ∧ σ 3 = .int .i64 first ∧ σ 8 = .int .i64 r ∧ σ 9 = .int .i64 x) (by simp [e0, e2, e3, e8, hx]) fun σ ⟨e0, e2, e3, e8, e9⟩ => ?_
        obtain ⟨fx, hfx⟩ : ∃ fx, fx = first + x := ⟨_, rfl⟩
        have w8_ : IntKind.i64.wrap ((first : Int) + (x : Int)) = (fx : Int) := wnat _ _ (by omega) (by omega)
        have ix := Suint32.ix hD fx (by omega)
        refine WC_drQ 12 rfl (by kernel_rfl) fun W' hW' => ?_
        replace hD := hD.dr hW'
        replace hM := hM.dr hW'
        obtain ⟨c1_, c2_, -⟩ := hD.facts fr fx (by omega) (by omega)
        have hgo := tailOk x hx1 hx2
        rw [← hfx] at hgo
        simp [e0, e3, e8, e9, w6_, w8_, ir, ix, c1_, c2_]
        refine FN.mono (Suint32.less_c (at_ dk fr) (at_ dk fx) W') ?_
        rintro _ _ ⟨rfl, rfl⟩
        simp
        by_cases hl2 : Sort.ltInt (at_ dk fr) (at_ dk fx) = true
        · simp [hl2]
          rw [if_pos hl2] at hgo
          refine WC_drS 21 rfl (by kernel_rfl) fun W2 hW2 => ?_
          replace hD := hD.dr hW2
          replace hM := hM.dr hW2
          obtain ⟨c1_, c2_, f1_, c3_, f2_⟩ := hD.facts fr fx (by omega) (by omega)
          simp [e0, e3, e8, e9, w6_, w8_, ir, ix, c1_, c2_, f1_, c3_, f2_]
          exact ⟨hi - x, by omega, x, rfl, by omega, e2, rfl, _, hD.swap (by omega) (by omega), by rw [size_swp]; exact hz, hgo.symm, hD.mswap hM (by omega) _ _⟩
        · simp [hl2]
          rw [if_neg hl2] at hgo
          rw [hgo]
          exact ⟨hD, hM⟩
end Go.Proofs
