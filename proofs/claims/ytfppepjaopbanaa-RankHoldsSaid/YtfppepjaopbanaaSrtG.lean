/-
  Contracts of the functions that the law reaches, step by step.
-/
import Derived.Test.YtfppepjaopbanaaSrtF
namespace Go.Proofs
open Pk
set_option maxRecDepth 10000
set_option maxHeartbeats 4000000 in
theorem Suint32.pis_c {w : World} {v : Value} {d : Array Int} {a b : Nat} (hA : Suint32.A w v d) (hab : a < b) (hb : b ≤ d.size) (hn : d.size ≤ 1048576) :
    FN Try.prog 79 [v, .int .i64 a, .int .i64 b] w fun e w' => e = .returned (.bool (Sort.partialInsertionSort Sort.ltInt d a b).2) ∧ Suint32.A w' v (Sort.partialInsertionSort Sort.ltInt d a b).1 ∧ Mod (Sv v) w w' := by
  refine FN_enter Try.func79 rfl rfl (by kernel_rfl) ?_
  have w1_ : IntKind.i64.wrap ((a : Int) + 1) = ((a + 1 : Nat) : Int) := wnat _ _ (by omega) (by omega)
  have w2_ : IntKind.i64.wrap ((b : Int) - (a : Int)) = ((b - a : Nat) : Int) := wnat _ _ (by omega) (by omega)
  simp
  rw [w1_]
  refine WC_loop (fun k ρ ds w' => ∃ (st i : Nat) (dk : Array Int), k = 5 - st ∧ st ≤ 5 ∧ a + 1 ≤ i ∧ i ≤ b ∧ ρ 0 = v ∧ ρ 1 = .int .i64 a ∧ ρ 2 = .int .i64 b ∧ ρ 7 = .int .i64 i ∧ ρ 8 = .int .i64 st ∧ ds = [] ∧ Suint32.A w' v dk ∧ dk.size = d.size ∧
    Sort.partialIns Sort.ltInt a b (5 - st) i dk = Sort.partialInsertionSort Sort.ltInt d a b ∧ Mod (Sv v) w w') 5 ⟨0, a + 1, d, ?_⟩ ?_
  · simp
    exact ⟨by omega, hA, rfl, Mod.refl _ _⟩
  · rintro k ρ ds w1 ⟨st, i0, dk, rfl, hst, hi0, hib0, e0, e1, e2, e7, e8, rfl, hD, hz, hI, hM⟩
    by_cases h5 : st < 5
    · have g5 : (st : Int) < 5 := by omega
      simp [e8, g5]
      refine WC_loop (fun k ρ ds w' => ∃ i : Nat, k = b - i ∧ a + 1 ≤ i ∧ i ≤ b ∧ ρ 0 = v ∧ ρ 1 = .int .i64 a ∧ ρ 2 = .int .i64 b ∧ ρ 7 = .int .i64 i ∧ ρ 8 = .int .i64 st ∧ ds = [] ∧ Suint32.A w' v dk ∧
        Sort.scanSorted Sort.ltInt dk b i = Sort.scanSorted Sort.ltInt dk b i0 ∧ Mod (Sv v) w w') (b - i0) ⟨i0, ?_⟩ ?_
      · simp [e0, e1, e2, e7, e8]
        exact ⟨hi0, hib0, hD, hM⟩
      · rintro k ρ ds w2 ⟨i, rfl, hi, hib, e0, e1, e2, e7, e8, rfl, hD, hS, hM⟩
        obtain ⟨p, hp⟩ : ∃ p, i = p + 1 := ⟨i - 1, by omega⟩
        have ew : IntKind.i64.wrap ((i : Int) - 1) = (p : Int) := wnat _ _ (by omega) (by omega)
        have ew2 : IntKind.i64.wrap ((i : Int) + 1) = ((i + 1 : Nat) : Int) := wnat _ _ (by omega) (by omega)
        have ei : IntKind.i64.wrap ((i : Int) - (a : Int)) = ((i - a : Nat) : Int) := wnat _ _ (by omega) (by omega)
        have wd_ : IntKind.i64.wrap ((b : Int) - (i : Int)) = ((b - i : Nat) : Int) := wnat _ _ (by omega) (by omega)
        have wi_ := ew2
        obtain ⟨s, hs⟩ : ∃ s, 5 - st = s + 1 := ⟨4 - st, by omega⟩
        simp
        refine WC_drQ 13 rfl (by kernel_rfl) fun W hW => ?_
        replace hD := hD.dr hW
        replace hM := hM.dr hW
        by_cases hlt : i < b
        · have i1 := Suint32.ix hD i (by omega)
          have i2 := Suint32.ix hD p (by omega)
          obtain ⟨c1, c2, -⟩ := hD.facts i p (by omega) (by omega)
          simp [e0, e2, e7, hlt, i1, i2, ew, c1, c2]
          refine FN.mono (Suint32.less_c (at_ dk i) (at_ dk p) W) ?_
          rintro _ _ ⟨rfl, rfl⟩
          simp
          by_cases hl : Sort.ltInt (at_ dk i) (at_ dk p) = true
          · rw [scan_end _ hp (.inr hl)] at hS
            have hst2 := pis_step Sort.ltInt a b s i0 dk hS
            rw [hs] at hI
            rw [hI, if_neg (by omega)] at hst2
            have hnb : ((i : Int) == (b : Int)) = false := by simp; omega
            simp [hl, e1, e2, e7, hnb, w2_]
            by_cases h50 : b - a < 50
            · have g50 : ((b - a : Nat) : Int) < 50 := by omega
              rw [if_pos h50] at hst2
              simp [g50]
              rw [hst2]
              exact ⟨rfl, hD, hM⟩
            · have g50 : ¬ ((b - a : Nat) : Int) < 50 := by omega
              rw [if_neg h50] at hst2
              simp [g50]
              refine WC_drS 15 rfl (by kernel_rfl) fun W' hW' => ?_
              replace hD := hD.dr hW'
              replace hM := hM.dr hW'
              obtain ⟨c1, c2, f1, c3, f2⟩ := hD.facts i p (by omega) (by omega)
              have hpi : i - 1 = p := by omega
              rw [hpi] at hst2
              obtain ⟨W2, hW2⟩ : ∃ W2, W2 = (W'.setCell ⟨slB v, slO v + i, none⟩ (.int .u32 (at_ dk p))).setCell ⟨slB v, slO v + p, none⟩ (.int .u32 (at_ dk i)) := ⟨_, rfl⟩
              have hD' : Suint32.A W2 v (Sort.swp dk i p) := by rw [hW2]; exact hD.swap (by omega) (by omega)
              replace hM : Mod (Sv v) w W2 := by rw [hW2]; exact hD.mswap hM (by omega) _ _
              simp [e0, e7, i1, i2, ew, c1, c2, f1, c3, f2, e1, ei]
              rw [← hW2]
              replace hz : (Sort.swp dk i p).size = d.size := by rw [size_swp]; exact hz
              clear hD hW2 hW' hW c1 c2 f1 c3 f2
              replace hD := hD'
              clear hD'
              by_cases hdn : 2 ≤ i - a
              · have g3 : (2 : Int) ≤ ((i - a : Nat) : Int) := by omega
                rw [if_pos hdn] at hst2
                simp [e7, g3, ew]
                refine WC_loop (fun k ρ ds w' => ∃ (j : Nat) (dj : Array Int), k = j ∧ j ≤ p ∧ ρ 0 = v ∧ ρ 1 = .int .i64 a ∧ ρ 2 = .int .i64 b ∧ ρ 7 = .int .i64 i ∧ ρ 8 = .int .i64 st ∧ ρ 9 = .int .i64 j ∧ ds = [] ∧ Suint32.A w' v dj ∧ dj.size = d.size ∧
                  Sort.shiftDown Sort.ltInt j dj = Sort.shiftDown Sort.ltInt p (Sort.swp dk i p) ∧ Mod (Sv v) w w') p ⟨p, Sort.swp dk i p, ?_⟩ ?_
                · simp [e0, e1, e2, e7, e8]
                  exact ⟨hD, hz, hM⟩
                · rintro k ρ ds w4 ⟨j, d2, rfl, hj, e0, e1, e2, e7, e8, e9, rfl, hD, hz, hJ, hM⟩
                  cases k with
                  | zero =>
                    rw [down_zero] at hJ
                    rw [← hJ] at hst2
                    have hE := hst2.symm
                    simp [e9, e2, e7]
                    by_cases hup : 2 ≤ b - i
                    · have g2 : (2 : Int) ≤ ((b - i : Nat) : Int) := by omega
                      rw [if_pos hup] at hE
                      simp [e7, wd_, g2, wi_]
                      refine WC_loop (fun k ρ ds w' => ∃ (j : Nat) (dj : Array Int), k = b - j ∧ i + 1 ≤ j ∧ ρ 0 = v ∧ ρ 1 = .int .i64 a ∧ ρ 2 = .int .i64 b ∧ ρ 7 = .int .i64 i ∧ ρ 8 = .int .i64 st ∧ ρ 10 = .int .i64 j ∧ ds = [] ∧ Suint32.A w' v dj ∧ dj.size = d.size ∧
                        Sort.shiftUp Sort.ltInt b j dj = Sort.shiftUp Sort.ltInt b (i + 1) d2 ∧ Mod (Sv v) w w') (b - (i + 1)) ⟨i + 1, d2, ?_⟩ ?_
                      · simp [e0, e1, e2, e7, e8]
                        exact ⟨hD, hz, hM⟩
                      · rintro k ρ ds w5 ⟨j, dj, rfl, hj1, e0, e1, e2, e7, e8, e10, rfl, hD, hz, hJ, hM⟩
                        have fin : Sort.shiftUp Sort.ltInt b j dj = dj → ∀ W, Suint32.A W v dj → Mod (Sv v) w W → ∃ m', m' < 5 - st ∧ ∃ st' : Nat, m' = 5 - st' ∧ st' ≤ 5 ∧ ∃ x : Nat, a + 1 ≤ x ∧ x ≤ b ∧ (i : Int) = x ∧ IntKind.i64.wrap ((st : Int) + 1) = st' ∧ ∃ dk', Suint32.A W v dk' ∧ dk'.size = d.size ∧
                            Sort.partialIns Sort.ltInt a b (5 - st') x dk' = Sort.partialInsertionSort Sort.ltInt d a b ∧ Mod (Sv v) w W := by
                          intro hs W hDW hMW
                          exact ⟨5 - (st + 1), by omega, st + 1, rfl, by omega, i, hi, by omega, rfl, wnat _ _ (by omega) (by omega), dj, hDW, hz, by rw [← hE, ← hJ, hs]; congr 1; omega, hMW⟩
                        by_cases hjb : j < b
                        · obtain ⟨p, hp⟩ : ∃ p, j = p + 1 := ⟨j - 1, by omega⟩
                          have ew : IntKind.i64.wrap ((j : Int) - 1) = (p : Int) := wnat _ _ (by omega) (by omega)
                          have ew2 : IntKind.i64.wrap ((j : Int) + 1) = ((j + 1 : Nat) : Int) := wnat _ _ (by omega) (by omega)
                          have i1 := Suint32.ix hD j (by omega)
                          have i2 := Suint32.ix hD p (by omega)
                          simp [e2, e10, hjb]
                          refine WC_drQ 9 rfl (by kernel_rfl) fun W hW => ?_
                          replace hD := hD.dr hW
                          replace hM := hM.dr hW
                          obtain ⟨c1, c2, -⟩ := hD.facts j p (by omega) (by omega)
                          simp [e0, e10, i1, i2, ew, c1, c2]
                          refine FN.mono (Suint32.less_c (at_ dj j) (at_ dj p) W) ?_
                          rintro _ _ ⟨rfl, rfl⟩
                          simp
                          rw [up_step _ hjb hp] at hJ fin
                          by_cases hl : Sort.ltInt (at_ dj j) (at_ dj p) = true
                          · rw [if_pos hl] at hJ
                            simp [hl]
                            refine WC_drS 15 rfl (by kernel_rfl) fun W' hW' => ?_
                            replace hD := hD.dr hW'
                            replace hM := hM.dr hW'
                            obtain ⟨c1, c2, f1, c3, f2⟩ := hD.facts j p (by omega) (by omega)
                            simp [e0, e10, i1, i2, ew, c1, c2, f1, c3, f2, e1, e2, e7, e8]
                            rw [ew2]
                            exact ⟨b - (j + 1), by omega, j + 1, rfl, by omega, rfl, _, hD.swap (by omega) (by omega), by rw [size_swp]; exact hz, hJ, hD.mswap hM (by omega) _ _⟩
                          · rw [if_neg hl] at fin
                            simp [hl, e0, e1, e2, e7, e8]
                            exact fin rfl _ hD hM
                        · rw [up_end _ hjb] at fin
                          simp [e2, e10, hjb, e0, e1, e7, e8]
                          exact fin rfl _ hD hM
                    · have g2 : ¬ (2 : Int) ≤ ((b - i : Nat) : Int) := by omega
                      rw [if_neg hup] at hE
                      simp [e0, e1, e2, e7, e8, wd_, g2]
                      exact ⟨5 - (st + 1), by omega, st + 1, rfl, by omega, i, hi, by omega, rfl, wnat _ _ (by omega) (by omega), d2, hD, hz, by rw [← hE]; congr 1; omega, hM⟩
                  | succ t =>
                    obtain ⟨k, hk⟩ : ∃ k, k = t + 1 := ⟨_, rfl⟩
                    rw [← hk] at e9 hJ
                    have ewk : IntKind.i64.wrap ((k : Int) - 1) = (t : Int) := wnat _ _ (by omega) (by omega)
                    have gk : (1 : Int) ≤ (k : Int) := by omega
                    have i1 := Suint32.ix hD k (by omega)
                    have i2 := Suint32.ix hD t (by omega)
                    simp [e9, gk]
                    refine WC_drQ 9 rfl (by kernel_rfl) fun W hW => ?_
                    replace hD := hD.dr hW
                    replace hM := hM.dr hW
                    obtain ⟨c1, c2, -⟩ := hD.facts k t (by omega) (by omega)
                    simp [e0, e9, i1, i2, ewk, c1, c2]
                    refine FN.mono (Suint32.less_c (at_ d2 k) (at_ d2 t) W) ?_
                    rintro _ _ ⟨rfl, rfl⟩
                    simp
                    rw [down_step _ hk] at hJ
                    by_cases hl : Sort.ltInt (at_ d2 k) (at_ d2 t) = true
                    · rw [if_pos hl] at hJ
                      simp [hl]
                      refine WC_drS 15 rfl (by kernel_rfl) fun W' hW' => ?_
                      replace hD := hD.dr hW'
                      replace hM := hM.dr hW'
                      obtain ⟨c1, c2, f1, c3, f2⟩ := hD.facts k t (by omega) (by omega)
                      simp [e0, e9, i1, i2, ewk, c1, c2, f1, c3, f2, e1, e2, e7, e8]
                      exact ⟨t, by omega, by omega, rfl, _, hD.swap (by omega) (by omega), by rw [size_swp]; exact hz, hJ, hD.mswap hM (by omega) _ _⟩
                    · rw [if_neg hl] at hJ
                      rw [← hJ] at hst2
                      have hE := hst2.symm
                      simp [hl, e2, e7]
                      by_cases hup : 2 ≤ b - i
                      · have g2 : (2 : Int) ≤ ((b - i : Nat) : Int) := by omega
                        rw [if_pos hup] at hE
                        simp [e7, wd_, g2, wi_]
                        refine WC_loop (fun k ρ ds w' => ∃ (j : Nat) (dj : Array Int), k = b - j ∧ i + 1 ≤ j ∧ ρ 0 = v ∧ ρ 1 = .int .i64 a ∧ ρ 2 = .int .i64 b ∧ ρ 7 = .int .i64 i ∧ ρ 8 = .int .i64 st ∧ ρ 10 = .int .i64 j ∧ ds = [] ∧ Suint32.A w' v dj ∧ dj.size = d.size ∧
                          Sort.shiftUp Sort.ltInt b j dj = Sort.shiftUp Sort.ltInt b (i + 1) d2 ∧ Mod (Sv v) w w') (b - (i + 1)) ⟨i + 1, d2, ?_⟩ ?_
                        · simp [e0, e1, e2, e7, e8]
                          exact ⟨hD, hz, hM⟩
                        · rintro k ρ ds w5 ⟨j, dj, rfl, hj1, e0, e1, e2, e7, e8, e10, rfl, hD, hz, hJ, hM⟩
                          have fin : Sort.shiftUp Sort.ltInt b j dj = dj → ∀ W, Suint32.A W v dj → Mod (Sv v) w W → ∃ m', m' < 5 - st ∧ ∃ st' : Nat, m' = 5 - st' ∧ st' ≤ 5 ∧ ∃ x : Nat, a + 1 ≤ x ∧ x ≤ b ∧ (i : Int) = x ∧ IntKind.i64.wrap ((st : Int) + 1) = st' ∧ ∃ dk', Suint32.A W v dk' ∧ dk'.size = d.size ∧
                              Sort.partialIns Sort.ltInt a b (5 - st') x dk' = Sort.partialInsertionSort Sort.ltInt d a b ∧ Mod (Sv v) w W := by
                            intro hs W hDW hMW
                            exact ⟨5 - (st + 1), by omega, st + 1, rfl, by omega, i, hi, by omega, rfl, wnat _ _ (by omega) (by omega), dj, hDW, hz, by rw [← hE, ← hJ, hs]; congr 1; omega, hMW⟩
                          by_cases hjb : j < b
                          · obtain ⟨p, hp⟩ : ∃ p, j = p + 1 := ⟨j - 1, by omega⟩
                            have ew : IntKind.i64.wrap ((j : Int) - 1) = (p : Int) := wnat _ _ (by omega) (by omega)
                            have ew2 : IntKind.i64.wrap ((j : Int) + 1) = ((j + 1 : Nat) : Int) := wnat _ _ (by omega) (by omega)
                            have i1 := Suint32.ix hD j (by omega)
                            have i2 := Suint32.ix hD p (by omega)
                            simp [e2, e10, hjb]
                            refine WC_drQ 9 rfl (by kernel_rfl) fun W hW => ?_
                            replace hD := hD.dr hW
                            replace hM := hM.dr hW
                            obtain ⟨c1, c2, -⟩ := hD.facts j p (by omega) (by omega)
                            simp [e0, e10, i1, i2, ew, c1, c2]
                            refine FN.mono (Suint32.less_c (at_ dj j) (at_ dj p) W) ?_
                            rintro _ _ ⟨rfl, rfl⟩
                            simp
                            rw [up_step _ hjb hp] at hJ fin
                            by_cases hl : Sort.ltInt (at_ dj j) (at_ dj p) = true
                            · rw [if_pos hl] at hJ
                              simp [hl]
                              refine WC_drS 15 rfl (by kernel_rfl) fun W' hW' => ?_
                              replace hD := hD.dr hW'
                              replace hM := hM.dr hW'
                              obtain ⟨c1, c2, f1, c3, f2⟩ := hD.facts j p (by omega) (by omega)
                              simp [e0, e10, i1, i2, ew, c1, c2, f1, c3, f2, e1, e2, e7, e8]
                              rw [ew2]
                              exact ⟨b - (j + 1), by omega, j + 1, rfl, by omega, rfl, _, hD.swap (by omega) (by omega), by rw [size_swp]; exact hz, hJ, hD.mswap hM (by omega) _ _⟩
                            · rw [if_neg hl] at fin
                              simp [hl, e0, e1, e2, e7, e8]
                              exact fin rfl _ hD hM
                          · rw [up_end _ hjb] at fin
                            simp [e2, e10, hjb, e0, e1, e7, e8]
                            exact fin rfl _ hD hM
                      · have g2 : ¬ (2 : Int) ≤ ((b - i : Nat) : Int) := by omega
                        rw [if_neg hup] at hE
                        simp [e0, e1, e2, e7, e8, wd_, g2]
                        exact ⟨5 - (st + 1), by omega, st + 1, rfl, by omega, i, hi, by omega, rfl, wnat _ _ (by omega) (by omega), d2, hD, hz, by rw [← hE]; congr 1; omega, hM⟩
              · have g3 : ¬ (2 : Int) ≤ ((i - a : Nat) : Int) := by omega
                rw [if_neg hdn] at hst2
                simp [e2, e7, g3]
                obtain ⟨d2, hd2⟩ : ∃ d2, d2 = Sort.swp dk i p := ⟨_, rfl⟩
                rw [← hd2] at hst2 hz hD
                have hE := hst2.symm
                by_cases hup : 2 ≤ b - i
                · have g2 : (2 : Int) ≤ ((b - i : Nat) : Int) := by omega
                  rw [if_pos hup] at hE
                  simp [e7, wd_, g2, wi_]
                  refine WC_loop (fun k ρ ds w' => ∃ (j : Nat) (dj : Array Int), k = b - j ∧ i + 1 ≤ j ∧ ρ 0 = v ∧ ρ 1 = .int .i64 a ∧ ρ 2 = .int .i64 b ∧ ρ 7 = .int .i64 i ∧ ρ 8 = .int .i64 st ∧ ρ 10 = .int .i64 j ∧ ds = [] ∧ Suint32.A w' v dj ∧ dj.size = d.size ∧
                    Sort.shiftUp Sort.ltInt b j dj = Sort.shiftUp Sort.ltInt b (i + 1) d2 ∧ Mod (Sv v) w w') (b - (i + 1)) ⟨i + 1, d2, ?_⟩ ?_
                  · simp [e0, e1, e2, e7, e8]
                    exact ⟨hD, hz, hM⟩
                  · rintro k ρ ds w5 ⟨j, dj, rfl, hj1, e0, e1, e2, e7, e8, e10, rfl, hD, hz, hJ, hM⟩
                    have fin : Sort.shiftUp Sort.ltInt b j dj = dj → ∀ W, Suint32.A W v dj → Mod (Sv v) w W → ∃ m', m' < 5 - st ∧ ∃ st' : Nat, m' = 5 - st' ∧ st' ≤ 5 ∧ ∃ x : Nat, a + 1 ≤ x ∧ x ≤ b ∧ (i : Int) = x ∧ IntKind.i64.wrap ((st : Int) + 1) = st' ∧ ∃ dk', Suint32.A W v dk' ∧ dk'.size = d.size ∧
                        Sort.partialIns Sort.ltInt a b (5 - st') x dk' = Sort.partialInsertionSort Sort.ltInt d a b ∧ Mod (Sv v) w W := by
                      intro hs W hDW hMW
                      exact ⟨5 - (st + 1), by omega, st + 1, rfl, by omega, i, hi, by omega, rfl, wnat _ _ (by omega) (by omega), dj, hDW, hz, by rw [← hE, ← hJ, hs]; congr 1; omega, hMW⟩
                    by_cases hjb : j < b
                    · obtain ⟨p, hp⟩ : ∃ p, j = p + 1 := ⟨j - 1, by omega⟩
                      have ew : IntKind.i64.wrap ((j : Int) - 1) = (p : Int) := wnat _ _ (by omega) (by omega)
                      have ew2 : IntKind.i64.wrap ((j : Int) + 1) = ((j + 1 : Nat) : Int) := wnat _ _ (by omega) (by omega)
                      have i1 := Suint32.ix hD j (by omega)
                      have i2 := Suint32.ix hD p (by omega)
                      simp [e2, e10, hjb]
                      refine WC_drQ 9 rfl (by kernel_rfl) fun W hW => ?_
                      replace hD := hD.dr hW
                      replace hM := hM.dr hW
                      obtain ⟨c1, c2, -⟩ := hD.facts j p (by omega) (by omega)
                      simp [e0, e10, i1, i2, ew, c1, c2]
                      refine FN.mono (Suint32.less_c (at_ dj j) (at_ dj p) W) ?_
                      rintro _ _ ⟨rfl, rfl⟩
                      simp
                      rw [up_step _ hjb hp] at hJ fin
                      by_cases hl : Sort.ltInt (at_ dj j) (at_ dj p) = true
                      · rw [if_pos hl] at hJ
                        simp [hl]
                        refine WC_drS 15 rfl (by kernel_rfl) fun W' hW' => ?_
                        replace hD := hD.dr hW'
                        replace hM := hM.dr hW'
                        obtain ⟨c1, c2, f1, c3, f2⟩ := hD.facts j p (by omega) (by omega)
                        simp [e0, e10, i1, i2, ew, c1, c2, f1, c3, f2, e1, e2, e7, e8]
                        rw [ew2]
                        exact ⟨b - (j + 1), by omega, j + 1, rfl, by omega, rfl, _, hD.swap (by omega) (by omega), by rw [size_swp]; exact hz, hJ, hD.mswap hM (by omega) _ _⟩
                      · rw [if_neg hl] at fin
                        simp [hl, e0, e1, e2, e7, e8]
                        exact fin rfl _ hD hM
                    · rw [up_end _ hjb] at fin
                      simp [e2, e10, hjb, e0, e1, e7, e8]
                      exact fin rfl _ hD hM
                · have g2 : ¬ (2 : Int) ≤ ((b - i : Nat) : Int) := by omega
                  rw [if_neg hup] at hE
                  simp [e0, e1, e2, e7, e8, wd_, g2]
                  exact ⟨5 - (st + 1), by omega, st + 1, rfl, by omega, i, hi, by omega, rfl, wnat _ _ (by omega) (by omega), d2, hD, hz, by rw [← hE]; congr 1; omega, hM⟩
          · have hl' : Sort.ltInt (at_ dk i) (at_ dk p) = false := Bool.eq_false_iff.2 hl
            rw [← scan_go _ hlt hp hl'] at hS
            simp [hl', e0, e1, e2, e7, e8]
            rw [ew2]
            exact ⟨b - (i + 1), by omega, i + 1, rfl, by omega, by omega, rfl, hD, hS, hM⟩
        · have hbi : b = i := by omega
          rw [scan_end _ hp (.inl hlt)] at hS
          have hst2 := pis_step Sort.ltInt a b s i0 dk hS
          rw [hs] at hI
          rw [hI, if_pos (by omega)] at hst2
          have gib : ((i : Int) == (b : Int)) = true := by simp; omega
          simp [e2, e7, hlt, gib]
          rw [hst2]
          exact ⟨rfl, hD, hM⟩
    · have g5 : ¬ (st : Int) < 5 := by omega
      have : 5 - st = 0 := by omega
      rw [this, pis_end] at hI
      simp [e8, g5]
      rw [← hI]
      exact ⟨rfl, hD, hM⟩
end Go.Proofs
