/-
  Contracts of the functions that the law reaches, step by step.
-/
import Derived.Test.YtfppepjaopbanaaSrtH
namespace Go.Proofs
open Pk
set_option maxRecDepth 10000
set_option maxHeartbeats 8000000 in
theorem Suint32.part_c {w : World} {v : Value} {d : Array Int} {a b pivot : Nat} (hA : Suint32.A w v d) (hap : a ≤ pivot) (hpb : pivot < b) (hb : b ≤ d.size) (hn : d.size ≤ 1048576) :
    FN Try.prog 82 [v, .int .i64 a, .int .i64 b, .int .i64 pivot] w fun e w' => (∃ fl, e = .returned (.tuple #[.int .i64 (Sort.partition Sort.ltInt d a b pivot).1, .bool fl])) ∧ Suint32.A w' v (Sort.partition Sort.ltInt d a b pivot).2.2 ∧ Mod (Sv v) w w' := by
  refine FN_enter Try.func82 rfl rfl (by kernel_rfl) ?_
  have w1_ : IntKind.i64.wrap ((a : Int) + 1) = ((a + 1 : Nat) : Int) := wnat _ _ (by omega) (by omega)
  have w2_ : IntKind.i64.wrap ((b : Int) - 1) = ((b - 1 : Nat) : Int) := wnat _ _ (by omega) (by omega)
  have ia := Suint32.ix hA a (by omega)
  have ip := Suint32.ix hA pivot (by omega)
  simp
  refine WC_drS 13 rfl (by kernel_rfl) fun W hW => ?_
  have hD := hA.dr hW
  have hM : Mod (Sv v) w W := (Mod.refl _ _).dr hW
  obtain ⟨c1, c2, f1, c3, f2⟩ := hD.facts a pivot (by omega) (by omega)
  simp [ia, ip, c1, c2, f1, c3, f2]
  rw [w1_, w2_]
  replace hM := hD.mswap (j := pivot) hM (i := a) (by omega) (.int .u32 (at_ d pivot)) (.int .u32 (at_ d a))
  replace hD := hD.swap (i := a) (j := pivot) (by omega) (by omega)
  obtain ⟨dk, hdk⟩ : ∃ dk, dk = Sort.swp d a pivot := ⟨_, rfl⟩
  obtain ⟨i, hi⟩ : ∃ i, i = a + 1 := ⟨_, rfl⟩
  obtain ⟨j, hj⟩ : ∃ j, j = b - 1 := ⟨_, rfl⟩
  have hI : Sort.partLoop Sort.ltInt a i j dk = Sort.partLoop Sort.ltInt a (a + 1) (b - 1) (Sort.swp d a pivot) := by rw [hi, hj, hdk]
  have hz : dk.size = d.size := by rw [hdk]; exact size_swp _ _ _
  rw [← hdk] at hD
  rw [← hi, ← hj]
  have hai : a < i := by omega
  have hij : i ≤ j + 1 := by omega
  have hjb : j < b := by omega
  clear hdk c1 c2 f1 c3 f2
  refine WC_gen (fun σ => σ 0 = v ∧ σ 1 = .int .i64 a ∧ σ 10 = .int .i64 i ∧ σ 11 = .int .i64 j) (by simp) fun σ ⟨e0, e1, ei, ej⟩ => ?_
  refine WC_loop (fun k ρ ds w' => ∃ i2 : Nat, k = j + 1 - i2 ∧ i ≤ i2 ∧ i2 ≤ j + 1 ∧ ρ 0 = v ∧ ρ 1 = .int .i64 a ∧ ρ 10 = .int .i64 i2 ∧ ρ 11 = .int .i64 j ∧ ds = [] ∧ Suint32.A w' v dk ∧
    Sort.scanUp (fun x => Sort.ltInt x dk[a]!) dk j i2 = Sort.scanUp (fun x => Sort.ltInt x dk[a]!) dk j i ∧ Mod (Sv v) w w') (j + 1 - i) ⟨i, ?_⟩ ?_
  · simp [e0, e1, ei, ej]
    exact ⟨hij, hD, hM⟩
  · rintro k ρ ds w2 ⟨i2, rfl, hi2, hij2, e0, e1, ei, ej, rfl, hD, hS, hM⟩
    have wi_ : IntKind.i64.wrap ((i2 : Int) + 1) = ((i2 + 1 : Nat) : Int) := wnat _ _ (by omega) (by omega)
    have ia := Suint32.ix hD a (by omega)
    simp
    refine WC_drQ 12 rfl (by kernel_rfl) fun W hW => ?_
    replace hD := hD.dr hW
    replace hM := hM.dr hW
    by_cases hle : i2 ≤ j
    · have ii := Suint32.ix hD i2 (by omega)
      obtain ⟨ca, ci, -⟩ := hD.facts a i2 (by omega) (by omega)
      simp [e0, e1, ei, ej, hle, ia, ii, ca, ci]
      refine FN.mono (Suint32.less_c (at_ dk i2) (at_ dk a) W) ?_
      rintro _ _ ⟨rfl, rfl⟩
      simp
      by_cases hl : Sort.ltInt (at_ dk i2) (at_ dk a) = true
      · rw [← su_go (fun x => Sort.ltInt x dk[a]!) hle (by simpa [at_] using hl)] at hS
        simp [hl, e0, e1, ei, ej]
        rw [wi_]
        exact ⟨j + 1 - (i2 + 1), by omega, i2 + 1, rfl, by omega, by omega, rfl, hD, hS, hM⟩
      · replace hl := (Bool.eq_not).2 hl
        simp only [Bool.not_true] at hl
        have hu : i2 ≤ j → Sort.ltInt (at_ dk i2) (at_ dk a) = !true := fun _ => hl
        rw [su_end (fun x => Sort.ltInt x dk[a]!) (.inr (by simpa [at_] using hl))] at hS
        simp [hl]
        refine WC_loop (fun k ρ ds w' => ∃ j2 : Nat, k = j2 ∧ j2 ≤ j ∧ i2 ≤ j2 + 1 ∧ ρ 0 = v ∧ ρ 1 = .int .i64 a ∧ ρ 10 = .int .i64 i2 ∧ ρ 11 = .int .i64 j2 ∧ ds = [] ∧ Suint32.A w' v dk ∧
          Sort.scanDown (fun x => !Sort.ltInt x dk[a]!) dk i2 j2 = Sort.scanDown (fun x => !Sort.ltInt x dk[a]!) dk i2 j ∧ Mod (Sv v) w w') j ⟨j, ?_⟩ ?_
        · simp [e0, e1, ei, ej]
          exact ⟨hij2, hD, hM⟩
        · rintro k ρ ds w2 ⟨j2, rfl, hj2, hij3, e0, e1, ei, ej, rfl, hD, hT, hM⟩
          have ia := Suint32.ix hD a (by omega)
          simp
          refine WC_drQ 12 rfl (by kernel_rfl) fun W hW => ?_
          replace hD := hD.dr hW
          replace hM := hM.dr hW
          by_cases hle : i2 ≤ k
          · obtain ⟨p, hp⟩ : ∃ p, k = p + 1 := ⟨k - 1, by omega⟩
            have wj_ : IntKind.i64.wrap ((k : Int) - 1) = (p : Int) := wnat _ _ (by omega) (by omega)
            have ik := Suint32.ix hD k (by omega)
            obtain ⟨ca, ck, -⟩ := hD.facts a k (by omega) (by omega)
            simp [e0, e1, ei, ej, hle, ia, ik, ca, ck]
            refine FN.mono (Suint32.less_c (at_ dk k) (at_ dk a) W) ?_
            rintro _ _ ⟨rfl, rfl⟩
            simp
            by_cases hl2 : Sort.ltInt (at_ dk k) (at_ dk a) = false
            · rw [← sd_go (fun x => !Sort.ltInt x dk[a]!) hle hp (by simpa [at_] using hl2)] at hT
              simp [hl2, e0, e1, ei, ej, wj_]
              exact ⟨p, by omega, by omega, by omega, rfl, hD, hT, hM⟩
            · replace hl2 := (Bool.eq_not).2 hl2
              simp only [Bool.not_false] at hl2
              have hd : i2 ≤ k → Sort.ltInt (at_ dk k) (at_ dk a) = !false := fun _ => hl2
              rw [sd_end (fun x => !Sort.ltInt x dk[a]!) (.inr (by simpa [at_] using hl2))] at hT
              simp [hl2]
              rw [Sort.partLoop_eq, ← hS] at hI
              have hT' : k = Sort.scanDown (fun x => !Sort.ltInt x dk[a]!) dk i2 j := hT
              rw [← hT'] at hI
              by_cases hgt : k < i2
              · have ia := Suint32.ix hD a (by omega)
                have ik := Suint32.ix hD k (by omega)
                rw [if_pos hgt] at hI
                simp [ei, ej, hgt]
                refine WC_drS 13 rfl (by kernel_rfl) fun W2 hW2 => ?_
                replace hD := hD.dr hW2
                replace hM := hM.dr hW2
                obtain ⟨c1, c2, f1, c3, f2⟩ := hD.facts k a (by omega) (by omega)
                simp [e0, e1, ej, ia, ik, c1, c2, f1, c3, f2]
                rw [Sort.partition_fst, Sort.partition_arr, ← hI]
                exact ⟨rfl, hD.swap (by omega) (by omega), hD.mswap hM (by omega) _ _⟩
              · rw [if_neg hgt] at hI
                have hne : i2 ≠ k := fun e => by
                  have h1 := hu (by omega)
                  have h2 := hd (by omega)
                  rw [e] at h1; rw [h1] at h2; cases h2
                have wi2_ : IntKind.i64.wrap ((i2 : Int) + 1) = ((i2 + 1 : Nat) : Int) := wnat _ _ (by omega) (by omega)
                have wk_ : IntKind.i64.wrap ((k : Int) - 1) = ((k - 1 : Nat) : Int) := wnat _ _ (by omega) (by omega)
                have ii := Suint32.ix hD i2 (by omega)
                have ik := Suint32.ix hD k (by omega)
                simp [ei, ej, hgt]
                refine WC_drS 13 rfl (by kernel_rfl) fun W2 hW2 => ?_
                replace hD := hD.dr hW2
                replace hM := hM.dr hW2
                obtain ⟨c1, c2, f1, c3, f2⟩ := hD.facts i2 k (by omega) (by omega)
                have hD2 := hD.swap (i := i2) (j := k) (by omega) (by omega)
                have hM2 := hD.mswap (j := k) hM (i := i2) (by omega) (.int .u32 (at_ dk k)) (.int .u32 (at_ dk i2))
                simp [e0, ei, ej, ii, ik, c1, c2, f1, c3, f2]
                rw [wi2_, wk_]
                refine WC_loop (fun k ρ ds w' => ∃ (i j : Nat) (dk : Array Int), k = j + 1 - i ∧ a < i ∧ i ≤ j + 1 ∧ j < b ∧ ρ 0 = v ∧ ρ 1 = .int .i64 a ∧ ρ 10 = .int .i64 i ∧ ρ 11 = .int .i64 j ∧ ds = [] ∧ Suint32.A w' v dk ∧ dk.size = d.size ∧
                  Sort.partLoop Sort.ltInt a i j dk = Sort.partLoop Sort.ltInt a (a + 1) (b - 1) (Sort.swp d a pivot) ∧ Mod (Sv v) w w') (k - 1 + 1 - (i2 + 1)) ⟨i2 + 1, k - 1, Sort.swp dk i2 k, ?_⟩ ?_
                · simp [e0, e1]
                  exact ⟨by omega, by omega, by omega, hD2, by rw [size_swp]; exact hz, hI, hM2⟩
                · rintro kk ρ ds w1 ⟨i, j, dk, rfl, hai, hij, hjb, e0, e1, ei, ej, rfl, hD, hz, hI, hM⟩
                  simp
                  refine WC_loop (fun k ρ ds w' => ∃ i2 : Nat, k = j + 1 - i2 ∧ i ≤ i2 ∧ i2 ≤ j + 1 ∧ ρ 0 = v ∧ ρ 1 = .int .i64 a ∧ ρ 10 = .int .i64 i2 ∧ ρ 11 = .int .i64 j ∧ ds = [] ∧ Suint32.A w' v dk ∧
                    Sort.scanUp (fun x => Sort.ltInt x dk[a]!) dk j i2 = Sort.scanUp (fun x => Sort.ltInt x dk[a]!) dk j i ∧ Mod (Sv v) w w') (j + 1 - i) ⟨i, ?_⟩ ?_
                  · simp [e0, e1, ei, ej]
                    exact ⟨hij, hD, hM⟩
                  · rintro k ρ ds w2 ⟨i2, rfl, hi2, hij2, e0, e1, ei, ej, rfl, hD, hS, hM⟩
                    have wi_ : IntKind.i64.wrap ((i2 : Int) + 1) = ((i2 + 1 : Nat) : Int) := wnat _ _ (by omega) (by omega)
                    have ia := Suint32.ix hD a (by omega)
                    simp
                    refine WC_drQ 12 rfl (by kernel_rfl) fun W hW => ?_
                    replace hD := hD.dr hW
                    replace hM := hM.dr hW
                    by_cases hle : i2 ≤ j
                    · have ii := Suint32.ix hD i2 (by omega)
                      obtain ⟨ca, ci, -⟩ := hD.facts a i2 (by omega) (by omega)
                      simp [e0, e1, ei, ej, hle, ia, ii, ca, ci]
                      refine FN.mono (Suint32.less_c (at_ dk i2) (at_ dk a) W) ?_
                      rintro _ _ ⟨rfl, rfl⟩
                      simp
                      by_cases hl : Sort.ltInt (at_ dk i2) (at_ dk a) = true
                      · rw [← su_go (fun x => Sort.ltInt x dk[a]!) hle (by simpa [at_] using hl)] at hS
                        simp [hl, e0, e1, ei, ej]
                        rw [wi_]
                        exact ⟨j + 1 - (i2 + 1), by omega, i2 + 1, rfl, by omega, by omega, rfl, hD, hS, hM⟩
                      · replace hl := (Bool.eq_not).2 hl
                        simp only [Bool.not_true] at hl
                        have hu : i2 ≤ j → Sort.ltInt (at_ dk i2) (at_ dk a) = !true := fun _ => hl
                        rw [su_end (fun x => Sort.ltInt x dk[a]!) (.inr (by simpa [at_] using hl))] at hS
                        simp [hl]
                        refine WC_loop (fun k ρ ds w' => ∃ j2 : Nat, k = j2 ∧ j2 ≤ j ∧ i2 ≤ j2 + 1 ∧ ρ 0 = v ∧ ρ 1 = .int .i64 a ∧ ρ 10 = .int .i64 i2 ∧ ρ 11 = .int .i64 j2 ∧ ds = [] ∧ Suint32.A w' v dk ∧
                          Sort.scanDown (fun x => !Sort.ltInt x dk[a]!) dk i2 j2 = Sort.scanDown (fun x => !Sort.ltInt x dk[a]!) dk i2 j ∧ Mod (Sv v) w w') j ⟨j, ?_⟩ ?_
                        · simp [e0, e1, ei, ej]
                          exact ⟨hij2, hD, hM⟩
                        · rintro k ρ ds w2 ⟨j2, rfl, hj2, hij3, e0, e1, ei, ej, rfl, hD, hT, hM⟩
                          have ia := Suint32.ix hD a (by omega)
                          simp
                          refine WC_drQ 12 rfl (by kernel_rfl) fun W hW => ?_
                          replace hD := hD.dr hW
                          replace hM := hM.dr hW
                          by_cases hle : i2 ≤ k
                          · obtain ⟨p, hp⟩ : ∃ p, k = p + 1 := ⟨k - 1, by omega⟩
                            have wj_ : IntKind.i64.wrap ((k : Int) - 1) = (p : Int) := wnat _ _ (by omega) (by omega)
                            have ik := Suint32.ix hD k (by omega)
                            obtain ⟨ca, ck, -⟩ := hD.facts a k (by omega) (by omega)
                            simp [e0, e1, ei, ej, hle, ia, ik, ca, ck]
                            refine FN.mono (Suint32.less_c (at_ dk k) (at_ dk a) W) ?_
                            rintro _ _ ⟨rfl, rfl⟩
                            simp
                            by_cases hl2 : Sort.ltInt (at_ dk k) (at_ dk a) = false
                            · rw [← sd_go (fun x => !Sort.ltInt x dk[a]!) hle hp (by simpa [at_] using hl2)] at hT
                              simp [hl2, e0, e1, ei, ej, wj_]
                              exact ⟨p, by omega, by omega, by omega, rfl, hD, hT, hM⟩
                            · replace hl2 := (Bool.eq_not).2 hl2
                              simp only [Bool.not_false] at hl2
                              have hd : i2 ≤ k → Sort.ltInt (at_ dk k) (at_ dk a) = !false := fun _ => hl2
                              rw [sd_end (fun x => !Sort.ltInt x dk[a]!) (.inr (by simpa [at_] using hl2))] at hT
                              simp [hl2]
                              rw [Sort.partLoop_eq, ← hS] at hI
                              have hT' : k = Sort.scanDown (fun x => !Sort.ltInt x dk[a]!) dk i2 j := hT
                              rw [← hT'] at hI
                              by_cases hgt : k < i2
                              · have ia := Suint32.ix hD a (by omega)
                                have ik := Suint32.ix hD k (by omega)
                                rw [if_pos hgt] at hI
                                simp [ei, ej, hgt]
                                refine WC_drS 13 rfl (by kernel_rfl) fun W2 hW2 => ?_
                                replace hD := hD.dr hW2
                                replace hM := hM.dr hW2
                                obtain ⟨c1, c2, f1, c3, f2⟩ := hD.facts k a (by omega) (by omega)
                                simp [e0, e1, ej, ia, ik, c1, c2, f1, c3, f2]
                                rw [Sort.partition_fst, Sort.partition_arr, ← hI]
                                exact ⟨rfl, hD.swap (by omega) (by omega), hD.mswap hM (by omega) _ _⟩
                              · rw [if_neg hgt] at hI
                                have hne : i2 ≠ k := fun e => by
                                  have h1 := hu (by omega)
                                  have h2 := hd (by omega)
                                  rw [e] at h1; rw [h1] at h2; cases h2
                                have wi2_ : IntKind.i64.wrap ((i2 : Int) + 1) = ((i2 + 1 : Nat) : Int) := wnat _ _ (by omega) (by omega)
                                have wk_ : IntKind.i64.wrap ((k : Int) - 1) = ((k - 1 : Nat) : Int) := wnat _ _ (by omega) (by omega)
                                have ii := Suint32.ix hD i2 (by omega)
                                have ik := Suint32.ix hD k (by omega)
                                simp [ei, ej, hgt]
                                refine WC_drS 13 rfl (by kernel_rfl) fun W2 hW2 => ?_
                                replace hD := hD.dr hW2
                                replace hM := hM.dr hW2
                                obtain ⟨c1, c2, f1, c3, f2⟩ := hD.facts i2 k (by omega) (by omega)
                                have hD2 := hD.swap (i := i2) (j := k) (by omega) (by omega)
                                have hM2 := hD.mswap (j := k) hM (i := i2) (by omega) (.int .u32 (at_ dk k)) (.int .u32 (at_ dk i2))
                                simp [e0, e1, ei, ej, ii, ik, c1, c2, f1, c3, f2]
                                rw [wi2_, wk_]
                                exact ⟨k - 1 + 1 - (i2 + 1), by omega, i2 + 1, k - 1, rfl, by omega, by omega, by omega, rfl, rfl, _, hD2, by rw [size_swp]; exact hz, hI, hM2⟩
                          · have hd : i2 ≤ k → Sort.ltInt (at_ dk k) (at_ dk a) = !false := fun h => (hle h).elim
                            rw [sd_end (fun x => !Sort.ltInt x dk[a]!) (.inl hle)] at hT
                            simp [ei, ej, hle]
                            rw [Sort.partLoop_eq, ← hS] at hI
                            have hT' : k = Sort.scanDown (fun x => !Sort.ltInt x dk[a]!) dk i2 j := hT
                            rw [← hT'] at hI
                            by_cases hgt : k < i2
                            · have ia := Suint32.ix hD a (by omega)
                              have ik := Suint32.ix hD k (by omega)
                              rw [if_pos hgt] at hI
                              simp [hgt]
                              refine WC_drS 13 rfl (by kernel_rfl) fun W2 hW2 => ?_
                              replace hD := hD.dr hW2
                              replace hM := hM.dr hW2
                              obtain ⟨c1, c2, f1, c3, f2⟩ := hD.facts k a (by omega) (by omega)
                              simp [e0, e1, ej, ia, ik, c1, c2, f1, c3, f2]
                              rw [Sort.partition_fst, Sort.partition_arr, ← hI]
                              exact ⟨rfl, hD.swap (by omega) (by omega), hD.mswap hM (by omega) _ _⟩
                            · rw [if_neg hgt] at hI
                              have hne : i2 ≠ k := fun e => by
                                have h1 := hu (by omega)
                                have h2 := hd (by omega)
                                rw [e] at h1; rw [h1] at h2; cases h2
                              have wi2_ : IntKind.i64.wrap ((i2 : Int) + 1) = ((i2 + 1 : Nat) : Int) := wnat _ _ (by omega) (by omega)
                              have wk_ : IntKind.i64.wrap ((k : Int) - 1) = ((k - 1 : Nat) : Int) := wnat _ _ (by omega) (by omega)
                              have ii := Suint32.ix hD i2 (by omega)
                              have ik := Suint32.ix hD k (by omega)
                              simp [hgt]
                              refine WC_drS 13 rfl (by kernel_rfl) fun W2 hW2 => ?_
                              replace hD := hD.dr hW2
                              replace hM := hM.dr hW2
                              obtain ⟨c1, c2, f1, c3, f2⟩ := hD.facts i2 k (by omega) (by omega)
                              have hD2 := hD.swap (i := i2) (j := k) (by omega) (by omega)
                              have hM2 := hD.mswap (j := k) hM (i := i2) (by omega) (.int .u32 (at_ dk k)) (.int .u32 (at_ dk i2))
                              simp [e0, e1, ei, ej, ii, ik, c1, c2, f1, c3, f2]
                              rw [wi2_, wk_]
                              exact ⟨k - 1 + 1 - (i2 + 1), by omega, i2 + 1, k - 1, rfl, by omega, by omega, by omega, rfl, rfl, _, hD2, by rw [size_swp]; exact hz, hI, hM2⟩
                    · have hu : i2 ≤ j → Sort.ltInt (at_ dk i2) (at_ dk a) = !true := fun h => (hle h).elim
                      rw [su_end (fun x => Sort.ltInt x dk[a]!) (.inl hle)] at hS
                      simp [ei, ej, hle]
                      refine WC_loop (fun k ρ ds w' => ∃ j2 : Nat, k = j2 ∧ j2 ≤ j ∧ i2 ≤ j2 + 1 ∧ ρ 0 = v ∧ ρ 1 = .int .i64 a ∧ ρ 10 = .int .i64 i2 ∧ ρ 11 = .int .i64 j2 ∧ ds = [] ∧ Suint32.A w' v dk ∧
                        Sort.scanDown (fun x => !Sort.ltInt x dk[a]!) dk i2 j2 = Sort.scanDown (fun x => !Sort.ltInt x dk[a]!) dk i2 j ∧ Mod (Sv v) w w') j ⟨j, ?_⟩ ?_
                      · simp [e0, e1, ei, ej]
                        exact ⟨hij2, hD, hM⟩
                      · rintro k ρ ds w2 ⟨j2, rfl, hj2, hij3, e0, e1, ei, ej, rfl, hD, hT, hM⟩
                        have ia := Suint32.ix hD a (by omega)
                        simp
                        refine WC_drQ 12 rfl (by kernel_rfl) fun W hW => ?_
                        replace hD := hD.dr hW
                        replace hM := hM.dr hW
                        by_cases hle : i2 ≤ k
                        · obtain ⟨p, hp⟩ : ∃ p, k = p + 1 := ⟨k - 1, by omega⟩
                          have wj_ : IntKind.i64.wrap ((k : Int) - 1) = (p : Int) := wnat _ _ (by omega) (by omega)
                          have ik := Suint32.ix hD k (by omega)
                          obtain ⟨ca, ck, -⟩ := hD.facts a k (by omega) (by omega)
                          simp [e0, e1, ei, ej, hle, ia, ik, ca, ck]
                          refine FN.mono (Suint32.less_c (at_ dk k) (at_ dk a) W) ?_
                          rintro _ _ ⟨rfl, rfl⟩
                          simp
                          by_cases hl2 : Sort.ltInt (at_ dk k) (at_ dk a) = false
                          · rw [← sd_go (fun x => !Sort.ltInt x dk[a]!) hle hp (by simpa [at_] using hl2)] at hT
                            simp [hl2, e0, e1, ei, ej, wj_]
                            exact ⟨p, by omega, by omega, by omega, rfl, hD, hT, hM⟩
                          · replace hl2 := (Bool.eq_not).2 hl2
                            simp only [Bool.not_false] at hl2
                            have hd : i2 ≤ k → Sort.ltInt (at_ dk k) (at_ dk a) = !false := fun _ => hl2
                            rw [sd_end (fun x => !Sort.ltInt x dk[a]!) (.inr (by simpa [at_] using hl2))] at hT
                            simp [hl2]
                            rw [Sort.partLoop_eq, ← hS] at hI
                            have hT' : k = Sort.scanDown (fun x => !Sort.ltInt x dk[a]!) dk i2 j := hT
                            rw [← hT'] at hI
                            by_cases hgt : k < i2
                            · have ia := Suint32.ix hD a (by omega)
                              have ik := Suint32.ix hD k (by omega)
                              rw [if_pos hgt] at hI
                              simp [ei, ej, hgt]
                              refine WC_drS 13 rfl (by kernel_rfl) fun W2 hW2 => ?_
                              replace hD := hD.dr hW2
                              replace hM := hM.dr hW2
                              obtain ⟨c1, c2, f1, c3, f2⟩ := hD.facts k a (by omega) (by omega)
                              simp [e0, e1, ej, ia, ik, c1, c2, f1, c3, f2]
                              rw [Sort.partition_fst, Sort.partition_arr, ← hI]
                              exact ⟨rfl, hD.swap (by omega) (by omega), hD.mswap hM (by omega) _ _⟩
                            · rw [if_neg hgt] at hI
                              have hne : i2 ≠ k := fun e => by
                                have h1 := hu (by omega)
                                have h2 := hd (by omega)
                                rw [e] at h1; rw [h1] at h2; cases h2
                              have wi2_ : IntKind.i64.wrap ((i2 : Int) + 1) = ((i2 + 1 : Nat) : Int) := wnat _ _ (by omega) (by omega)
                              have wk_ : IntKind.i64.wrap ((k : Int) - 1) = ((k - 1 : Nat) : Int) := wnat _ _ (by omega) (by omega)
                              have ii := Suint32.ix hD i2 (by omega)
                              have ik := Suint32.ix hD k (by omega)
                              simp [ei, ej, hgt]
                              refine WC_drS 13 rfl (by kernel_rfl) fun W2 hW2 => ?_
                              replace hD := hD.dr hW2
                              replace hM := hM.dr hW2
                              obtain ⟨c1, c2, f1, c3, f2⟩ := hD.facts i2 k (by omega) (by omega)
                              have hD2 := hD.swap (i := i2) (j := k) (by omega) (by omega)
                              have hM2 := hD.mswap (j := k) hM (i := i2) (by omega) (.int .u32 (at_ dk k)) (.int .u32 (at_ dk i2))
                              simp [e0, e1, ei, ej, ii, ik, c1, c2, f1, c3, f2]
                              rw [wi2_, wk_]
                              exact ⟨k - 1 + 1 - (i2 + 1), by omega, i2 + 1, k - 1, rfl, by omega, by omega, by omega, rfl, rfl, _, hD2, by rw [size_swp]; exact hz, hI, hM2⟩
                        · have hd : i2 ≤ k → Sort.ltInt (at_ dk k) (at_ dk a) = !false := fun h => (hle h).elim
                          rw [sd_end (fun x => !Sort.ltInt x dk[a]!) (.inl hle)] at hT
                          simp [ei, ej, hle]
                          rw [Sort.partLoop_eq, ← hS] at hI
                          have hT' : k = Sort.scanDown (fun x => !Sort.ltInt x dk[a]!) dk i2 j := hT
                          rw [← hT'] at hI
                          by_cases hgt : k < i2
                          · have ia := Suint32.ix hD a (by omega)
                            have ik := Suint32.ix hD k (by omega)
                            rw [if_pos hgt] at hI
                            simp [hgt]
                            refine WC_drS 13 rfl (by kernel_rfl) fun W2 hW2 => ?_
                            replace hD := hD.dr hW2
                            replace hM := hM.dr hW2
                            obtain ⟨c1, c2, f1, c3, f2⟩ := hD.facts k a (by omega) (by omega)
                            simp [e0, e1, ej, ia, ik, c1, c2, f1, c3, f2]
                            rw [Sort.partition_fst, Sort.partition_arr, ← hI]
                            exact ⟨rfl, hD.swap (by omega) (by omega), hD.mswap hM (by omega) _ _⟩
                          · rw [if_neg hgt] at hI
                            have hne : i2 ≠ k := fun e => by
                              have h1 := hu (by omega)
                              have h2 := hd (by omega)
                              rw [e] at h1; rw [h1] at h2; cases h2
                            have wi2_ : IntKind.i64.wrap ((i2 : Int) + 1) = ((i2 + 1 : Nat) : Int) := wnat _ _ (by omega) (by omega)
                            have wk_ : IntKind.i64.wrap ((k : Int) - 1) = ((k - 1 : Nat) : Int) := wnat _ _ (by omega) (by omega)
                            have ii := Suint32.ix hD i2 (by omega)
                            have ik := Suint32.ix hD k (by omega)
                            simp [hgt]
                            refine WC_drS 13 rfl (by kernel_rfl) fun W2 hW2 => ?_
                            replace hD := hD.dr hW2
                            replace hM := hM.dr hW2
                            obtain ⟨c1, c2, f1, c3, f2⟩ := hD.facts i2 k (by omega) (by omega)
                            have hD2 := hD.swap (i := i2) (j := k) (by omega) (by omega)
                            have hM2 := hD.mswap (j := k) hM (i := i2) (by omega) (.int .u32 (at_ dk k)) (.int .u32 (at_ dk i2))
                            simp [e0, e1, ei, ej, ii, ik, c1, c2, f1, c3, f2]
                            rw [wi2_, wk_]
                            exact ⟨k - 1 + 1 - (i2 + 1), by omega, i2 + 1, k - 1, rfl, by omega, by omega, by omega, rfl, rfl, _, hD2, by rw [size_swp]; exact hz, hI, hM2⟩
          · have hd : i2 ≤ k → Sort.ltInt (at_ dk k) (at_ dk a) = !false := fun h => (hle h).elim
            rw [sd_end (fun x => !Sort.ltInt x dk[a]!) (.inl hle)] at hT
            simp [ei, ej, hle]
            rw [Sort.partLoop_eq, ← hS] at hI
            have hT' : k = Sort.scanDown (fun x => !Sort.ltInt x dk[a]!) dk i2 j := hT
            rw [← hT'] at hI
            by_cases hgt : k < i2
            · have ia := Suint32.ix hD a (by omega)
              have ik := Suint32.ix hD k (by omega)
              rw [if_pos hgt] at hI
              simp [hgt]
              refine WC_drS 13 rfl (by kernel_rfl) fun W2 hW2 => ?_
              replace hD := hD.dr hW2
              replace hM := hM.dr hW2
              obtain ⟨c1, c2, f1, c3, f2⟩ := hD.facts k a (by omega) (by omega)
              simp [e0, e1, ej, ia, ik, c1, c2, f1, c3, f2]
              rw [Sort.partition_fst, Sort.partition_arr, ← hI]
              exact ⟨rfl, hD.swap (by omega) (by omega), hD.mswap hM (by omega) _ _⟩
            · rw [if_neg hgt] at hI
              have hne : i2 ≠ k := fun e => by
                have h1 := hu (by omega)
                have h2 := hd (by omega)
                rw [e] at h1; rw [h1] at h2; cases h2
              have wi2_ : IntKind.i64.wrap ((i2 : Int) + 1) = ((i2 + 1 : Nat) : Int) := wnat _ _ (by omega) (by omega)
              have wk_ : IntKind.i64.wrap ((k : Int) - 1) = ((k - 1 : Nat) : Int) := wnat _ _ (by omega) (by omega)
              have ii := Suint32.ix hD i2 (by omega)
              have ik := Suint32.ix hD k (by omega)
              simp [hgt]
              refine WC_drS 13 rfl (by kernel_rfl) fun W2 hW2 => ?_
              replace hD := hD.dr hW2
              replace hM := hM.dr hW2
              obtain ⟨c1, c2, f1, c3, f2⟩ := hD.facts i2 k (by omega) (by omega)
              have hD2 := hD.swap (i := i2) (j := k) (by omega) (by omega)
              have hM2 := hD.mswap (j := k) hM (i := i2) (by omega) (.int .u32 (at_ dk k)) (.int .u32 (at_ dk i2))
              simp [e0, ei, ej, ii, ik, c1, c2, f1, c3, f2]
              rw [wi2_, wk_]
              refine WC_loop (fun k ρ ds w' => ∃ (i j : Nat) (dk : Array Int), k = j + 1 - i ∧ a < i ∧ i ≤ j + 1 ∧ j < b ∧ ρ 0 = v ∧ ρ 1 = .int .i64 a ∧ ρ 10 = .int .i64 i ∧ ρ 11 = .int .i64 j ∧ ds = [] ∧ Suint32.A w' v dk ∧ dk.size = d.size ∧
                Sort.partLoop Sort.ltInt a i j dk = Sort.partLoop Sort.ltInt a (a + 1) (b - 1) (Sort.swp d a pivot) ∧ Mod (Sv v) w w') (k - 1 + 1 - (i2 + 1)) ⟨i2 + 1, k - 1, Sort.swp dk i2 k, ?_⟩ ?_
              · simp [e0, e1]
                exact ⟨by omega, by omega, by omega, hD2, by rw [size_swp]; exact hz, hI, hM2⟩
              · rintro kk ρ ds w1 ⟨i, j, dk, rfl, hai, hij, hjb, e0, e1, ei, ej, rfl, hD, hz, hI, hM⟩
                simp
                refine WC_loop (fun k ρ ds w' => ∃ i2 : Nat, k = j + 1 - i2 ∧ i ≤ i2 ∧ i2 ≤ j + 1 ∧ ρ 0 = v ∧ ρ 1 = .int .i64 a ∧ ρ 10 = .int .i64 i2 ∧ ρ 11 = .int .i64 j ∧ ds = [] ∧ Suint32.A w' v dk ∧
                  Sort.scanUp (fun x => Sort.ltInt x dk[a]!) dk j i2 = Sort.scanUp (fun x => Sort.ltInt x dk[a]!) dk j i ∧ Mod (Sv v) w w') (j + 1 - i) ⟨i, ?_⟩ ?_
                · simp [e0, e1, ei, ej]
                  exact ⟨hij, hD, hM⟩
                · rintro k ρ ds w2 ⟨i2, rfl, hi2, hij2, e0, e1, ei, ej, rfl, hD, hS, hM⟩
                  have wi_ : IntKind.i64.wrap ((i2 : Int) + 1) = ((i2 + 1 : Nat) : Int) := wnat _ _ (by omega) (by omega)
                  have ia := Suint32.ix hD a (by omega)
                  simp
                  refine WC_drQ 12 rfl (by kernel_rfl) fun W hW => ?_
                  replace hD := hD.dr hW
                  replace hM := hM.dr hW
                  by_cases hle : i2 ≤ j
                  · have ii := Suint32.ix hD i2 (by omega)
                    obtain ⟨ca, ci, -⟩ := hD.facts a i2 (by omega) (by omega)
                    simp [e0, e1, ei, ej, hle, ia, ii, ca, ci]
                    refine FN.mono (Suint32.less_c (at_ dk i2) (at_ dk a) W) ?_
                    rintro _ _ ⟨rfl, rfl⟩
                    simp
                    by_cases hl : Sort.ltInt (at_ dk i2) (at_ dk a) = true
                    · rw [← su_go (fun x => Sort.ltInt x dk[a]!) hle (by simpa [at_] using hl)] at hS
                      simp [hl, e0, e1, ei, ej]
                      rw [wi_]
                      exact ⟨j + 1 - (i2 + 1), by omega, i2 + 1, rfl, by omega, by omega, rfl, hD, hS, hM⟩
                    · replace hl := (Bool.eq_not).2 hl
                      simp only [Bool.not_true] at hl
                      have hu : i2 ≤ j → Sort.ltInt (at_ dk i2) (at_ dk a) = !true := fun _ => hl
                      rw [su_end (fun x => Sort.ltInt x dk[a]!) (.inr (by simpa [at_] using hl))] at hS
                      simp [hl]
                      refine WC_loop (fun k ρ ds w' => ∃ j2 : Nat, k = j2 ∧ j2 ≤ j ∧ i2 ≤ j2 + 1 ∧ ρ 0 = v ∧ ρ 1 = .int .i64 a ∧ ρ 10 = .int .i64 i2 ∧ ρ 11 = .int .i64 j2 ∧ ds = [] ∧ Suint32.A w' v dk ∧
                        Sort.scanDown (fun x => !Sort.ltInt x dk[a]!) dk i2 j2 = Sort.scanDown (fun x => !Sort.ltInt x dk[a]!) dk i2 j ∧ Mod (Sv v) w w') j ⟨j, ?_⟩ ?_
                      · simp [e0, e1, ei, ej]
                        exact ⟨hij2, hD, hM⟩
                      · rintro k ρ ds w2 ⟨j2, rfl, hj2, hij3, e0, e1, ei, ej, rfl, hD, hT, hM⟩
                        have ia := Suint32.ix hD a (by omega)
                        simp
                        refine WC_drQ 12 rfl (by kernel_rfl) fun W hW => ?_
                        replace hD := hD.dr hW
                        replace hM := hM.dr hW
                        by_cases hle : i2 ≤ k
                        · obtain ⟨p, hp⟩ : ∃ p, k = p + 1 := ⟨k - 1, by omega⟩
                          have wj_ : IntKind.i64.wrap ((k : Int) - 1) = (p : Int) := wnat _ _ (by omega) (by omega)
                          have ik := Suint32.ix hD k (by omega)
                          obtain ⟨ca, ck, -⟩ := hD.facts a k (by omega) (by omega)
                          simp [e0, e1, ei, ej, hle, ia, ik, ca, ck]
                          refine FN.mono (Suint32.less_c (at_ dk k) (at_ dk a) W) ?_
                          rintro _ _ ⟨rfl, rfl⟩
                          simp
                          by_cases hl2 : Sort.ltInt (at_ dk k) (at_ dk a) = false
                          · rw [← sd_go (fun x => !Sort.ltInt x dk[a]!) hle hp (by simpa [at_] using hl2)] at hT
                            simp [hl2, e0, e1, ei, ej, wj_]
                            exact ⟨p, by omega, by omega, by omega, rfl, hD, hT, hM⟩
                          · replace hl2 := (Bool.eq_not).2 hl2
                            simp only [Bool.not_false] at hl2
                            have hd : i2 ≤ k → Sort.ltInt (at_ dk k) (at_ dk a) = !false := fun _ => hl2
                            rw [sd_end (fun x => !Sort.ltInt x dk[a]!) (.inr (by simpa [at_] using hl2))] at hT
                            simp [hl2]
                            rw [Sort.partLoop_eq, ← hS] at hI
                            have hT' : k = Sort.scanDown (fun x => !Sort.ltInt x dk[a]!) dk i2 j := hT
                            rw [← hT'] at hI
                            by_cases hgt : k < i2
                            · have ia := Suint32.ix hD a (by omega)
                              have ik := Suint32.ix hD k (by omega)
                              rw [if_pos hgt] at hI
                              simp [ei, ej, hgt]
                              refine WC_drS 13 rfl (by kernel_rfl) fun W2 hW2 => ?_
                              replace hD := hD.dr hW2
                              replace hM := hM.dr hW2
                              obtain ⟨c1, c2, f1, c3, f2⟩ := hD.facts k a (by omega) (by omega)
                              simp [e0, e1, ej, ia, ik, c1, c2, f1, c3, f2]
                              rw [Sort.partition_fst, Sort.partition_arr, ← hI]
                              exact ⟨rfl, hD.swap (by omega) (by omega), hD.mswap hM (by omega) _ _⟩
                            · rw [if_neg hgt] at hI
                              have hne : i2 ≠ k := fun e => by
                                have h1 := hu (by omega)
                                have h2 := hd (by omega)
                                rw [e] at h1; rw [h1] at h2; cases h2
                              have wi2_ : IntKind.i64.wrap ((i2 : Int) + 1) = ((i2 + 1 : Nat) : Int) := wnat _ _ (by omega) (by omega)
                              have wk_ : IntKind.i64.wrap ((k : Int) - 1) = ((k - 1 : Nat) : Int) := wnat _ _ (by omega) (by omega)
                              have ii := Suint32.ix hD i2 (by omega)
                              have ik := Suint32.ix hD k (by omega)
                              simp [ei, ej, hgt]
                              refine WC_drS 13 rfl (by kernel_rfl) fun W2 hW2 => ?_
                              replace hD := hD.dr hW2
                              replace hM := hM.dr hW2
                              obtain ⟨c1, c2, f1, c3, f2⟩ := hD.facts i2 k (by omega) (by omega)
                              have hD2 := hD.swap (i := i2) (j := k) (by omega) (by omega)
                              have hM2 := hD.mswap (j := k) hM (i := i2) (by omega) (.int .u32 (at_ dk k)) (.int .u32 (at_ dk i2))
                              simp [e0, e1, ei, ej, ii, ik, c1, c2, f1, c3, f2]
                              rw [wi2_, wk_]
                              exact ⟨k - 1 + 1 - (i2 + 1), by omega, i2 + 1, k - 1, rfl, by omega, by omega, by omega, rfl, rfl, _, hD2, by rw [size_swp]; exact hz, hI, hM2⟩
                        · have hd : i2 ≤ k → Sort.ltInt (at_ dk k) (at_ dk a) = !false := fun h => (hle h).elim
                          rw [sd_end (fun x => !Sort.ltInt x dk[a]!) (.inl hle)] at hT
                          simp [ei, ej, hle]
                          rw [Sort.partLoop_eq, ← hS] at hI
                          have hT' : k = Sort.scanDown (fun x => !Sort.ltInt x dk[a]!) dk i2 j := hT
                          rw [← hT'] at hI
                          by_cases hgt : k < i2
                          · have ia := Suint32.ix hD a (by omega)
                            have ik := Suint32.ix hD k (by omega)
                            rw [if_pos hgt] at hI
                            simp [hgt]
                            refine WC_drS 13 rfl (by kernel_rfl) fun W2 hW2 => ?_
                            replace hD := hD.dr hW2
                            replace hM := hM.dr hW2
                            obtain ⟨c1, c2, f1, c3, f2⟩ := hD.facts k a (by omega) (by omega)
                            simp [e0, e1, ej, ia, ik, c1, c2, f1, c3, f2]
                            rw [Sort.partition_fst, Sort.partition_arr, ← hI]
                            exact ⟨rfl, hD.swap (by omega) (by omega), hD.mswap hM (by omega) _ _⟩
                          · rw [if_neg hgt] at hI
                            have hne : i2 ≠ k := fun e => by
                              have h1 := hu (by omega)
                              have h2 := hd (by omega)
                              rw [e] at h1; rw [h1] at h2; cases h2
                            have wi2_ : IntKind.i64.wrap ((i2 : Int) + 1) = ((i2 + 1 : Nat) : Int) := wnat _ _ (by omega) (by omega)
                            have wk_ : IntKind.i64.wrap ((k : Int) - 1) = ((k - 1 : Nat) : Int) := wnat _ _ (by omega) (by omega)
                            have ii := Suint32.ix hD i2 (by omega)
                            have ik := Suint32.ix hD k (by omega)
                            simp [hgt]
                            refine WC_drS 13 rfl (by kernel_rfl) fun W2 hW2 => ?_
                            replace hD := hD.dr hW2
                            replace hM := hM.dr hW2
                            obtain ⟨c1, c2, f1, c3, f2⟩ := hD.facts i2 k (by omega) (by omega)
                            have hD2 := hD.swap (i := i2) (j := k) (by omega) (by omega)
                            have hM2 := hD.mswap (j := k) hM (i := i2) (by omega) (.int .u32 (at_ dk k)) (.int .u32 (at_ dk i2))
                            simp [e0, e1, ei, ej, ii, ik, c1, c2, f1, c3, f2]
                            rw [wi2_, wk_]
                            exact ⟨k - 1 + 1 - (i2 + 1), by omega, i2 + 1, k - 1, rfl, by omega, by omega, by omega, rfl, rfl, _, hD2, by rw [size_swp]; exact hz, hI, hM2⟩
                  · have hu : i2 ≤ j → Sort.ltInt (at_ dk i2) (at_ dk a) = !true := fun h => (hle h).elim
                    rw [su_end (fun x => Sort.ltInt x dk[a]!) (.inl hle)] at hS
                    simp [ei, ej, hle]
                    refine WC_loop (fun k ρ ds w' => ∃ j2 : Nat, k = j2 ∧ j2 ≤ j ∧ i2 ≤ j2 + 1 ∧ ρ 0 = v ∧ ρ 1 = .int .i64 a ∧ ρ 10 = .int .i64 i2 ∧ ρ 11 = .int .i64 j2 ∧ ds = [] ∧ Suint32.A w' v dk ∧
                      Sort.scanDown (fun x => !Sort.ltInt x dk[a]!) dk i2 j2 = Sort.scanDown (fun x => !Sort.ltInt x dk[a]!) dk i2 j ∧ Mod (Sv v) w w') j ⟨j, ?_⟩ ?_
                    · simp [e0, e1, ei, ej]
                      exact ⟨hij2, hD, hM⟩
                    · rintro k ρ ds w2 ⟨j2, rfl, hj2, hij3, e0, e1, ei, ej, rfl, hD, hT, hM⟩
                      have ia := Suint32.ix hD a (by omega)
                      simp
                      refine WC_drQ 12 rfl (by kernel_rfl) fun W hW => ?_
                      replace hD := hD.dr hW
                      replace hM := hM.dr hW
                      by_cases hle : i2 ≤ k
                      · obtain ⟨p, hp⟩ : ∃ p, k = p + 1 := ⟨k - 1, by omega⟩
                        have wj_ : IntKind.i64.wrap ((k : Int) - 1) = (p : Int) := wnat _ _ (by omega) (by omega)
                        have ik := Suint32.ix hD k (by omega)
                        obtain ⟨ca, ck, -⟩ := hD.facts a k (by omega) (by omega)
                        simp [e0, e1, ei, ej, hle, ia, ik, ca, ck]
                        refine FN.mono (Suint32.less_c (at_ dk k) (at_ dk a) W) ?_
                        rintro _ _ ⟨rfl, rfl⟩
                        simp
                        by_cases hl2 : Sort.ltInt (at_ dk k) (at_ dk a) = false
                        · rw [← sd_go (fun x => !Sort.ltInt x dk[a]!) hle hp (by simpa [at_] using hl2)] at hT
                          simp [hl2, e0, e1, ei, ej, wj_]
                          exact ⟨p, by omega, by omega, by omega, rfl, hD, hT, hM⟩
                        · replace hl2 := (Bool.eq_not).2 hl2
                          simp only [Bool.not_false] at hl2
                          have hd : i2 ≤ k → Sort.ltInt (at_ dk k) (at_ dk a) = !false := fun _ => hl2
                          rw [sd_end (fun x => !Sort.ltInt x dk[a]!) (.inr (by simpa [at_] using hl2))] at hT
                          simp [hl2]
                          rw [Sort.partLoop_eq, ← hS] at hI
                          have hT' : k = Sort.scanDown (fun x => !Sort.ltInt x dk[a]!) dk i2 j := hT
                          rw [← hT'] at hI
                          by_cases hgt : k < i2
                          · have ia := Suint32.ix hD a (by omega)
                            have ik := Suint32.ix hD k (by omega)
                            rw [if_pos hgt] at hI
                            simp [ei, ej, hgt]
                            refine WC_drS 13 rfl (by kernel_rfl) fun W2 hW2 => ?_
                            replace hD := hD.dr hW2
                            replace hM := hM.dr hW2
                            obtain ⟨c1, c2, f1, c3, f2⟩ := hD.facts k a (by omega) (by omega)
                            simp [e0, e1, ej, ia, ik, c1, c2, f1, c3, f2]
                            rw [Sort.partition_fst, Sort.partition_arr, ← hI]
                            exact ⟨rfl, hD.swap (by omega) (by omega), hD.mswap hM (by omega) _ _⟩
                          · rw [if_neg hgt] at hI
                            have hne : i2 ≠ k := fun e => by
                              have h1 := hu (by omega)
                              have h2 := hd (by omega)
                              rw [e] at h1; rw [h1] at h2; cases h2
                            have wi2_ : IntKind.i64.wrap ((i2 : Int) + 1) = ((i2 + 1 : Nat) : Int) := wnat _ _ (by omega) (by omega)
                            have wk_ : IntKind.i64.wrap ((k : Int) - 1) = ((k - 1 : Nat) : Int) := wnat _ _ (by omega) (by omega)
                            have ii := Suint32.ix hD i2 (by omega)
                            have ik := Suint32.ix hD k (by omega)
                            simp [ei, ej, hgt]
                            refine WC_drS 13 rfl (by kernel_rfl) fun W2 hW2 => ?_
                            replace hD := hD.dr hW2
                            replace hM := hM.dr hW2
                            obtain ⟨c1, c2, f1, c3, f2⟩ := hD.facts i2 k (by omega) (by omega)
                            have hD2 := hD.swap (i := i2) (j := k) (by omega) (by omega)
                            have hM2 := hD.mswap (j := k) hM (i := i2) (by omega) (.int .u32 (at_ dk k)) (.int .u32 (at_ dk i2))
                            simp [e0, e1, ei, ej, ii, ik, c1, c2, f1, c3, f2]
                            rw [wi2_, wk_]
                            exact ⟨k - 1 + 1 - (i2 + 1), by omega, i2 + 1, k - 1, rfl, by omega, by omega, by omega, rfl, rfl, _, hD2, by rw [size_swp]; exact hz, hI, hM2⟩
                      · have hd : i2 ≤ k → Sort.ltInt (at_ dk k) (at_ dk a) = !false := fun h => (hle h).elim
                        rw [sd_end (fun x => !Sort.ltInt x dk[a]!) (.inl hle)] at hT
                        simp [ei, ej, hle]
                        rw [Sort.partLoop_eq, ← hS] at hI
                        have hT' : k = Sort.scanDown (fun x => !Sort.ltInt x dk[a]!) dk i2 j := hT
                        rw [← hT'] at hI
                        by_cases hgt : k < i2
                        · have ia := Suint32.ix hD a (by omega)
                          have ik := Suint32.ix hD k (by omega)
                          rw [if_pos hgt] at hI
                          simp [hgt]
                          refine WC_drS 13 rfl (by kernel_rfl) fun W2 hW2 => ?_
                          replace hD := hD.dr hW2
                          replace hM := hM.dr hW2
                          obtain ⟨c1, c2, f1, c3, f2⟩ := hD.facts k a (by omega) (by omega)
                          simp [e0, e1, ej, ia, ik, c1, c2, f1, c3, f2]
                          rw [Sort.partition_fst, Sort.partition_arr, ← hI]
                          exact ⟨rfl, hD.swap (by omega) (by omega), hD.mswap hM (by omega) _ _⟩
                        · rw [if_neg hgt] at hI
                          have hne : i2 ≠ k := fun e => by
                            have h1 := hu (by omega)
                            have h2 := hd (by omega)
                            rw [e] at h1; rw [h1] at h2; cases h2
                          have wi2_ : IntKind.i64.wrap ((i2 : Int) + 1) = ((i2 + 1 : Nat) : Int) := wnat _ _ (by omega) (by omega)
                          have wk_ : IntKind.i64.wrap ((k : Int) - 1) = ((k - 1 : Nat) : Int) := wnat _ _ (by omega) (by omega)
                          have ii := Suint32.ix hD i2 (by omega)
                          have ik := Suint32.ix hD k (by omega)
                          simp [hgt]
                          refine WC_drS 13 rfl (by kernel_rfl) fun W2 hW2 => ?_
                          replace hD := hD.dr hW2
                          replace hM := hM.dr hW2
                          obtain ⟨c1, c2, f1, c3, f2⟩ := hD.facts i2 k (by omega) (by omega)
                          have hD2 := hD.swap (i := i2) (j := k) (by omega) (by omega)
                          have hM2 := hD.mswap (j := k) hM (i := i2) (by omega) (.int .u32 (at_ dk k)) (.int .u32 (at_ dk i2))
                          simp [e0, e1, ei, ej, ii, ik, c1, c2, f1, c3, f2]
                          rw [wi2_, wk_]
                          exact ⟨k - 1 + 1 - (i2 + 1), by omega, i2 + 1, k - 1, rfl, by omega, by omega, by omega, rfl, rfl, _, hD2, by rw [size_swp]; exact hz, hI, hM2⟩
    · have hu : i2 ≤ j → Sort.ltInt (at_ dk i2) (at_ dk a) = !true := fun h => (hle h).elim
      rw [su_end (fun x => Sort.ltInt x dk[a]!) (.inl hle)] at hS
      simp [ei, ej, hle]
      refine WC_loop (fun k ρ ds w' => ∃ j2 : Nat, k = j2 ∧ j2 ≤ j ∧ i2 ≤ j2 + 1 ∧ ρ 0 = v ∧ ρ 1 = .int .i64 a ∧ ρ 10 = .int .i64 i2 ∧ ρ 11 = .int .i64 j2 ∧ ds = [] ∧ Suint32.A w' v dk ∧
        Sort.scanDown (fun x => !Sort.ltInt x dk[a]!) dk i2 j2 = Sort.scanDown (fun x => !Sort.ltInt x dk[a]!) dk i2 j ∧ Mod (Sv v) w w') j ⟨j, ?_⟩ ?_
      · simp [e0, e1, ei, ej]
        exact ⟨hij2, hD, hM⟩
      · rintro k ρ ds w2 ⟨j2, rfl, hj2, hij3, e0, e1, ei, ej, rfl, hD, hT, hM⟩
        have ia := Suint32.ix hD a (by omega)
        simp
        refine WC_drQ 12 rfl (by kernel_rfl) fun W hW => ?_
        replace hD := hD.dr hW
        replace hM := hM.dr hW
        by_cases hle : i2 ≤ k
        · obtain ⟨p, hp⟩ : ∃ p, k = p + 1 := ⟨k - 1, by omega⟩
          have wj_ : IntKind.i64.wrap ((k : Int) - 1) = (p : Int) := wnat _ _ (by omega) (by omega)
          have ik := Suint32.ix hD k (by omega)
          obtain ⟨ca, ck, -⟩ := hD.facts a k (by omega) (by omega)
          simp [e0, e1, ei, ej, hle, ia, ik, ca, ck]
          refine FN.mono (Suint32.less_c (at_ dk k) (at_ dk a) W) ?_
          rintro _ _ ⟨rfl, rfl⟩
          simp
          by_cases hl2 : Sort.ltInt (at_ dk k) (at_ dk a) = false
          · rw [← sd_go (fun x => !Sort.ltInt x dk[a]!) hle hp (by simpa [at_] using hl2)] at hT
            simp [hl2, e0, e1, ei, ej, wj_]
            exact ⟨p, by omega, by omega, by omega, rfl, hD, hT, hM⟩
          · replace hl2 := (Bool.eq_not).2 hl2
            simp only [Bool.not_false] at hl2
            have hd : i2 ≤ k → Sort.ltInt (at_ dk k) (at_ dk a) = !false := fun _ => hl2
            rw [sd_end (fun x => !Sort.ltInt x dk[a]!) (.inr (by simpa [at_] using hl2))] at hT
            simp [hl2]
            rw [Sort.partLoop_eq, ← hS] at hI
            have hT' : k = Sort.scanDown (fun x => !Sort.ltInt x dk[a]!) dk i2 j := hT
            rw [← hT'] at hI
            by_cases hgt : k < i2
            · have ia := Suint32.ix hD a (by omega)
              have ik := Suint32.ix hD k (by omega)
              rw [if_pos hgt] at hI
              simp [ei, ej, hgt]
              refine WC_drS 13 rfl (by kernel_rfl) fun W2 hW2 => ?_
              replace hD := hD.dr hW2
              replace hM := hM.dr hW2
              obtain ⟨c1, c2, f1, c3, f2⟩ := hD.facts k a (by omega) (by omega)
              simp [e0, e1, ej, ia, ik, c1, c2, f1, c3, f2]
              rw [Sort.partition_fst, Sort.partition_arr, ← hI]
              exact ⟨rfl, hD.swap (by omega) (by omega), hD.mswap hM (by omega) _ _⟩
            · rw [if_neg hgt] at hI
              have hne : i2 ≠ k := fun e => by
                have h1 := hu (by omega)
                have h2 := hd (by omega)
                rw [e] at h1; rw [h1] at h2; cases h2
              have wi2_ : IntKind.i64.wrap ((i2 : Int) + 1) = ((i2 + 1 : Nat) : Int) := wnat _ _ (by omega) (by omega)
              have wk_ : IntKind.i64.wrap ((k : Int) - 1) = ((k - 1 : Nat) : Int) := wnat _ _ (by omega) (by omega)
              have ii := Suint32.ix hD i2 (by omega)
              have ik := Suint32.ix hD k (by omega)
              simp [ei, ej, hgt]
              refine WC_drS 13 rfl (by kernel_rfl) fun W2 hW2 => ?_
              replace hD := hD.dr hW2
              replace hM := hM.dr hW2
              obtain ⟨c1, c2, f1, c3, f2⟩ := hD.facts i2 k (by omega) (by omega)
              have hD2 := hD.swap (i := i2) (j := k) (by omega) (by omega)
              have hM2 := hD.mswap (j := k) hM (i := i2) (by omega) (.int .u32 (at_ dk k)) (.int .u32 (at_ dk i2))
              simp [e0, ei, ej, ii, ik, c1, c2, f1, c3, f2]
              rw [wi2_, wk_]
              refine WC_loop (fun k ρ ds w' => ∃ (i j : Nat) (dk : Array Int), k = j + 1 - i ∧ a < i ∧ i ≤ j + 1 ∧ j < b ∧ ρ 0 = v ∧ ρ 1 = .int .i64 a ∧ ρ 10 = .int .i64 i ∧ ρ 11 = .int .i64 j ∧ ds = [] ∧ Suint32.A w' v dk ∧ dk.size = d.size ∧
                Sort.partLoop Sort.ltInt a i j dk = Sort.partLoop Sort.ltInt a (a + 1) (b - 1) (Sort.swp d a pivot) ∧ Mod (Sv v) w w') (k - 1 + 1 - (i2 + 1)) ⟨i2 + 1, k - 1, Sort.swp dk i2 k, ?_⟩ ?_
              · simp [e0, e1]
                exact ⟨by omega, by omega, by omega, hD2, by rw [size_swp]; exact hz, hI, hM2⟩
              · rintro kk ρ ds w1 ⟨i, j, dk, rfl, hai, hij, hjb, e0, e1, ei, ej, rfl, hD, hz, hI, hM⟩
                simp
                refine WC_loop (fun k ρ ds w' => ∃ i2 : Nat, k = j + 1 - i2 ∧ i ≤ i2 ∧ i2 ≤ j + 1 ∧ ρ 0 = v ∧ ρ 1 = .int .i64 a ∧ ρ 10 = .int .i64 i2 ∧ ρ 11 = .int .i64 j ∧ ds = [] ∧ Suint32.A w' v dk ∧
                  Sort.scanUp (fun x => Sort.ltInt x dk[a]!) dk j i2 = Sort.scanUp (fun x => Sort.ltInt x dk[a]!) dk j i ∧ Mod (Sv v) w w') (j + 1 - i) ⟨i, ?_⟩ ?_
                · simp [e0, e1, ei, ej]
                  exact ⟨hij, hD, hM⟩
                · rintro k ρ ds w2 ⟨i2, rfl, hi2, hij2, e0, e1, ei, ej, rfl, hD, hS, hM⟩
                  have wi_ : IntKind.i64.wrap ((i2 : Int) + 1) = ((i2 + 1 : Nat) : Int) := wnat _ _ (by omega) (by omega)
                  have ia := Suint32.ix hD a (by omega)
                  simp
                  refine WC_drQ 12 rfl (by kernel_rfl) fun W hW => ?_
                  replace hD := hD.dr hW
                  replace hM := hM.dr hW
                  by_cases hle : i2 ≤ j
                  · have ii := Suint32.ix hD i2 (by omega)
                    obtain ⟨ca, ci, -⟩ := hD.facts a i2 (by omega) (by omega)
                    simp [e0, e1, ei, ej, hle, ia, ii, ca, ci]
                    refine FN.mono (Suint32.less_c (at_ dk i2) (at_ dk a) W) ?_
                    rintro _ _ ⟨rfl, rfl⟩
                    simp
                    by_cases hl : Sort.ltInt (at_ dk i2) (at_ dk a) = true
                    · rw [← su_go (fun x => Sort.ltInt x dk[a]!) hle (by simpa [at_] using hl)] at hS
                      simp [hl, e0, e1, ei, ej]
                      rw [wi_]
                      exact ⟨j + 1 - (i2 + 1), by omega, i2 + 1, rfl, by omega, by omega, rfl, hD, hS, hM⟩
                    · replace hl := (Bool.eq_not).2 hl
                      simp only [Bool.not_true] at hl
                      have hu : i2 ≤ j → Sort.ltInt (at_ dk i2) (at_ dk a) = !true := fun _ => hl
                      rw [su_end (fun x => Sort.ltInt x dk[a]!) (.inr (by simpa [at_] using hl))] at hS
                      simp [hl]
                      refine WC_loop (fun k ρ ds w' => ∃ j2 : Nat, k = j2 ∧ j2 ≤ j ∧ i2 ≤ j2 + 1 ∧ ρ 0 = v ∧ ρ 1 = .int .i64 a ∧ ρ 10 = .int .i64 i2 ∧ ρ 11 = .int .i64 j2 ∧ ds = [] ∧ Suint32.A w' v dk ∧
                        Sort.scanDown (fun x => !Sort.ltInt x dk[a]!) dk i2 j2 = Sort.scanDown (fun x => !Sort.ltInt x dk[a]!) dk i2 j ∧ Mod (Sv v) w w') j ⟨j, ?_⟩ ?_
                      · simp [e0, e1, ei, ej]
                        exact ⟨hij2, hD, hM⟩
                      · rintro k ρ ds w2 ⟨j2, rfl, hj2, hij3, e0, e1, ei, ej, rfl, hD, hT, hM⟩
                        have ia := Suint32.ix hD a (by omega)
                        simp
                        refine WC_drQ 12 rfl (by kernel_rfl) fun W hW => ?_
                        replace hD := hD.dr hW
                        replace hM := hM.dr hW
                        by_cases hle : i2 ≤ k
                        · obtain ⟨p, hp⟩ : ∃ p, k = p + 1 := ⟨k - 1, by omega⟩
                          have wj_ : IntKind.i64.wrap ((k : Int) - 1) = (p : Int) := wnat _ _ (by omega) (by omega)
                          have ik := Suint32.ix hD k (by omega)
                          obtain ⟨ca, ck, -⟩ := hD.facts a k (by omega) (by omega)
                          simp [e0, e1, ei, ej, hle, ia, ik, ca, ck]
                          refine FN.mono (Suint32.less_c (at_ dk k) (at_ dk a) W) ?_
                          rintro _ _ ⟨rfl, rfl⟩
                          simp
                          by_cases hl2 : Sort.ltInt (at_ dk k) (at_ dk a) = false
                          · rw [← sd_go (fun x => !Sort.ltInt x dk[a]!) hle hp (by simpa [at_] using hl2)] at hT
                            simp [hl2, e0, e1, ei, ej, wj_]
                            exact ⟨p, by omega, by omega, by omega, rfl, hD, hT, hM⟩
                          · replace hl2 := (Bool.eq_not).2 hl2
                            simp only [Bool.not_false] at hl2
                            have hd : i2 ≤ k → Sort.ltInt (at_ dk k) (at_ dk a) = !false := fun _ => hl2
                            rw [sd_end (fun x => !Sort.ltInt x dk[a]!) (.inr (by simpa [at_] using hl2))] at hT
                            simp [hl2]
                            rw [Sort.partLoop_eq, ← hS] at hI
                            have hT' : k = Sort.scanDown (fun x => !Sort.ltInt x dk[a]!) dk i2 j := hT
                            rw [← hT'] at hI
                            by_cases hgt : k < i2
                            · have ia := Suint32.ix hD a (by omega)
                              have ik := Suint32.ix hD k (by omega)
                              rw [if_pos hgt] at hI
                              simp [ei, ej, hgt]
                              refine WC_drS 13 rfl (by kernel_rfl) fun W2 hW2 => ?_
                              replace hD := hD.dr hW2
                              replace hM := hM.dr hW2
                              obtain ⟨c1, c2, f1, c3, f2⟩ := hD.facts k a (by omega) (by omega)
                              simp [e0, e1, ej, ia, ik, c1, c2, f1, c3, f2]
                              rw [Sort.partition_fst, Sort.partition_arr, ← hI]
                              exact ⟨rfl, hD.swap (by omega) (by omega), hD.mswap hM (by omega) _ _⟩
                            · rw [if_neg hgt] at hI
                              have hne : i2 ≠ k := fun e => by
                                have h1 := hu (by omega)
                                have h2 := hd (by omega)
                                rw [e] at h1; rw [h1] at h2; cases h2
                              have wi2_ : IntKind.i64.wrap ((i2 : Int) + 1) = ((i2 + 1 : Nat) : Int) := wnat _ _ (by omega) (by omega)
                              have wk_ : IntKind.i64.wrap ((k : Int) - 1) = ((k - 1 : Nat) : Int) := wnat _ _ (by omega) (by omega)
                              have ii := Suint32.ix hD i2 (by omega)
                              have ik := Suint32.ix hD k (by omega)
                              simp [ei, ej, hgt]
                              refine WC_drS 13 rfl (by kernel_rfl) fun W2 hW2 => ?_
                              replace hD := hD.dr hW2
                              replace hM := hM.dr hW2
                              obtain ⟨c1, c2, f1, c3, f2⟩ := hD.facts i2 k (by omega) (by omega)
                              have hD2 := hD.swap (i := i2) (j := k) (by omega) (by omega)
                              have hM2 := hD.mswap (j := k) hM (i := i2) (by omega) (.int .u32 (at_ dk k)) (.int .u32 (at_ dk i2))
                              simp [e0, e1, ei, ej, ii, ik, c1, c2, f1, c3, f2]
                              rw [wi2_, wk_]
                              exact ⟨k - 1 + 1 - (i2 + 1), by omega, i2 + 1, k - 1, rfl, by omega, by omega, by omega, rfl, rfl, _, hD2, by rw [size_swp]; exact hz, hI, hM2⟩
                        · have hd : i2 ≤ k → Sort.ltInt (at_ dk k) (at_ dk a) = !false := fun h => (hle h).elim
                          rw [sd_end (fun x => !Sort.ltInt x dk[a]!) (.inl hle)] at hT
                          simp [ei, ej, hle]
                          rw [Sort.partLoop_eq, ← hS] at hI
                          have hT' : k = Sort.scanDown (fun x => !Sort.ltInt x dk[a]!) dk i2 j := hT
                          rw [← hT'] at hI
                          by_cases hgt : k < i2
                          · have ia := Suint32.ix hD a (by omega)
                            have ik := Suint32.ix hD k (by omega)
                            rw [if_pos hgt] at hI
                            simp [hgt]
                            refine WC_drS 13 rfl (by kernel_rfl) fun W2 hW2 => ?_
                            replace hD := hD.dr hW2
                            replace hM := hM.dr hW2
                            obtain ⟨c1, c2, f1, c3, f2⟩ := hD.facts k a (by omega) (by omega)
                            simp [e0, e1, ej, ia, ik, c1, c2, f1, c3, f2]
                            rw [Sort.partition_fst, Sort.partition_arr, ← hI]
                            exact ⟨rfl, hD.swap (by omega) (by omega), hD.mswap hM (by omega) _ _⟩
                          · rw [if_neg hgt] at hI
                            have hne : i2 ≠ k := fun e => by
                              have h1 := hu (by omega)
                              have h2 := hd (by omega)
                              rw [e] at h1; rw [h1] at h2; cases h2
                            have wi2_ : IntKind.i64.wrap ((i2 : Int) + 1) = ((i2 + 1 : Nat) : Int) := wnat _ _ (by omega) (by omega)
                            have wk_ : IntKind.i64.wrap ((k : Int) - 1) = ((k - 1 : Nat) : Int) := wnat _ _ (by omega) (by omega)
                            have ii := Suint32.ix hD i2 (by omega)
                            have ik := Suint32.ix hD k (by omega)
                            simp [hgt]
                            refine WC_drS 13 rfl (by kernel_rfl) fun W2 hW2 => ?_
                            replace hD := hD.dr hW2
                            replace hM := hM.dr hW2
                            obtain ⟨c1, c2, f1, c3, f2⟩ := hD.facts i2 k (by omega) (by omega)
                            have hD2 := hD.swap (i := i2) (j := k) (by omega) (by omega)
                            have hM2 := hD.mswap (j := k) hM (i := i2) (by omega) (.int .u32 (at_ dk k)) (.int .u32 (at_ dk i2))
                            simp [e0, e1, ei, ej, ii, ik, c1, c2, f1, c3, f2]
                            rw [wi2_, wk_]
                            exact ⟨k - 1 + 1 - (i2 + 1), by omega, i2 + 1, k - 1, rfl, by omega, by omega, by omega, rfl, rfl, _, hD2, by rw [size_swp]; exact hz, hI, hM2⟩
                  · have hu : i2 ≤ j → Sort.ltInt (at_ dk i2) (at_ dk a) = !true := fun h => (hle h).elim
                    rw [su_end (fun x => Sort.ltInt x dk[a]!) (.inl hle)] at hS
                    simp [ei, ej, hle]
                    refine WC_loop (fun k ρ ds w' => ∃ j2 : Nat, k = j2 ∧ j2 ≤ j ∧ i2 ≤ j2 + 1 ∧ ρ 0 = v ∧ ρ 1 = .int .i64 a ∧ ρ 10 = .int .i64 i2 ∧ ρ 11 = .int .i64 j2 ∧ ds = [] ∧ Suint32.A w' v dk ∧
                      Sort.scanDown (fun x => !Sort.ltInt x dk[a]!) dk i2 j2 = Sort.scanDown (fun x => !Sort.ltInt x dk[a]!) dk i2 j ∧ Mod (Sv v) w w') j ⟨j, ?_⟩ ?_
                    · simp [e0, e1, ei, ej]
                      exact ⟨hij2, hD, hM⟩
                    · rintro k ρ ds w2 ⟨j2, rfl, hj2, hij3, e0, e1, ei, ej, rfl, hD, hT, hM⟩
                      have ia := Suint32.ix hD a (by omega)
                      simp
                      refine WC_drQ 12 rfl (by kernel_rfl) fun W hW => ?_
                      replace hD := hD.dr hW
                      replace hM := hM.dr hW
                      by_cases hle : i2 ≤ k
                      · obtain ⟨p, hp⟩ : ∃ p, k = p + 1 := ⟨k - 1, by omega⟩
                        have wj_ : IntKind.i64.wrap ((k : Int) - 1) = (p : Int) := wnat _ _ (by omega) (by omega)
                        have ik := Suint32.ix hD k (by omega)
                        obtain ⟨ca, ck, -⟩ := hD.facts a k (by omega) (by omega)
                        simp [e0, e1, ei, ej, hle, ia, ik, ca, ck]
                        refine FN.mono (Suint32.less_c (at_ dk k) (at_ dk a) W) ?_
                        rintro _ _ ⟨rfl, rfl⟩
                        simp
                        by_cases hl2 : Sort.ltInt (at_ dk k) (at_ dk a) = false
                        · rw [← sd_go (fun x => !Sort.ltInt x dk[a]!) hle hp (by simpa [at_] using hl2)] at hT
                          simp [hl2, e0, e1, ei, ej, wj_]
                          exact ⟨p, by omega, by omega, by omega, rfl, hD, hT, hM⟩
                        · replace hl2 := (Bool.eq_not).2 hl2
                          simp only [Bool.not_false] at hl2
                          have hd : i2 ≤ k → Sort.ltInt (at_ dk k) (at_ dk a) = !false := fun _ => hl2
                          rw [sd_end (fun x => !Sort.ltInt x dk[a]!) (.inr (by simpa [at_] using hl2))] at hT
                          simp [hl2]
                          rw [Sort.partLoop_eq, ← hS] at hI
                          have hT' : k = Sort.scanDown (fun x => !Sort.ltInt x dk[a]!) dk i2 j := hT
                          rw [← hT'] at hI
                          by_cases hgt : k < i2
                          · have ia := Suint32.ix hD a (by omega)
                            have ik := Suint32.ix hD k (by omega)
                            rw [if_pos hgt] at hI
                            simp [ei, ej, hgt]
                            refine WC_drS 13 rfl (by kernel_rfl) fun W2 hW2 => ?_
                            replace hD := hD.dr hW2
                            replace hM := hM.dr hW2
                            obtain ⟨c1, c2, f1, c3, f2⟩ := hD.facts k a (by omega) (by omega)
                            simp [e0, e1, ej, ia, ik, c1, c2, f1, c3, f2]
                            rw [Sort.partition_fst, Sort.partition_arr, ← hI]
                            exact ⟨rfl, hD.swap (by omega) (by omega), hD.mswap hM (by omega) _ _⟩
                          · rw [if_neg hgt] at hI
                            have hne : i2 ≠ k := fun e => by
                              have h1 := hu (by omega)
                              have h2 := hd (by omega)
                              rw [e] at h1; rw [h1] at h2; cases h2
                            have wi2_ : IntKind.i64.wrap ((i2 : Int) + 1) = ((i2 + 1 : Nat) : Int) := wnat _ _ (by omega) (by omega)
                            have wk_ : IntKind.i64.wrap ((k : Int) - 1) = ((k - 1 : Nat) : Int) := wnat _ _ (by omega) (by omega)
                            have ii := Suint32.ix hD i2 (by omega)
                            have ik := Suint32.ix hD k (by omega)
                            simp [ei, ej, hgt]
                            refine WC_drS 13 rfl (by kernel_rfl) fun W2 hW2 => ?_
                            replace hD := hD.dr hW2
                            replace hM := hM.dr hW2
                            obtain ⟨c1, c2, f1, c3, f2⟩ := hD.facts i2 k (by omega) (by omega)
                            have hD2 := hD.swap (i := i2) (j := k) (by omega) (by omega)
                            have hM2 := hD.mswap (j := k) hM (i := i2) (by omega) (.int .u32 (at_ dk k)) (.int .u32 (at_ dk i2))
                            simp [e0, e1, ei, ej, ii, ik, c1, c2, f1, c3, f2]
                            rw [wi2_, wk_]
                            exact ⟨k - 1 + 1 - (i2 + 1), by omega, i2 + 1, k - 1, rfl, by omega, by omega, by omega, rfl, rfl, _, hD2, by rw [size_swp]; exact hz, hI, hM2⟩
                      · have hd : i2 ≤ k → Sort.ltInt (at_ dk k) (at_ dk a) = !false := fun h => (hle h).elim
                        rw [sd_end (fun x => !Sort.ltInt x dk[a]!) (.inl hle)] at hT
                        simp [ei, ej, hle]
                        rw [Sort.partLoop_eq, ← hS] at hI
                        have hT' : k = Sort.scanDown (fun x => !Sort.ltInt x dk[a]!) dk i2 j := hT
                        rw [← hT'] at hI
                        by_cases hgt : k < i2
                        · have ia := Suint32.ix hD a (by omega)
                          have ik := Suint32.ix hD k (by omega)
                          rw [if_pos hgt] at hI
                          simp [hgt]
                          refine WC_drS 13 rfl (by kernel_rfl) fun W2 hW2 => ?_
                          replace hD := hD.dr hW2
                          replace hM := hM.dr hW2
                          obtain ⟨c1, c2, f1, c3, f2⟩ := hD.facts k a (by omega) (by omega)
                          simp [e0, e1, ej, ia, ik, c1, c2, f1, c3, f2]
                          rw [Sort.partition_fst, Sort.partition_arr, ← hI]
                          exact ⟨rfl, hD.swap (by omega) (by omega), hD.mswap hM (by omega) _ _⟩
                        · rw [if_neg hgt] at hI
                          have hne : i2 ≠ k := fun e => by
                            have h1 := hu (by omega)
                            have h2 := hd (by omega)
                            rw [e] at h1; rw [h1] at h2; cases h2
                          have wi2_ : IntKind.i64.wrap ((i2 : Int) + 1) = ((i2 + 1 : Nat) : Int) := wnat _ _ (by omega) (by omega)
                          have wk_ : IntKind.i64.wrap ((k : Int) - 1) = ((k - 1 : Nat) : Int) := wnat _ _ (by omega) (by omega)
                          have ii := Suint32.ix hD i2 (by omega)
                          have ik := Suint32.ix hD k (by omega)
                          simp [hgt]
                          refine WC_drS 13 rfl (by kernel_rfl) fun W2 hW2 => ?_
                          replace hD := hD.dr hW2
                          replace hM := hM.dr hW2
                          obtain ⟨c1, c2, f1, c3, f2⟩ := hD.facts i2 k (by omega) (by omega)
                          have hD2 := hD.swap (i := i2) (j := k) (by omega) (by omega)
                          have hM2 := hD.mswap (j := k) hM (i := i2) (by omega) (.int .u32 (at_ dk k)) (.int .u32 (at_ dk i2))
                          simp [e0, e1, ei, ej, ii, ik, c1, c2, f1, c3, f2]
                          rw [wi2_, wk_]
                          exact ⟨k - 1 + 1 - (i2 + 1), by omega, i2 + 1, k - 1, rfl, by omega, by omega, by omega, rfl, rfl, _, hD2, by rw [size_swp]; exact hz, hI, hM2⟩
        · have hd : i2 ≤ k → Sort.ltInt (at_ dk k) (at_ dk a) = !false := fun h => (hle h).elim
          rw [sd_end (fun x => !Sort.ltInt x dk[a]!) (.inl hle)] at hT
          simp [ei, ej, hle]
          rw [Sort.partLoop_eq, ← hS] at hI
          have hT' : k = Sort.scanDown (fun x => !Sort.ltInt x dk[a]!) dk i2 j := hT
          rw [← hT'] at hI
          by_cases hgt : k < i2
          · have ia := Suint32.ix hD a (by omega)
            have ik := Suint32.ix hD k (by omega)
            rw [if_pos hgt] at hI
            simp [hgt]
            refine WC_drS 13 rfl (by kernel_rfl) fun W2 hW2 => ?_
            replace hD := hD.dr hW2
            replace hM := hM.dr hW2
            obtain ⟨c1, c2, f1, c3, f2⟩ := hD.facts k a (by omega) (by omega)
            simp [e0, e1, ej, ia, ik, c1, c2, f1, c3, f2]
            rw [Sort.partition_fst, Sort.partition_arr, ← hI]
            exact ⟨rfl, hD.swap (by omega) (by omega), hD.mswap hM (by omega) _ _⟩
          · rw [if_neg hgt] at hI
            have hne : i2 ≠ k := fun e => by
              have h1 := hu (by omega)
              have h2 := hd (by omega)
              rw [e] at h1; rw [h1] at h2; cases h2
            have wi2_ : IntKind.i64.wrap ((i2 : Int) + 1) = ((i2 + 1 : Nat) : Int) := wnat _ _ (by omega) (by omega)
            have wk_ : IntKind.i64.wrap ((k : Int) - 1) = ((k - 1 : Nat) : Int) := wnat _ _ (by omega) (by omega)
            have ii := Suint32.ix hD i2 (by omega)
            have ik := Suint32.ix hD k (by omega)
            simp [hgt]
            refine WC_drS 13 rfl (by kernel_rfl) fun W2 hW2 => ?_
            replace hD := hD.dr hW2
            replace hM := hM.dr hW2
            obtain ⟨c1, c2, f1, c3, f2⟩ := hD.facts i2 k (by omega) (by omega)
            have hD2 := hD.swap (i := i2) (j := k) (by omega) (by omega)
            have hM2 := hD.mswap (j := k) hM (i := i2) (by omega) (.int .u32 (at_ dk k)) (.int .u32 (at_ dk i2))
            simp [e0, ei, ej, ii, ik, c1, c2, f1, c3, f2]
            rw [wi2_, wk_]
            refine WC_loop (fun k ρ ds w' => ∃ (i j : Nat) (dk : Array Int), k = j + 1 - i ∧ a < i ∧ i ≤ j + 1 ∧ j < b ∧ ρ 0 = v ∧ ρ 1 = .int .i64 a ∧ ρ 10 = .int .i64 i ∧ ρ 11 = .int .i64 j ∧ ds = [] ∧ Suint32.A w' v dk ∧ dk.size = d.size ∧
              Sort.partLoop Sort.ltInt a i j dk = Sort.partLoop Sort.ltInt a (a + 1) (b - 1) (Sort.swp d a pivot) ∧ Mod (Sv v) w w') (k - 1 + 1 - (i2 + 1)) ⟨i2 + 1, k - 1, Sort.swp dk i2 k, ?_⟩ ?_
            · simp [e0, e1]
              exact ⟨by omega, by omega, by omega, hD2, by rw [size_swp]; exact hz, hI, hM2⟩
            · rintro kk ρ ds w1 ⟨i, j, dk, rfl, hai, hij, hjb, e0, e1, ei, ej, rfl, hD, hz, hI, hM⟩
              simp
              refine WC_loop (fun k ρ ds w' => ∃ i2 : Nat, k = j + 1 - i2 ∧ i ≤ i2 ∧ i2 ≤ j + 1 ∧ ρ 0 = v ∧ ρ 1 = .int .i64 a ∧ ρ 10 = .int .i64 i2 ∧ ρ 11 = .int .i64 j ∧ ds = [] ∧ Suint32.A w' v dk ∧
                Sort.scanUp (fun x => Sort.ltInt x dk[a]!) dk j i2 = Sort.scanUp (fun x => Sort.ltInt x dk[a]!) dk j i ∧ Mod (Sv v) w w') (j + 1 - i) ⟨i, ?_⟩ ?_
              · simp [e0, e1, ei, ej]
                exact ⟨hij, hD, hM⟩
              · rintro k ρ ds w2 ⟨i2, rfl, hi2, hij2, e0, e1, ei, ej, rfl, hD, hS, hM⟩
                have wi_ : IntKind.i64.wrap ((i2 : Int) + 1) = ((i2 + 1 : Nat) : Int) := wnat _ _ (by omega) (by omega)
                have ia := Suint32.ix hD a (by omega)
                simp
                refine WC_drQ 12 rfl (by kernel_rfl) fun W hW => ?_
                replace hD := hD.dr hW
                replace hM := hM.dr hW
                by_cases hle : i2 ≤ j
                · have ii := Suint32.ix hD i2 (by omega)
                  obtain ⟨ca, ci, -⟩ := hD.facts a i2 (by omega) (by omega)
                  simp [e0, e1, ei, ej, hle, ia, ii, ca, ci]
                  refine FN.mono (Suint32.less_c (at_ dk i2) (at_ dk a) W) ?_
                  rintro _ _ ⟨rfl, rfl⟩
                  simp
                  by_cases hl : Sort.ltInt (at_ dk i2) (at_ dk a) = true
                  · rw [← su_go (fun x => Sort.ltInt x dk[a]!) hle (by simpa [at_] using hl)] at hS
                    simp [hl, e0, e1, ei, ej]
                    rw [wi_]
                    exact ⟨j + 1 - (i2 + 1), by omega, i2 + 1, rfl, by omega, by omega, rfl, hD, hS, hM⟩
                  · replace hl := (Bool.eq_not).2 hl
                    simp only [Bool.not_true] at hl
                    have hu : i2 ≤ j → Sort.ltInt (at_ dk i2) (at_ dk a) = !true := fun _ => hl
                    rw [su_end (fun x => Sort.ltInt x dk[a]!) (.inr (by simpa [at_] using hl))] at hS
                    simp [hl]
                    refine WC_loop (fun k ρ ds w' => ∃ j2 : Nat, k = j2 ∧ j2 ≤ j ∧ i2 ≤ j2 + 1 ∧ ρ 0 = v ∧ ρ 1 = .int .i64 a ∧ ρ 10 = .int .i64 i2 ∧ ρ 11 = .int .i64 j2 ∧ ds = [] ∧ Suint32.A w' v dk ∧
                      Sort.scanDown (fun x => !Sort.ltInt x dk[a]!) dk i2 j2 = Sort.scanDown (fun x => !Sort.ltInt x dk[a]!) dk i2 j ∧ Mod (Sv v) w w') j ⟨j, ?_⟩ ?_
                    · simp [e0, e1, ei, ej]
                      exact ⟨hij2, hD, hM⟩
                    · rintro k ρ ds w2 ⟨j2, rfl, hj2, hij3, e0, e1, ei, ej, rfl, hD, hT, hM⟩
                      have ia := Suint32.ix hD a (by omega)
                      simp
                      refine WC_drQ 12 rfl (by kernel_rfl) fun W hW => ?_
                      replace hD := hD.dr hW
                      replace hM := hM.dr hW
                      by_cases hle : i2 ≤ k
                      · obtain ⟨p, hp⟩ : ∃ p, k = p + 1 := ⟨k - 1, by omega⟩
                        have wj_ : IntKind.i64.wrap ((k : Int) - 1) = (p : Int) := wnat _ _ (by omega) (by omega)
                        have ik := Suint32.ix hD k (by omega)
                        obtain ⟨ca, ck, -⟩ := hD.facts a k (by omega) (by omega)
                        simp [e0, e1, ei, ej, hle, ia, ik, ca, ck]
                        refine FN.mono (Suint32.less_c (at_ dk k) (at_ dk a) W) ?_
                        rintro _ _ ⟨rfl, rfl⟩
                        simp
                        by_cases hl2 : Sort.ltInt (at_ dk k) (at_ dk a) = false
                        · rw [← sd_go (fun x => !Sort.ltInt x dk[a]!) hle hp (by simpa [at_] using hl2)] at hT
                          simp [hl2, e0, e1, ei, ej, wj_]
                          exact ⟨p, by omega, by omega, by omega, rfl, hD, hT, hM⟩
                        · replace hl2 := (Bool.eq_not).2 hl2
                          simp only [Bool.not_false] at hl2
                          have hd : i2 ≤ k → Sort.ltInt (at_ dk k) (at_ dk a) = !false := fun _ => hl2
                          rw [sd_end (fun x => !Sort.ltInt x dk[a]!) (.inr (by simpa [at_] using hl2))] at hT
                          simp [hl2]
                          rw [Sort.partLoop_eq, ← hS] at hI
                          have hT' : k = Sort.scanDown (fun x => !Sort.ltInt x dk[a]!) dk i2 j := hT
                          rw [← hT'] at hI
                          by_cases hgt : k < i2
                          · have ia := Suint32.ix hD a (by omega)
                            have ik := Suint32.ix hD k (by omega)
                            rw [if_pos hgt] at hI
                            simp [ei, ej, hgt]
                            refine WC_drS 13 rfl (by kernel_rfl) fun W2 hW2 => ?_
                            replace hD := hD.dr hW2
                            replace hM := hM.dr hW2
                            obtain ⟨c1, c2, f1, c3, f2⟩ := hD.facts k a (by omega) (by omega)
                            simp [e0, e1, ej, ia, ik, c1, c2, f1, c3, f2]
                            rw [Sort.partition_fst, Sort.partition_arr, ← hI]
                            exact ⟨rfl, hD.swap (by omega) (by omega), hD.mswap hM (by omega) _ _⟩
                          · rw [if_neg hgt] at hI
                            have hne : i2 ≠ k := fun e => by
                              have h1 := hu (by omega)
                              have h2 := hd (by omega)
                              rw [e] at h1; rw [h1] at h2; cases h2
                            have wi2_ : IntKind.i64.wrap ((i2 : Int) + 1) = ((i2 + 1 : Nat) : Int) := wnat _ _ (by omega) (by omega)
                            have wk_ : IntKind.i64.wrap ((k : Int) - 1) = ((k - 1 : Nat) : Int) := wnat _ _ (by omega) (by omega)
                            have ii := Suint32.ix hD i2 (by omega)
                            have ik := Suint32.ix hD k (by omega)
                            simp [ei, ej, hgt]
                            refine WC_drS 13 rfl (by kernel_rfl) fun W2 hW2 => ?_
                            replace hD := hD.dr hW2
                            replace hM := hM.dr hW2
                            obtain ⟨c1, c2, f1, c3, f2⟩ := hD.facts i2 k (by omega) (by omega)
                            have hD2 := hD.swap (i := i2) (j := k) (by omega) (by omega)
                            have hM2 := hD.mswap (j := k) hM (i := i2) (by omega) (.int .u32 (at_ dk k)) (.int .u32 (at_ dk i2))
                            simp [e0, e1, ei, ej, ii, ik, c1, c2, f1, c3, f2]
                            rw [wi2_, wk_]
                            exact ⟨k - 1 + 1 - (i2 + 1), by omega, i2 + 1, k - 1, rfl, by omega, by omega, by omega, rfl, rfl, _, hD2, by rw [size_swp]; exact hz, hI, hM2⟩
                      · have hd : i2 ≤ k → Sort.ltInt (at_ dk k) (at_ dk a) = !false := fun h => (hle h).elim
                        rw [sd_end (fun x => !Sort.ltInt x dk[a]!) (.inl hle)] at hT
                        simp [ei, ej, hle]
                        rw [Sort.partLoop_eq, ← hS] at hI
                        have hT' : k = Sort.scanDown (fun x => !Sort.ltInt x dk[a]!) dk i2 j := hT
                        rw [← hT'] at hI
                        by_cases hgt : k < i2
                        · have ia := Suint32.ix hD a (by omega)
                          have ik := Suint32.ix hD k (by omega)
                          rw [if_pos hgt] at hI
                          simp [hgt]
                          refine WC_drS 13 rfl (by kernel_rfl) fun W2 hW2 => ?_
                          replace hD := hD.dr hW2
                          replace hM := hM.dr hW2
                          obtain ⟨c1, c2, f1, c3, f2⟩ := hD.facts k a (by omega) (by omega)
                          simp [e0, e1, ej, ia, ik, c1, c2, f1, c3, f2]
                          rw [Sort.partition_fst, Sort.partition_arr, ← hI]
                          exact ⟨rfl, hD.swap (by omega) (by omega), hD.mswap hM (by omega) _ _⟩
                        · rw [if_neg hgt] at hI
                          have hne : i2 ≠ k := fun e => by
                            have h1 := hu (by omega)
                            have h2 := hd (by omega)
                            rw [e] at h1; rw [h1] at h2; cases h2
                          have wi2_ : IntKind.i64.wrap ((i2 : Int) + 1) = ((i2 + 1 : Nat) : Int) := wnat _ _ (by omega) (by omega)
                          have wk_ : IntKind.i64.wrap ((k : Int) - 1) = ((k - 1 : Nat) : Int) := wnat _ _ (by omega) (by omega)
                          have ii := Suint32.ix hD i2 (by omega)
                          have ik := Suint32.ix hD k (by omega)
                          simp [hgt]
                          refine WC_drS 13 rfl (by kernel_rfl) fun W2 hW2 => ?_
                          replace hD := hD.dr hW2
                          replace hM := hM.dr hW2
                          obtain ⟨c1, c2, f1, c3, f2⟩ := hD.facts i2 k (by omega) (by omega)
                          have hD2 := hD.swap (i := i2) (j := k) (by omega) (by omega)
                          have hM2 := hD.mswap (j := k) hM (i := i2) (by omega) (.int .u32 (at_ dk k)) (.int .u32 (at_ dk i2))
                          simp [e0, e1, ei, ej, ii, ik, c1, c2, f1, c3, f2]
                          rw [wi2_, wk_]
                          exact ⟨k - 1 + 1 - (i2 + 1), by omega, i2 + 1, k - 1, rfl, by omega, by omega, by omega, rfl, rfl, _, hD2, by rw [size_swp]; exact hz, hI, hM2⟩
                · have hu : i2 ≤ j → Sort.ltInt (at_ dk i2) (at_ dk a) = !true := fun h => (hle h).elim
                  rw [su_end (fun x => Sort.ltInt x dk[a]!) (.inl hle)] at hS
                  simp [ei, ej, hle]
                  refine WC_loop (fun k ρ ds w' => ∃ j2 : Nat, k = j2 ∧ j2 ≤ j ∧ i2 ≤ j2 + 1 ∧ ρ 0 = v ∧ ρ 1 = .int .i64 a ∧ ρ 10 = .int .i64 i2 ∧ ρ 11 = .int .i64 j2 ∧ ds = [] ∧ Suint32.A w' v dk ∧
                    Sort.scanDown (fun x => !Sort.ltInt x dk[a]!) dk i2 j2 = Sort.scanDown (fun x => !Sort.ltInt x dk[a]!) dk i2 j ∧ Mod (Sv v) w w') j ⟨j, ?_⟩ ?_
                  · simp [e0, e1, ei, ej]
                    exact ⟨hij2, hD, hM⟩
                  · rintro k ρ ds w2 ⟨j2, rfl, hj2, hij3, e0, e1, ei, ej, rfl, hD, hT, hM⟩
                    have ia := Suint32.ix hD a (by omega)
                    simp
                    refine WC_drQ 12 rfl (by kernel_rfl) fun W hW => ?_
                    replace hD := hD.dr hW
                    replace hM := hM.dr hW
                    by_cases hle : i2 ≤ k
                    · obtain ⟨p, hp⟩ : ∃ p, k = p + 1 := ⟨k - 1, by omega⟩
                      have wj_ : IntKind.i64.wrap ((k : Int) - 1) = (p : Int) := wnat _ _ (by omega) (by omega)
                      have ik := Suint32.ix hD k (by omega)
                      obtain ⟨ca, ck, -⟩ := hD.facts a k (by omega) (by omega)
                      simp [e0, e1, ei, ej, hle, ia, ik, ca, ck]
                      refine FN.mono (Suint32.less_c (at_ dk k) (at_ dk a) W) ?_
                      rintro _ _ ⟨rfl, rfl⟩
                      simp
                      by_cases hl2 : Sort.ltInt (at_ dk k) (at_ dk a) = false
                      · rw [← sd_go (fun x => !Sort.ltInt x dk[a]!) hle hp (by simpa [at_] using hl2)] at hT
                        simp [hl2, e0, e1, ei, ej, wj_]
                        exact ⟨p, by omega, by omega, by omega, rfl, hD, hT, hM⟩
                      · replace hl2 := (Bool.eq_not).2 hl2
                        simp only [Bool.not_false] at hl2
                        have hd : i2 ≤ k → Sort.ltInt (at_ dk k) (at_ dk a) = !false := fun _ => hl2
                        rw [sd_end (fun x => !Sort.ltInt x dk[a]!) (.inr (by simpa [at_] using hl2))] at hT
                        simp [hl2]
                        rw [Sort.partLoop_eq, ← hS] at hI
                        have hT' : k = Sort.scanDown (fun x => !Sort.ltInt x dk[a]!) dk i2 j := hT
                        rw [← hT'] at hI
                        by_cases hgt : k < i2
                        · have ia := Suint32.ix hD a (by omega)
                          have ik := Suint32.ix hD k (by omega)
                          rw [if_pos hgt] at hI
                          simp [ei, ej, hgt]
                          refine WC_drS 13 rfl (by kernel_rfl) fun W2 hW2 => ?_
                          replace hD := hD.dr hW2
                          replace hM := hM.dr hW2
                          obtain ⟨c1, c2, f1, c3, f2⟩ := hD.facts k a (by omega) (by omega)
                          simp [e0, e1, ej, ia, ik, c1, c2, f1, c3, f2]
                          rw [Sort.partition_fst, Sort.partition_arr, ← hI]
                          exact ⟨rfl, hD.swap (by omega) (by omega), hD.mswap hM (by omega) _ _⟩
                        · rw [if_neg hgt] at hI
                          have hne : i2 ≠ k := fun e => by
                            have h1 := hu (by omega)
                            have h2 := hd (by omega)
                            rw [e] at h1; rw [h1] at h2; cases h2
                          have wi2_ : IntKind.i64.wrap ((i2 : Int) + 1) = ((i2 + 1 : Nat) : Int) := wnat _ _ (by omega) (by omega)
                          have wk_ : IntKind.i64.wrap ((k : Int) - 1) = ((k - 1 : Nat) : Int) := wnat _ _ (by omega) (by omega)
                          have ii := Suint32.ix hD i2 (by omega)
                          have ik := Suint32.ix hD k (by omega)
                          simp [ei, ej, hgt]
                          refine WC_drS 13 rfl (by kernel_rfl) fun W2 hW2 => ?_
                          replace hD := hD.dr hW2
                          replace hM := hM.dr hW2
                          obtain ⟨c1, c2, f1, c3, f2⟩ := hD.facts i2 k (by omega) (by omega)
                          have hD2 := hD.swap (i := i2) (j := k) (by omega) (by omega)
                          have hM2 := hD.mswap (j := k) hM (i := i2) (by omega) (.int .u32 (at_ dk k)) (.int .u32 (at_ dk i2))
                          simp [e0, e1, ei, ej, ii, ik, c1, c2, f1, c3, f2]
                          rw [wi2_, wk_]
                          exact ⟨k - 1 + 1 - (i2 + 1), by omega, i2 + 1, k - 1, rfl, by omega, by omega, by omega, rfl, rfl, _, hD2, by rw [size_swp]; exact hz, hI, hM2⟩
                    · have hd : i2 ≤ k → Sort.ltInt (at_ dk k) (at_ dk a) = !false := fun h => (hle h).elim
                      rw [sd_end (fun x => !Sort.ltInt x dk[a]!) (.inl hle)] at hT
                      simp [ei, ej, hle]
                      rw [Sort.partLoop_eq, ← hS] at hI
                      have hT' : k = Sort.scanDown (fun x => !Sort.ltInt x dk[a]!) dk i2 j := hT
                      rw [← hT'] at hI
                      by_cases hgt : k < i2
                      · have ia := Suint32.ix hD a (by omega)
                        have ik := Suint32.ix hD k (by omega)
                        rw [if_pos hgt] at hI
                        simp [hgt]
                        refine WC_drS 13 rfl (by kernel_rfl) fun W2 hW2 => ?_
                        replace hD := hD.dr hW2
                        replace hM := hM.dr hW2
                        obtain ⟨c1, c2, f1, c3, f2⟩ := hD.facts k a (by omega) (by omega)
                        simp [e0, e1, ej, ia, ik, c1, c2, f1, c3, f2]
                        rw [Sort.partition_fst, Sort.partition_arr, ← hI]
                        exact ⟨rfl, hD.swap (by omega) (by omega), hD.mswap hM (by omega) _ _⟩
                      · rw [if_neg hgt] at hI
                        have hne : i2 ≠ k := fun e => by
                          have h1 := hu (by omega)
                          have h2 := hd (by omega)
                          rw [e] at h1; rw [h1] at h2; cases h2
                        have wi2_ : IntKind.i64.wrap ((i2 : Int) + 1) = ((i2 + 1 : Nat) : Int) := wnat _ _ (by omega) (by omega)
                        have wk_ : IntKind.i64.wrap ((k : Int) - 1) = ((k - 1 : Nat) : Int) := wnat _ _ (by omega) (by omega)
                        have ii := Suint32.ix hD i2 (by omega)
                        have ik := Suint32.ix hD k (by omega)
                        simp [hgt]
                        refine WC_drS 13 rfl (by kernel_rfl) fun W2 hW2 => ?_
                        replace hD := hD.dr hW2
                        replace hM := hM.dr hW2
                        obtain ⟨c1, c2, f1, c3, f2⟩ := hD.facts i2 k (by omega) (by omega)
                        have hD2 := hD.swap (i := i2) (j := k) (by omega) (by omega)
                        have hM2 := hD.mswap (j := k) hM (i := i2) (by omega) (.int .u32 (at_ dk k)) (.int .u32 (at_ dk i2))
                        simp [e0, e1, ei, ej, ii, ik, c1, c2, f1, c3, f2]
                        rw [wi2_, wk_]
                        exact ⟨k - 1 + 1 - (i2 + 1), by omega, i2 + 1, k - 1, rfl, by omega, by omega, by omega, rfl, rfl, _, hD2, by rw [size_swp]; exact hz, hI, hM2⟩
end Go.Proofs
