/-
  Contracts of the functions that the law reaches, step by step.
-/
import Derived.Test.YtfppepjaopbanaaSrtG
namespace Go.Proofs
open Pk
set_option maxRecDepth 10000
/- SCAN: $1 i's slot, $2 j's slot, $3 the upward test, $4 the downward test, $5 less's arguments (up, of i2), $6 (down, of j2), $7 what less says when the upward scan goes on, $8 the downward one, $9 what follows -/
set_option maxHeartbeats 4000000 in
theorem Suint32.peq_c {w : World} {v : Value} {d : Array Int} {a b pivot : Nat} (hA : Suint32.A w v d) (hap : a ≤ pivot) (hpb : pivot < b) (hb : b ≤ d.size) (hn : d.size ≤ 1048576) :
    FN Try.prog 81 [v, .int .i64 a, .int .i64 b, .int .i64 pivot] w fun e w' => e = .returned (.int .i64 (Sort.partitionEqual Sort.ltInt d a b pivot).1) ∧ Suint32.A w' v (Sort.partitionEqual Sort.ltInt d a b pivot).2 ∧ Mod (Sv v) w w' := by
  refine FN_enter Try.func81 rfl rfl (by kernel_rfl) ?_
  have w1_ : IntKind.i64.wrap ((a : Int) + 1) = ((a + 1 : Nat) : Int) := wnat _ _ (by omega) (by omega)
  have w2_ : IntKind.i64.wrap ((b : Int) - 1) = ((b - 1 : Nat) : Int) := wnat _ _ (by omega) (by omega)
  have ia := Suint32.ix hA a (by omega)
  have ip := Suint32.ix hA pivot (by omega)
  simp
  refine WC_drS 13 rfl (by kernel_rfl) fun W hW => ?_
  have hD := hA.dr hW
  have hM : Mod (Sv v) w W := (Mod.refl _ _).dr hW
  obtain ⟨c1, c2, f1, c3, f2⟩ := hD.facts a pivot (by omega) (by omega)
  simp [ia, ip, c1, c2, f1, c3, f2]
  rw [w1_, w2_]
  have hD1 := hD.swap (i := a) (j := pivot) (by omega) (by omega)
  have hM1 := hD.mswap (j := pivot) hM (i := a) (by omega) (.int .u32 (at_ d pivot)) (.int .u32 (at_ d a))
  refine WC_loop (fun k ρ ds w' => ∃ (i j : Nat) (dk : Array Int), k = j + 1 - i ∧ a < i ∧ i ≤ j + 1 ∧ j < b ∧ ρ 0 = v ∧ ρ 1 = .int .i64 a ∧ ρ 9 = .int .i64 i ∧ ρ 10 = .int .i64 j ∧ ds = [] ∧ Suint32.A w' v dk ∧ dk.size = d.size ∧
    Sort.partEqLoop Sort.ltInt a i j dk = Sort.partEqLoop Sort.ltInt a (a + 1) (b - 1) (Sort.swp d a pivot) ∧ Mod (Sv v) w w') (b - 1 + 1 - (a + 1)) ⟨a + 1, b - 1, Sort.swp d a pivot, ?_⟩ ?_
  · simp
    exact ⟨by omega, by omega, hD1, size_swp _ _ _, hM1⟩
  · rintro k ρ ds w1 ⟨i, j, dk, rfl, hai, hij, hjb, e0, e1, ei, ej, rfl, hD, hz, hI, hM⟩
    simp
    refine WC_loop (fun k ρ ds w' => ∃ i2 : Nat, k = j + 1 - i2 ∧ i ≤ i2 ∧ i2 ≤ j + 1 ∧ ρ 0 = v ∧ ρ 1 = .int .i64 a ∧ ρ 9 = .int .i64 i2 ∧ ρ 10 = .int .i64 j ∧ ds = [] ∧ Suint32.A w' v dk ∧
      Sort.scanUp (fun x => !Sort.ltInt dk[a]! x) dk j i2 = Sort.scanUp (fun x => !Sort.ltInt dk[a]! x) dk j i ∧ Mod (Sv v) w w') (j + 1 - i) ⟨i, ?_⟩ ?_
    · simp [e0, e1, ei, ej]
      exact ⟨hij, hD, hM⟩
    · rintro k ρ ds w2 ⟨i2, rfl, hi2, hij2, e0, e1, ei, ej, rfl, hD, hS, hM⟩
      have wi_ : IntKind.i64.wrap ((i2 : Int) + 1) = ((i2 + 1 : Nat) : Int) := wnat _ _ (by omega) (by omega)
      have ia := Suint32.ix hD a (by omega)
      simp
      refine WC_drQ 12 rfl (by kernel_rfl) fun W hW => ?_
      replace hD := hD.dr hW
      replace hM := hM.dr hW
      by_cases hle : i2 ≤ j
      · have ii := Suint32.ix hD i2 (by omega)
        obtain ⟨ca, ci, -⟩ := hD.facts a i2 (by omega) (by omega)
        simp [e0, e1, ei, ej, hle, ia, ii, ca, ci]
        refine FN.mono (Suint32.less_c (at_ dk a) (at_ dk i2) W) ?_
        rintro _ _ ⟨rfl, rfl⟩
        simp
        by_cases hl : Sort.ltInt (at_ dk a) (at_ dk i2) = false
        · rw [← su_go (fun x => !Sort.ltInt dk[a]! x) hle (by simpa [at_] using hl)] at hS
          simp [hl, e0, e1, ei, ej]
          rw [wi_]
          exact ⟨j + 1 - (i2 + 1), by omega, i2 + 1, rfl, by omega, by omega, rfl, hD, hS, hM⟩
        · replace hl := (Bool.eq_not).2 hl
          simp only [Bool.not_false] at hl
          have hu : i2 ≤ j → Sort.ltInt (at_ dk a) (at_ dk i2) = !false := fun _ => hl
          rw [su_end (fun x => !Sort.ltInt dk[a]! x) (.inr (by simpa [at_] using hl))] at hS
          simp [hl]
          refine WC_loop (fun k ρ ds w' => ∃ j2 : Nat, k = j2 ∧ j2 ≤ j ∧ i2 ≤ j2 + 1 ∧ ρ 0 = v ∧ ρ 1 = .int .i64 a ∧ ρ 9 = .int .i64 i2 ∧ ρ 10 = .int .i64 j2 ∧ ds = [] ∧ Suint32.A w' v dk ∧
            Sort.scanDown (fun x => Sort.ltInt dk[a]! x) dk i2 j2 = Sort.scanDown (fun x => Sort.ltInt dk[a]! x) dk i2 j ∧ Mod (Sv v) w w') j ⟨j, ?_⟩ ?_
          · simp [e0, e1, ei, ej]
            exact ⟨hij2, hD, hM⟩
          · rintro k ρ ds w2 ⟨j2, rfl, hj2, hij3, e0, e1, ei, ej, rfl, hD, hT, hM⟩
            have ia := Suint32.ix hD a (by omega)
            simp
            refine WC_drQ 12 rfl (by kernel_rfl) fun W hW => ?_
            replace hD := hD.dr hW
            replace hM := hM.dr hW
            by_cases hle : i2 ≤ k
            · obtain ⟨p, hp⟩ : ∃ p, k = p + 1 := ⟨k - 1, by omega⟩
              have wj_ : IntKind.i64.wrap ((k : Int) - 1) = (p : Int) := wnat _ _ (by omega) (by omega)
              have ik := Suint32.ix hD k (by omega)
              obtain ⟨ca, ck, -⟩ := hD.facts a k (by omega) (by omega)
              simp [e0, e1, ei, ej, hle, ia, ik, ca, ck]
              refine FN.mono (Suint32.less_c (at_ dk a) (at_ dk k) W) ?_
              rintro _ _ ⟨rfl, rfl⟩
              simp
              by_cases hl2 : Sort.ltInt (at_ dk a) (at_ dk k) = true
              · rw [← sd_go (fun x => Sort.ltInt dk[a]! x) hle hp (by simpa [at_] using hl2)] at hT
                simp [hl2, e0, e1, ei, ej, wj_]
                exact ⟨p, by omega, by omega, by omega, rfl, hD, hT, hM⟩
              · replace hl2 := (Bool.eq_not).2 hl2
                simp only [Bool.not_true] at hl2
                have hd : i2 ≤ k → Sort.ltInt (at_ dk a) (at_ dk k) = !true := fun _ => hl2
                rw [sd_end (fun x => Sort.ltInt dk[a]! x) (.inr (by simpa [at_] using hl2))] at hT
                simp [hl2]
                rw [Sort.partEqLoop_eq, ← hS] at hI
                have hT' : k = Sort.scanDown (fun x => Sort.ltInt dk[a]! x) dk i2 j := hT
                rw [← hT'] at hI
                by_cases hgt : k < i2
                · rw [if_pos hgt] at hI
                  simp [ei, ej, hgt]
                  unfold Sort.partitionEqual
                  rw [← hI]
                  exact ⟨rfl, hD, hM⟩
                · rw [if_neg hgt] at hI
                  have hne : i2 ≠ k := fun e => by
                    have h1 := hu (by omega)
                    have h2 := hd (by omega)
                    rw [e] at h1; rw [h1] at h2; cases h2
                  have wi2_ : IntKind.i64.wrap ((i2 : Int) + 1) = ((i2 + 1 : Nat) : Int) := wnat _ _ (by omega) (by omega)
                  have wk_ : IntKind.i64.wrap ((k : Int) - 1) = ((k - 1 : Nat) : Int) := wnat _ _ (by omega) (by omega)
                  have ii := Suint32.ix hD i2 (by omega)
                  have ik := Suint32.ix hD k (by omega)
                  simp [ei, ej, hgt]
                  refine WC_drS 13 rfl (by kernel_rfl) fun W2 hW2 => ?_
                  replace hD := hD.dr hW2
                  replace hM := hM.dr hW2
                  obtain ⟨c1, c2, f1, c3, f2⟩ := hD.facts i2 k (by omega) (by omega)
                  simp [e0, e1, ei, ej, ii, ik, c1, c2, f1, c3, f2]
                  rw [wi2_, wk_]
                  exact ⟨k - 1 + 1 - (i2 + 1), by omega, i2 + 1, k - 1, rfl, by omega, by omega, by omega, rfl, rfl, _, hD.swap (by omega) (by omega), by rw [size_swp]; exact hz, hI, hD.mswap hM (by omega) _ _⟩
            · have hd : i2 ≤ k → Sort.ltInt (at_ dk a) (at_ dk k) = !true := fun h => (hle h).elim
              rw [sd_end (fun x => Sort.ltInt dk[a]! x) (.inl hle)] at hT
              simp [ei, ej, hle]
              rw [Sort.partEqLoop_eq, ← hS] at hI
              have hT' : k = Sort.scanDown (fun x => Sort.ltInt dk[a]! x) dk i2 j := hT
              rw [← hT'] at hI
              by_cases hgt : k < i2
              · rw [if_pos hgt] at hI
                simp [ei, hgt]
                unfold Sort.partitionEqual
                rw [← hI]
                exact ⟨rfl, hD, hM⟩
              · rw [if_neg hgt] at hI
                have hne : i2 ≠ k := fun e => by
                  have h1 := hu (by omega)
                  have h2 := hd (by omega)
                  rw [e] at h1; rw [h1] at h2; cases h2
                have wi2_ : IntKind.i64.wrap ((i2 : Int) + 1) = ((i2 + 1 : Nat) : Int) := wnat _ _ (by omega) (by omega)
                have wk_ : IntKind.i64.wrap ((k : Int) - 1) = ((k - 1 : Nat) : Int) := wnat _ _ (by omega) (by omega)
                have ii := Suint32.ix hD i2 (by omega)
                have ik := Suint32.ix hD k (by omega)
                simp [hgt]
                refine WC_drS 13 rfl (by kernel_rfl) fun W2 hW2 => ?_
                replace hD := hD.dr hW2
                replace hM := hM.dr hW2
                obtain ⟨c1, c2, f1, c3, f2⟩ := hD.facts i2 k (by omega) (by omega)
                simp [e0, e1, ei, ej, ii, ik, c1, c2, f1, c3, f2]
                rw [wi2_, wk_]
                exact ⟨k - 1 + 1 - (i2 + 1), by omega, i2 + 1, k - 1, rfl, by omega, by omega, by omega, rfl, rfl, _, hD.swap (by omega) (by omega), by rw [size_swp]; exact hz, hI, hD.mswap hM (by omega) _ _⟩
      · have hu : i2 ≤ j → Sort.ltInt (at_ dk a) (at_ dk i2) = !false := fun h => (hle h).elim
        rw [su_end (fun x => !Sort.ltInt dk[a]! x) (.inl hle)] at hS
        simp [ei, ej, hle]
        refine WC_loop (fun k ρ ds w' => ∃ j2 : Nat, k = j2 ∧ j2 ≤ j ∧ i2 ≤ j2 + 1 ∧ ρ 0 = v ∧ ρ 1 = .int .i64 a ∧ ρ 9 = .int .i64 i2 ∧ ρ 10 = .int .i64 j2 ∧ ds = [] ∧ Suint32.A w' v dk ∧
          Sort.scanDown (fun x => Sort.ltInt dk[a]! x) dk i2 j2 = Sort.scanDown (fun x => Sort.ltInt dk[a]! x) dk i2 j ∧ Mod (Sv v) w w') j ⟨j, ?_⟩ ?_
        · simp [e0, e1, ei, ej]
          exact ⟨hij2, hD, hM⟩
        · rintro k ρ ds w2 ⟨j2, rfl, hj2, hij3, e0, e1, ei, ej, rfl, hD, hT, hM⟩
          have ia := Suint32.ix hD a (by omega)
          simp
          refine WC_drQ 12 rfl (by kernel_rfl) fun W hW => ?_
          replace hD := hD.dr hW
          replace hM := hM.dr hW
          by_cases hle : i2 ≤ k
          · obtain ⟨p, hp⟩ : ∃ p, k = p + 1 := ⟨k - 1, by omega⟩
            have wj_ : IntKind.i64.wrap ((k : Int) - 1) = (p : Int) := wnat _ _ (by omega) (by omega)
            have ik := Suint32.ix hD k (by omega)
            obtain ⟨ca, ck, -⟩ := hD.facts a k (by omega) (by omega)
            simp [e0, e1, ei, ej, hle, ia, ik, ca, ck]
            refine FN.mono (Suint32.less_c (at_ dk a) (at_ dk k) W) ?_
            rintro _ _ ⟨rfl, rfl⟩
            simp
            by_cases hl2 : Sort.ltInt (at_ dk a) (at_ dk k) = true
            · rw [← sd_go (fun x => Sort.ltInt dk[a]! x) hle hp (by simpa [at_] using hl2)] at hT
              simp [hl2, e0, e1, ei, ej, wj_]
              exact ⟨p, by omega, by omega, by omega, rfl, hD, hT, hM⟩
            · replace hl2 := (Bool.eq_not).2 hl2
              simp only [Bool.not_true] at hl2
              have hd : i2 ≤ k → Sort.ltInt (at_ dk a) (at_ dk k) = !true := fun _ => hl2
              rw [sd_end (fun x => Sort.ltInt dk[a]! x) (.inr (by simpa [at_] using hl2))] at hT
              simp [hl2]
              rw [Sort.partEqLoop_eq, ← hS] at hI
              have hT' : k = Sort.scanDown (fun x => Sort.ltInt dk[a]! x) dk i2 j := hT
              rw [← hT'] at hI
              by_cases hgt : k < i2
              · rw [if_pos hgt] at hI
                simp [ei, ej, hgt]
                unfold Sort.partitionEqual
                rw [← hI]
                exact ⟨rfl, hD, hM⟩
              · rw [if_neg hgt] at hI
                have hne : i2 ≠ k := fun e => by
                  have h1 := hu (by omega)
                  have h2 := hd (by omega)
                  rw [e] at h1; rw [h1] at h2; cases h2
                have wi2_ : IntKind.i64.wrap ((i2 : Int) + 1) = ((i2 + 1 : Nat) : Int) := wnat _ _ (by omega) (by omega)
                have wk_ : IntKind.i64.wrap ((k : Int) - 1) = ((k - 1 : Nat) : Int) := wnat _ _ (by omega) (by omega)
                have ii := Suint32.ix hD i2 (by omega)
                have ik := Suint32.ix hD k (by omega)
                simp [ei, ej, hgt]
                refine WC_drS 13 rfl (by kernel_rfl) fun W2 hW2 => ?_
                replace hD := hD.dr hW2
                replace hM := hM.dr hW2
                obtain ⟨c1, c2, f1, c3, f2⟩ := hD.facts i2 k (by omega) (by omega)
                simp [e0, e1, ei, ej, ii, ik, c1, c2, f1, c3, f2]
                rw [wi2_, wk_]
                exact ⟨k - 1 + 1 - (i2 + 1), by omega, i2 + 1, k - 1, rfl, by omega, by omega, by omega, rfl, rfl, _, hD.swap (by omega) (by omega), by rw [size_swp]; exact hz, hI, hD.mswap hM (by omega) _ _⟩
          · have hd : i2 ≤ k → Sort.ltInt (at_ dk a) (at_ dk k) = !true := fun h => (hle h).elim
            rw [sd_end (fun x => Sort.ltInt dk[a]! x) (.inl hle)] at hT
            simp [ei, ej, hle]
            rw [Sort.partEqLoop_eq, ← hS] at hI
            have hT' : k = Sort.scanDown (fun x => Sort.ltInt dk[a]! x) dk i2 j := hT
            rw [← hT'] at hI
            by_cases hgt : k < i2
            · rw [if_pos hgt] at hI
              simp [ei, hgt]
              unfold Sort.partitionEqual
              rw [← hI]
              exact ⟨rfl, hD, hM⟩
            · rw [if_neg hgt] at hI
              have hne : i2 ≠ k := fun e => by
                have h1 := hu (by omega)
                have h2 := hd (by omega)
                rw [e] at h1; rw [h1] at h2; cases h2
              have wi2_ : IntKind.i64.wrap ((i2 : Int) + 1) = ((i2 + 1 : Nat) : Int) := wnat _ _ (by omega) (by omega)
              have wk_ : IntKind.i64.wrap ((k : Int) - 1) = ((k - 1 : Nat) : Int) := wnat _ _ (by omega) (by omega)
              have ii := Suint32.ix hD i2 (by omega)
              have ik := Suint32.ix hD k (by omega)
              simp [hgt]
              refine WC_drS 13 rfl (by kernel_rfl) fun W2 hW2 => ?_
              replace hD := hD.dr hW2
              replace hM := hM.dr hW2
              obtain ⟨c1, c2, f1, c3, f2⟩ := hD.facts i2 k (by omega) (by omega)
              simp [e0, e1, ei, ej, ii, ik, c1, c2, f1, c3, f2]
              rw [wi2_, wk_]
              exact ⟨k - 1 + 1 - (i2 + 1), by omega, i2 + 1, k - 1, rfl, by omega, by omega, by omega, rfl, rfl, _, hD.swap (by omega) (by omega), by rw [size_swp]; exact hz, hI, hD.mswap hM (by omega) _ _⟩
end Go.Proofs
