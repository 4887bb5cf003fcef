/-
  Contracts of the functions that the law reaches, step by step.
-/
import Derived.Test.YtigdaggjbnnjgaaSpJ
namespace Go.Proofs
open Pk
set_option maxRecDepth 10000
/-- What a table of that many steps has. -/
structure FullT (M : ME) (i : Nat) : Prop where
  tot : total M = min i 512
  keys : ∀ q k, (mget (sps M q) k).isSome = true → 0 ≤ k ∧ k < i ∧ q = (1 + k % 5, 9)
  zero : 0 < i → mget (sps M (1, 9)) 0 = some 3
theorem mem_key {m : ML} {k : Int} (h : k ∈ m.map (·.1)) : (mget m k).isSome = true := by
  cases hg : mget m k with
  | some v => rfl
  | none =>
    obtain ⟨p, hp, rfl⟩ := List.mem_map.1 h
    exact absurd rfl (kget_none hg p hp)
set_option maxHeartbeats 1000000 in
theorem SpanFull_c {w : World} (n : Int) : FN Try.prog 4 [.int .i64 n] w fun e w' => e = .returned (.bool true) ∧ Ext w w' := by
  refine FN_enter Try.func4 rfl rfl (by kernel_rfl) ?_
  have early : FN Try.prog 6 [] w (fun e w' => e = .returned (.bool true) ∧ Ext w w') := works_c w
  by_cases h1 : n < 509
  · simp [h1]
    refine FN.mono (works_c w) ?_
    rintro _ w1 ⟨rfl, hE⟩
    simp
    exact hE
  by_cases h2 : 515 < n
  · simp [h1, h2]
    refine FN.mono (works_c w) ?_
    rintro _ w1 ⟨rfl, hE⟩
    simp
    exact hE
  simp [h1, h2]
  refine FN.mono (new_c w) ?_
  rintro _ w1 ⟨t, R, rfl, ht, hE1, hlt, hlr⟩
  have o1 := OwnT.new ht hE1 hlt hlr
  simp
  refine WC_loop (fun k ρ ds w' => ∃ (i : Nat) (M : ME), k = n.toNat - i ∧ (i : Int) ≤ n ∧ ρ 0 = .int .i64 n ∧ ρ 3 = ptr t ∧ ρ 4 = .int .i64 i ∧ ds = [] ∧ OwnT w w' t R M ∧ FullT M i) n.toNat
    ⟨0, [], by simp, by omega, by simp, by simp, by simp, rfl, o1, ⟨by simp [total], fun q k h => by simp [sps, kget_nil] at h, fun h => by omega⟩⟩ ?_
  rintro k ρ ds w2 ⟨i, M, rfl, hi, e0, e3, e4, rfl, o2, hT⟩
  have htot := hT.tot
  by_cases hin : (i : Int) < n
  · have hw1 : IntKind.i64.wrap (1 + (i : Int).tmod 5) = 1 + (i : Int) % 5 := by
      rw [Int.tmod_eq_emod_of_nonneg (by omega)]; exact wrap64 _ (by omega) (by omega)
    have hw2 : IntKind.u32.wrap (1 + (i : Int) % 5) = 1 + (i : Int) % 5 := wrap32u _ (by omega) (by omega)
    have hw3 : IntKind.u64.wrap (i : Int) = i := wrap64u _ (by omega) (by omega)
    simp [e0, e3, e4, hin, hw1, hw2, hw3]
    refine FN.mono (setM o2 (by omega) ⟨1 + (i : Int) % 5, 9, i, 3⟩) ?_
    rintro _ w3 ⟨rfl, M3, o3, s3, n3⟩
    have hno : mget (sps M (1 + (i : Int) % 5, 9)) i = none := by
      cases hg : mget (sps M (1 + (i : Int) % 5, 9)) (i : Int) with
      | none => rfl
      | some v => have := (hT.keys _ (i : Int) (by rw [hg]; rfl)).2.1; omega
    have hb : badS ⟨1 + (i : Int) % 5, 9, i, 3⟩ = false := by
      unfold badS
      simp only [Bool.or_eq_false_iff, decide_eq_false_iff_not]
      omega
    have hE : setE M ⟨1 + (i : Int) % 5, 9, i, 3⟩ = if i < 512 then 0 else 280 := by
      simp [setE, hb, hno, htot]
      by_cases h : i < 512
      · rw [if_neg (by omega), if_pos h]
      · rw [if_pos (by omega), if_neg h]
    have hW : wasS M ⟨1 + (i : Int) % 5, 9, i, 3⟩ = false := by simp [wasS, hno]
    rw [hE] at s3 n3
    rw [hW] at n3
    have hT3 : FullT M3 (i + 1) := by
      refine ⟨?_, ?_, ?_⟩
      · rw [n3, htot]
        by_cases h : i < 512
        · simp [h]; omega
        · simp [h]; omega
      · intro q k hk
        rw [s3] at hk
        by_cases h : i < 512
        · by_cases hq : q = (1 + (i : Int) % 5, 9)
          · simp only [h, if_true, hq, true_and, kget_mset] at hk
            by_cases hki : k = i
            · subst hki; exact ⟨by omega, by omega, hq⟩
            · rw [if_neg hki] at hk
              have := hT.keys _ k hk
              rw [hq]
              exact ⟨this.1, by omega, this.2.2⟩
          · simp only [hq, and_false, if_false] at hk
            have := hT.keys _ k hk
            exact ⟨this.1, by omega, this.2.2⟩
        · simp [h] at hk
          have := hT.keys _ k hk
          exact ⟨this.1, by omega, this.2.2⟩
      · intro _
        rw [s3]
        by_cases h : i < 512
        · by_cases h0 : i = 0
          · subst h0
            simp [kget_mset]
          · have h0' := hT.zero (by omega)
            rw [if_pos h]
            by_cases hq : ((1 : Int), (9 : Int)) = (1 + (i : Int) % 5, 9)
            · rw [if_pos ⟨rfl, hq⟩, kget_mset, if_neg (by simp only; omega)]; exact h0'
            · rw [if_neg (fun h => hq h.2)]; exact h0'
        · simp [h]
          exact hT.zero (by omega)
    have hnext : ∃ m', m' < n.toNat - i ∧ ∃ (i' : Nat), m' = n.toNat - i' ∧ (i' : Int) ≤ n ∧ IntKind.i64.wrap ((i : Int) + 1) = (i' : Int) ∧ ∃ M, OwnT w w3 t R M ∧ FullT M i' :=
      ⟨n.toNat - (i + 1), by omega, i + 1, rfl, by omega, by rw [wrap64 _ (by omega) (by omega)]; rfl, M3, o3, hT3⟩
    rw [hE, hW]
    by_cases h : i < 512
    · have h' : (i : Int) < 512 := by omega
      have h'' : ¬ (512 : Int) ≤ i := by omega
      rw [if_pos h]
      simp [e4, h']
      refine FN.mono (num_c 0 w3) ?_
      rintro _ w21 ⟨rfl, hw⟩
      rw [hw]
      simp [e0, e3, e4, h'']
      exact hnext
    · have h' : ¬ (i : Int) < 512 := by omega
      have h'' : (512 : Int) ≤ i := by omega
      rw [if_neg h]
      simp [e4, h', h'']
      refine FN.mono (num_c 280 w3) ?_
      rintro _ w22 ⟨rfl, hw⟩
      rw [hw]
      simp [e0, e3, e4]
      exact hnext
  · have hin' : n = (i : Int) := by omega
    simp [e0, e3, e4, hin]
    refine FN.mono (setM o2 (by omega) ⟨1, 9, 0, 4⟩) ?_
    rintro _ w3 ⟨rfl, M3, o3, s3, n3⟩
    have h0 := hT.zero (by omega)
    have hb : badS ⟨1, 9, 0, 4⟩ = false := by decide
    have hE : setE M ⟨1, 9, 0, 4⟩ = 0 := by simp [setE, hb, h0]
    have hW : wasS M ⟨1, 9, 0, 4⟩ = true := by simp [wasS, hE, h0]
    rw [hE] at s3 n3 ⊢
    rw [hW] at n3 ⊢
    have hs : sps M3 (1, 9) = mset (sps M (1, 9)) 0 4 := by rw [s3]; simp
    have hl : lk 2 ((sps M3 (1, 9)).map (·.1)) = some 0 := by
      refine isLast.uniq (lk_last 2 _) ⟨?_, by omega, fun k hk hk2 => ?_⟩
      · have : mget (sps M3 (1, 9)) 0 = some 4 := by rw [hs, kget_mset]; rfl
        exact List.mem_map.2 ⟨_, kget_mem this, rfl⟩
      · have := mem_key hk
        rw [hs, kget_mset] at this
        by_cases hk0 : k = 0
        · omega
        · rw [if_neg hk0] at this
          have := hT.keys _ k this
          have h5 := congrArg Prod.fst this.2.2
          simp only at h5
          omega
    have htk : tk (sps M3 (1, 9)) 2 = 4 := by
      unfold tk
      rw [hl]
      simp only
      rw [hs, kget_mset]; rfl
    simp
    refine FN.mono (num_c 0 w3) ?_
    rintro _ w23 ⟨rfl, hw⟩
    rw [hw]
    simp [e3]
    refine FN.mono (ticks_c o3.tab 1 9 2) ?_
    rintro _ w4 ⟨rfl, hE4⟩
    rw [htk]
    have o4 := o3.ext' hE4
    simp [e3]
    refine FN.mono (len_c o4.tab) ?_
    rintro _ w5 ⟨rfl, hw⟩
    rw [hw]
    have hmin : ((total M3 : Nat) : Int) = min n 512 := by rw [n3]; simp; omega
    rw [hmin]
    simp [e0]
    refine FN.mono (works_c w4) ?_
    rintro _ w6 ⟨rfl, hE6⟩
    simp
    exact o4.ext.trans hE6
end Go.Proofs
