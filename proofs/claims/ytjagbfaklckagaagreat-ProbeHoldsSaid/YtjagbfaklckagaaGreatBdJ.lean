/-
  Contracts of the functions that the law reaches, step by step.
-/
import Derived.Test.YtjagbfaklckagaaGreatBdI
namespace Go.Proofs
open Pk
set_option maxRecDepth 10000
def FullW (what : Int) (b : Bd) (i : Nat) : Prop := (what = 0 → Full0 b i) ∧ (what = 1 → Full1 b i) ∧ (¬ what = 0 → ¬ what = 1 → Full2 b i)
set_option maxHeartbeats 2000000 in
theorem ProbeFull_c {w : World} (n what : Int) : FN Tryz.prog 3 [i64 n, i64 what] w fun e w' => e = .returned (.bool true) ∧ Ext w w' := by
  refine FN_enter Tryz.func3 rfl rfl (by kernel_rfl) ?_
  by_cases h1 : n < 253
  · simp [h1]
    refine FN.mono (works_c w) ?_
    rintro _ w1 ⟨rfl, hE⟩
    simp
    exact hE
  by_cases h2 : 259 < n
  · simp [h1, h2]
    refine FN.mono (works_c w) ?_
    rintro _ w1 ⟨rfl, hE⟩
    simp
    exact hE
  simp [h1, h2]
  refine FN.mono (newB_c (p := 9) (by omega) w) ?_
  rintro _ w1 ⟨h, -⟩
  obtain ⟨t, rF, rQ, rA, rfl, hB, hE1, hfr⟩ := h (by omega)
  have ge : ∀ k, (k = t ∨ k = rF ∨ k = rQ ∨ k = rA) → w.heap.size ≤ k := hfr
  simp
  refine WC_loop (fun k ρ ds w' => ∃ (i : Nat) (b : Bd), k = n.toNat - i ∧ (i : Int) ≤ n ∧ ρ 0 = .int .i64 n ∧ ρ 1 = .int .i64 what ∧ ρ 5 = ptr t ∧ ρ 6 = i64 0 ∧ ρ 7 = .int .i64 i ∧ ds = [] ∧ BdAt w' t rF rQ rA b ∧ Mod (fun k => w.heap.size ≤ k) w w' ∧ FullW what b i) n.toNat
    ⟨0, ⟨[], [], [], 9, 0⟩, by simp, by omega, by simp, by simp, by simp, by simp, by simp, rfl, hB, hE1.mod, fun _ => ⟨rfl, by simp⟩, fun _ => ⟨rfl, by simp, by simp, by simp, fun x hx => (by cases hx), rfl⟩, fun _ _ => ⟨rfl, by simp⟩⟩ ?_
  rintro k ρ ds w2 ⟨i, b, rfl, hi, e0, e1, e5, e6, e7, rfl, hB2, hM2, hF⟩
  by_cases hin : (i : Int) < n
  · have hw1 : IntKind.i64.wrap ((i : Int) + 1) = i + 1 := wrap64 _ (by omega) (by omega)
    have hw2 : IntKind.u32.wrap ((i : Int) + 1) = i + 1 := wrap32u _ (by omega) (by omega)
    have hw3 : IntKind.u64.wrap (i : Int) = i := wrap64u _ (by omega) (by omega)
    have hw4 : IntKind.i64.wrap ((i : Int) + 9) = i + 9 := wrap64 _ (by omega) (by omega)
    have hw5 : IntKind.u64.wrap ((i : Int) + 9) = i + 9 := wrap64u _ (by omega) (by omega)
    have hw6 : IntKind.u32.wrap (i : Int) = i := wrap32u _ (by omega) (by omega)
    have fin : fullE i = 0 ∧ i < 256 ∨ fullE i = 330 ∧ 256 ≤ i := by
      unfold fullE
      by_cases h : i < 256
      · exact .inl ⟨if_pos h, h⟩
      · exact .inr ⟨if_neg h, by omega⟩
    by_cases q0 : what = 0
    · simp [e0, e1, e5, e7, hin, hw1, hw2, q0]
      obtain ⟨s1, s2⟩ := full_step0 (hF.1 q0)
      refine FN.mono (ask_c hB2 ((i : Int) + 1) 2 3) ?_
      rintro _ w3 ⟨rfl, hB3, hM3⟩
      have hM3' := hM2.trans (hM3.weaken fun k hk => ge k (by rcases hk with h | h <;> simp [h]))
      rw [s1]
      have hF3 : FullW what (askB b ((i : Int) + 1) 2 3) (i + 1) := ⟨fun _ => s2, fun h => by omega, fun h => absurd q0 h⟩
      rcases fin with ⟨f1, f2⟩ | ⟨f1, f2⟩
      · have g1 : (i : Int) < 256 := by omega
        have g2 : ¬ (256 : Int) ≤ i := by omega
        simp [e7, f1, g1]
        refine FN.mono (num_c _ _) ?_
        rintro _ w9 ⟨rfl, rfl⟩
        simp [e0, e1, e5, e6, e7, g2, hw1]
        exact ⟨n.toNat - (i + 1), by omega, i + 1, rfl, by omega, by push_cast; rfl, _, hB3, hM3', hF3⟩
      · have g1 : ¬ (i : Int) < 256 := by omega
        have g2 : (256 : Int) ≤ i := by omega
        simp [e7, f1, g1, g2]
        refine FN.mono (num_c _ _) ?_
        rintro _ w9 ⟨rfl, rfl⟩
        simp [e0, e1, e5, e6, e7, hw1]
        exact ⟨n.toNat - (i + 1), by omega, i + 1, rfl, by omega, by push_cast; rfl, _, hB3, hM3', hF3⟩
    by_cases q1 : what = 1
    · simp [beq_dec, e0, e1, e5, e7, hin, hw1, hw2, q1]
      obtain ⟨s0, sq, s1, s2⟩ := full_step1 (hF.2.1 q1) (by omega)
      have hbn := (hF.2.1 q1).2.2.2.2.2
      refine FN.mono (ask_c hB2 ((i : Int) + 1) 2 3) ?_
      rintro _ w3 ⟨rfl, hB3, hM3⟩
      have hM3' := hM2.trans (hM3.weaken fun k hk => ge k (by rcases hk with h | h <;> simp [h]))
      rw [s0, hbn]
      simp [e5, e7, hw1, hw2, hw3]
      refine FN.mono (answer_c (r := rT i i) hB3 sq (rT_ok (by omega))) ?_
      rintro _ w4 ⟨rfl, hB4, hM4⟩
      have hM4' := hM3'.trans (hM4.weaken fun k hk => ge k (by rcases hk with h | h <;> simp [h]))
      rw [s1]
      have hF4 : FullW what (ansB (askB b ((i : Int) + 1) 2 3) (rT i i)) (i + 1) := ⟨fun h => by omega, fun _ => s2, fun _ h => absurd q1 h⟩
      simp
      refine FN.mono (num_c 0 _) ?_
      rintro _ w5 ⟨rfl, rfl⟩
      rcases fin with ⟨f1, f2⟩ | ⟨f1, f2⟩
      · have g1 : (i : Int) < 256 := by omega
        have g2 : ¬ (256 : Int) ≤ i := by omega
        simp [e7, f1, g1]
        refine FN.mono (num_c _ _) ?_
        rintro _ w9 ⟨rfl, rfl⟩
        simp [e0, e1, e5, e6, e7, g2, hw1]
        exact ⟨n.toNat - (i + 1), by omega, i + 1, rfl, by omega, by push_cast; rfl, _, hB4, hM4', hF4⟩
      · have g1 : ¬ (i : Int) < 256 := by omega
        have g2 : (256 : Int) ≤ i := by omega
        simp [e7, f1, g1, g2]
        refine FN.mono (num_c _ _) ?_
        rintro _ w9 ⟨rfl, rfl⟩
        simp [e0, e1, e5, e6, e7, hw1]
        exact ⟨n.toNat - (i + 1), by omega, i + 1, rfl, by omega, by push_cast; rfl, _, hB4, hM4', hF4⟩
    · simp [beq_dec, e0, e1, e5, e7, hin, hw3, hw4, hw5, q0, q1]
      obtain ⟨s1, s2⟩ := full_step2 (hF.2.2 q0 q1) (by omega)
      refine FN.mono (fore_c (r := rF' i) hB2 (rF_ok (by omega))) ?_
      rintro _ w3 ⟨rfl, hB3, hM3⟩
      have hM3' := hM2.trans (hM3.weaken fun k hk => ge k (by simp [hk]))
      rw [s1]
      have hF3 : FullW what (foreBd b (rF' i)) (i + 1) := ⟨fun h => absurd h q0, fun h => absurd h q1, fun _ _ => s2⟩
      rcases fin with ⟨f1, f2⟩ | ⟨f1, f2⟩
      · have g1 : (i : Int) < 256 := by omega
        have g2 : ¬ (256 : Int) ≤ i := by omega
        simp [e7, f1, g1]
        refine FN.mono (num_c _ _) ?_
        rintro _ w9 ⟨rfl, rfl⟩
        simp [e0, e1, e5, e6, e7, g2, hw1]
        exact ⟨n.toNat - (i + 1), by omega, i + 1, rfl, by omega, by push_cast; rfl, _, hB3, hM3', hF3⟩
      · have g1 : ¬ (i : Int) < 256 := by omega
        have g2 : (256 : Int) ≤ i := by omega
        simp [e7, f1, g1, g2]
        refine FN.mono (num_c _ _) ?_
        rintro _ w9 ⟨rfl, rfl⟩
        simp [e0, e1, e5, e6, e7, hw1]
        exact ⟨n.toNat - (i + 1), by omega, i + 1, rfl, by omega, by push_cast; rfl, _, hB3, hM3', hF3⟩
  · simp [e0, e6, e7, hin]
    refine FN.mono (num_c 0 _) ?_
    rintro _ w3 ⟨rfl, rfl⟩
    simp
    refine FN.mono (works_c _) ?_
    rintro _ w4 ⟨rfl, hE⟩
    simp
    exact (hM2.trans hE.mod).ext fun _ h => h
end Go.Proofs
