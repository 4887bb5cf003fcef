/-
  Contracts of the functions that the law reaches, step by step.
-/
import Derived.Test.YthamfghcfjhifaaGreatDoorAfD
import Derived.Test.YthamfghcfjhifaaGreatDoorAfF
import Derived.Test.YthamfghcfjhifaaGreatDoorAfI
namespace Go.Proofs
open Pk
set_option maxRecDepth 10000
attribute [local simp] beq_dec bne_dec
theorem right_doc_item {r : Rec} (h : rightE r = 0) : (1 ≤ r.kind ∧ r.kind ≤ 5) ∧ 0 ≤ r.what ∧ 0 ≤ r.why ∧ (r.kind = 1 → r.nn ≠ 0) := by
  obtain ⟨hk, hf, -, -, hb⟩ := right_inv h
  refine ⟨hk, ?_⟩
  unfold fineR at hf
  by_cases k1 : r.kind = 1
  · rw [if_pos k1] at hf
    obtain ⟨i1, i2, i3, i4, i5⟩ := repF_inv hf
    exact ⟨by omega, i4, fun _ => (nameE_inv i1).1⟩
  · have e : (bareR r).what = 0 ∧ (bareR r).why = 0 := by
      unfold bareR
      rw [if_neg k1]
      repeat' split
      all_goals exact ⟨rfl, rfl⟩
    rw [hb] at e
    exact ⟨by omega, by omega, fun h => absurd h k1⟩
end Go.Proofs
