/-
  Contracts of the functions that the law reaches, step by step.
-/
import Derived.Test.YthamfghcfjhifaaGreatDoorAeT
namespace Go.Proofs
open Pk
set_option maxRecDepth 10000
attribute [local simp] beq_dec bne_dec
theorem nums_back {x : List Int} (hx : ∀ c ∈ x, 0 ≤ c ∧ c ≤ 255) : (strOfNums x).data.toList.map (fun c => (c.toNat : Int)) = x := by
  rw [strOfNums_data, List.map_map]
  conv => rhs; rw [← List.map_id x]
  refine List.map_congr_left fun c hc => ?_
  have := hx c hc
  simp
  omega
theorem strOf_inj {x y : List Int} (hx : ∀ c ∈ x, 0 ≤ c ∧ c ≤ 255) (hy : ∀ c ∈ y, 0 ≤ c ∧ c ≤ 255) : strOfNums x = strOfNums y ↔ x = y :=
  ⟨fun h => by rw [← nums_back hx, h, nums_back hy], fun h => by rw [h]⟩
end Go.Proofs
