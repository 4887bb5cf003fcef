/-
  Contracts of the functions that the law reaches, step by step.
-/
import Derived.Test.YtfppepjaopbanaaSrtC
namespace Go.Proofs
open Pk
set_option maxRecDepth 10000
theorem Suint32.len64_c (n : Nat) (h1 : n ≤ 255) (w : World) : FN Try.prog 84 [.int .u64 n] w fun e w' => (∃ k : Nat, e = .returned (.int .i64 k) ∧ n < 2 ^ k ∧ (n = 0 ∨ 2 ^ k ≤ 2 * n) ∧ k ≤ 8) ∧ w' = w := by
  refine FN_enter Try.func84 rfl rfl (by kernel_rfl) ?_
  have b1 : decide ((4294967296 : Int) ≤ n) = false := by simp; omega
  have b2 : decide ((65536 : Int) ≤ n) = false := by simp; omega
  have b3 : decide ((256 : Int) ≤ n) = false := by simp; omega
  simp [b1, b2, b3]
  rw [wrap8u _ (by omega) (by omega)]
  refine onRt_tab (by simp) (by omega) (by kernel_rfl) fun b hb0 hb1 hb2 => ?_
  have w1_ : IntKind.i64.wrap (b : Int) = (b : Int) := wnat _ _ rfl (by omega)
  simp [w1_]
  exact ⟨b, rfl, hb0, hb1, hb2⟩
theorem Suint32.blen_c (n : Nat) (h1 : n ≤ 255) (w : World) : FN Try.prog 73 [.int .u64 n] w fun e w' => (∃ k : Nat, e = .returned (.int .i64 k) ∧ n < 2 ^ k ∧ (n = 0 ∨ 2 ^ k ≤ 2 * n) ∧ k ≤ 8) ∧ w' = w := by
  refine FN_enter Try.func73 rfl rfl (by kernel_rfl) ?_
  simp
  refine FN.mono (Suint32.len64_c n h1 w) ?_
  rintro _ _ ⟨⟨k, rfl, hk⟩, rfl⟩
  simp
  exact ⟨k, rfl, hk⟩
theorem Suint32.npow_c (n : Nat) (h0 : 0 < n) (h1 : n ≤ 255) (w : World) : FN Try.prog 86 [.int .i64 n] w fun e w' => (∃ m : Nat, e = .returned (.int .u64 m) ∧ n < m ∧ m ≤ 2 * n) ∧ w' = w := by
  refine FN_enter Try.func86 rfl rfl (by kernel_rfl) ?_
  simp
  rw [wrap64u _ (by omega) (by omega)]
  refine FN.mono (Suint32.blen_c n h1 w) ?_
  rintro _ _ ⟨⟨k, rfl, h2, h3, h4⟩, rfl⟩
  have hk : (0 : Int) ≤ k := by omega
  simp [shlI_one (show k < 64 by omega)]
  exact ⟨2 ^ k, by simp, h2, by omega⟩
theorem Suint32.next_c {w : World} {s : Nat} {z : Int} (hV : Var w s (.int .u64 z)) : FN Try.prog 87 [.pointer (some ⟨s, 0, none⟩)] w fun e w' => (∃ x, e = .returned (.int .u64 x)) ∧ (∃ z', Var w' s (.int .u64 z')) ∧ Mod (· = s) w w' := by
  refine FN_enter Try.func87 rfl rfl (by kernel_rfl) ?_
  simp
  refine WC_drQ 8 rfl (by kernel_rfl) fun W hW => ?_
  replace hV : Var W s (.int .u64 z) := hV.ext (hW ▸ Ext.drew w)
  have hM : Mod (· = s) w W := hW ▸ (Ext.drew w).mod
  simp [hV.cell, hV.thaw]
  generalize xorI IntKind.u64 _ _ = z1
  obtain ⟨w1, hw1⟩ : ∃ w1, w1 = W.setCell ⟨s, 0, none⟩ (.int .u64 z1) := ⟨_, rfl⟩
  rw [← hw1]
  have hV1 : Var w1 s (.int .u64 z1) := hw1 ▸ hV.set _
  have hM1 : Mod (· = s) w w1 := hw1 ▸ hM.setCell _ _ (.inl rfl)
  refine WC_drQ 8 rfl (by kernel_rfl) fun W2 hW2 => ?_
  replace hV1 : Var W2 s (.int .u64 z1) := hV1.ext (hW2 ▸ Ext.drew w1)
  replace hM1 : Mod (· = s) w W2 := hM1.dr hW2
  simp [hV1.cell, hV1.thaw]
  generalize xorI IntKind.u64 _ _ = z2
  obtain ⟨w3, hw3⟩ : ∃ w3, w3 = W2.setCell ⟨s, 0, none⟩ (.int .u64 z2) := ⟨_, rfl⟩
  rw [← hw3]
  have hV2 : Var w3 s (.int .u64 z2) := hw3 ▸ hV1.set _
  have hM2 : Mod (· = s) w w3 := hw3 ▸ hM1.setCell _ _ (.inl rfl)
  refine WC_drQ 8 rfl (by kernel_rfl) fun W3 hW3 => ?_
  replace hV2 : Var W3 s (.int .u64 z2) := hV2.ext (hW3 ▸ Ext.drew w3)
  replace hM2 : Mod (· = s) w W3 := hM2.dr hW3
  simp [hV2.cell, hV2.thaw]
  generalize xorI IntKind.u64 _ _ = z3
  have hV3 := hV2.set (.int .u64 z3)
  simp [hV3.cell]
  exact ⟨⟨_, hV3⟩, hM2.setCell _ _ (.inl rfl)⟩
end Go.Proofs
