/-
  Contracts of the functions that the law reaches, step by step.
-/
import Derived.Test.YtfppepjaopbanaaRkO
import Derived.Test.YtfppepjaopbanaaEngM
namespace Go.Proofs
open Pk
set_option maxRecDepth 10000
theorem Suint32.nan_c (x : Int) (w : World) : FN Try.prog 90 [.int .u32 x] w fun e w' => e = .returned (.bool false) ∧ w' = w := by
  refine FN_enter Try.func90 rfl rfl (by kernel_rfl) ?_
  simp
theorem Suint32.less_c (x y : Int) (w : World) : FN Try.prog 80 [.int .u32 x, .int .u32 y] w fun e w' => e = .returned (.bool (Sort.ltInt x y)) ∧ w' = w := by
  refine FN_enter Try.func80 rfl rfl (by kernel_rfl) ?_
  simp
  refine FN.mono (Suint32.nan_c x w) ?_
  rintro _ _ ⟨rfl, rfl⟩
  simp [Sort.ltInt]
abbrev Suint32.A (w : World) (v : Value) (d : Array Int) := Arr .u32 w v d
theorem Suint32.ix {w : World} {v : Value} {d : Array Int} (h : Suint32.A w v d) (j : Nat) (hj : j < d.size) (W : World) : (Instr.indexAt 98 v (.int .i64 (j : Int))).run Try.prog W = .ok (.pointer (some ⟨slB v, slO v + j, none⟩)) W :=
  h.index (by simp) (fun W => by simp) j hj W
theorem Suint32.ins_c {w : World} {v : Value} {d : Array Int} {a b : Nat} (hA : Suint32.A w v d) (hb : b ≤ d.size) (ha : a ≤ 1048576) (hn : d.size ≤ 1048576) :
    FN Try.prog 74 [v, .int .i64 a, .int .i64 b] w fun e w' => (∃ u, e = .returned u) ∧ Suint32.A w' v (Sort.insertionSort Sort.ltInt d a b) ∧ Mod (Sv v) w w' := by
  refine FN_enter Try.func74 rfl rfl (by kernel_rfl) ?_
  simp
  rw [wnat _ (a + 1) (by omega) (by omega)]
  refine WC_loop (fun k ρ ds w' => ∃ (i : Nat) (dk : Array Int), k = b - i ∧ a + 1 ≤ i ∧ ρ 0 = v ∧ ρ 1 = .int .i64 a ∧ ρ 2 = .int .i64 b ∧ ρ 6 = .int .i64 i ∧ ds = [] ∧ Suint32.A w' v dk ∧ dk.size = d.size ∧
    Sort.insOuter Sort.ltInt a b i dk = Sort.insertionSort Sort.ltInt d a b ∧ Mod (Sv v) w w') (b - (a + 1)) ⟨a + 1, d, ?_⟩ ?_
  · simp
    exact ⟨hA, rfl, Mod.refl _ _⟩
  · rintro k ρ ds w1 ⟨i, dk, rfl, hi, e0, e1, e2, e6, rfl, hD, hz, hI, hM⟩
    by_cases hlt : i < b
    · simp [e2, e6, hlt]
      have hI0 := hI
      rw [Sort.insOuter, if_pos hlt] at hI
      refine WC_loop (fun k ρ ds w' => ∃ (j : Nat) (dj : Array Int), k = j ∧ j ≤ i ∧ ρ 0 = v ∧ ρ 1 = .int .i64 a ∧ ρ 2 = .int .i64 b ∧ ρ 6 = .int .i64 i ∧ ρ 7 = .int .i64 j ∧ ds = [] ∧ Suint32.A w' v dj ∧ dj.size = d.size ∧
        Sort.insInner Sort.ltInt a j dj = Sort.insInner Sort.ltInt a i dk ∧ Mod (Sv v) w w') i ⟨i, dk, ?_⟩ ?_
      · simp [e0, e1, e2, e6]
        exact ⟨hD, hz, hM⟩
      · rintro k ρ ds w2 ⟨j, dj, rfl, hj, e0, e1, e2, e6, e7, rfl, hD, hz, hJ, hM⟩
        simp
        refine WC_drQ 13 rfl (by kernel_rfl) fun W hW => ?_
        replace hD := hD.dr hW
        replace hM := hM.dr hW
        have fin : Sort.insInner Sort.ltInt a k dj = dj → ∃ m', m' < b - i ∧ ∃ i' : Nat, m' = b - i' ∧ a + 1 ≤ i' ∧ IntKind.i64.wrap ((i : Int) + 1) = i' ∧ ∃ dk', Suint32.A W v dk' ∧ dk'.size = d.size ∧
            Sort.insOuter Sort.ltInt a b i' dk' = Sort.insertionSort Sort.ltInt d a b ∧ Mod (Sv v) w W := by
          intro hs
          exact ⟨b - (i + 1), by omega, i + 1, rfl, by omega, wnat _ _ (by omega) (by omega), dj, hD, hz, by rw [← hI, ← hJ, hs], hM⟩
        by_cases hja : a < k
        · obtain ⟨p, hp⟩ : ∃ p, k = p + 1 := ⟨k - 1, by omega⟩
          have ew : IntKind.i64.wrap ((k : Int) - 1) = (p : Int) := wnat _ _ (by omega) (by omega)
          have i1 := Suint32.ix hD k (by omega)
          have i2 := Suint32.ix hD p (by omega)
          obtain ⟨c1, c2, f1, c3, f2⟩ := hD.facts k p (by omega) (by omega)
          have hst : Sort.insInner Sort.ltInt a k dj = if Sort.ltInt (at_ dj k) (at_ dj p) then Sort.insInner Sort.ltInt a p (Sort.swp dj k p) else dj := by
            subst hp
            rw [Sort.insInner]
            have : decide (p + 1 > a) = true := by simp; omega
            rw [this, Bool.true_and]; rfl
          simp [e0, e1, e7, hja, i1, i2, ew, c1, c2]
          refine FN.mono (Suint32.less_c (at_ dj k) (at_ dj p) W) ?_
          rintro _ _ ⟨rfl, rfl⟩
          simp
          by_cases hl : Sort.ltInt (at_ dj k) (at_ dj p) = true
          · rw [hst, if_pos hl] at hJ
            simp [hl]
            refine WC_drS 15 rfl (by kernel_rfl) fun W' hW' => ?_
            replace hD := hD.dr hW'
            replace hM := hM.dr hW'
            obtain ⟨c1, c2, f1, c3, f2⟩ := hD.facts k p (by omega) (by omega)
            simp [e0, e7, i1, i2, ew, c1, c2, f1, c3, f2]
            exact ⟨p, by omega, by omega, e1, e2, e6, rfl, _, hD.swap (by omega) (by omega), by rw [Sort.size_swp]; exact hz, hJ, hD.mswap hM (by omega) _ _⟩
          · rw [hst, if_neg hl] at fin
            simp [hl, e0, e1, e2, e6]
            exact fin rfl
        · have hst : Sort.insInner Sort.ltInt a k dj = dj := by
            cases k with
            | zero => rfl
            | succ p =>
              rw [Sort.insInner]
              have : decide (p + 1 > a) = false := by simp; omega
              rw [this]; rfl
          simp [e0, e1, e2, e6, e7, hja]
          exact fin hst
    · simp [e2, e6, hlt]
      rw [Sort.insOuter, if_neg hlt] at hI
      subst hI
      exact ⟨hD, hM⟩
end Go.Proofs
