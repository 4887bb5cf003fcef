/-
  Contracts of the functions that the law reaches, step by step.
-/
import Derived.Test.YtfppepjaopbanaaSrtB
namespace Go.Proofs
open Pk
set_option maxRecDepth 10000
theorem Suint32.heap_c {w : World} {v : Value} {d : Array Int} {a b : Nat} (hA : Suint32.A w v d) (hab : a ≤ b) (hb : b ≤ d.size) (hn : d.size ≤ 1048576) :
    FN Try.prog 75 [v, .int .i64 a, .int .i64 b] w fun e w' => (∃ u, e = .returned u) ∧ Suint32.A w' v (Sort.heapSort Sort.ltInt d a b) ∧ Mod (Sv v) w w' := by
  refine FN_enter Try.func75 rfl rfl (by kernel_rfl) ?_
  obtain ⟨hi, hhi⟩ : ∃ hi, hi = b - a := ⟨_, rfl⟩
  have w1_ : IntKind.i64.wrap ((b : Int) - (a : Int)) = (hi : Int) := wnat _ _ (by omega) (by omega)
  have w2_ : IntKind.i64.wrap ((hi : Int) - 1) = (hi : Int) - 1 := wrap64 _ (by omega) (by omega)
  obtain ⟨m, hm⟩ : ∃ m : Nat, m = (hi - 1) / 2 := ⟨_, rfl⟩
  have w3_ : IntKind.i64.wrap (((hi : Int) - 1).tdiv 2) = (m : Int) := by
    have : ((hi : Int) - 1).tdiv 2 = (m : Int) := by
      rcases Nat.eq_zero_or_pos hi with h0 | h0
      · subst h0; subst hm; decide
      · rw [Int.tdiv_eq_ediv_of_nonneg (by omega)]; omega
    rw [this]; exact wrap64 _ (by omega) (by omega)
  simp [w1_, w2_, w3_]
  refine WC_loop (fun k ρ ds w' => ∃ (z : Int) (dk : Array Int), z = (k : Int) - 1 ∧ k ≤ m + 1 ∧ ρ 0 = v ∧ ρ 6 = .int .i64 a ∧ ρ 7 = .int .i64 0 ∧ ρ 8 = .int .i64 hi ∧ ρ 9 = .int .i64 z ∧ ds = [] ∧ Suint32.A w' v dk ∧ dk.size = d.size ∧
    Sort.heapBuild Sort.ltInt hi a k dk = Sort.heapBuild Sort.ltInt hi a (m + 1) d ∧ Mod (Sv v) w w') (m + 1) ⟨m, d, ?_⟩ ?_
  · simp
    exact ⟨hA, Mod.refl _ _⟩
  · rintro k ρ ds w1 ⟨z, dk, hz9, hk, e0, e6, e7, e8, e9, rfl, hD, hz, hI, hM⟩
    cases k with
    | succ p =>
      have : z = (p : Int) := by omega
      subst this
      have w4_ : IntKind.i64.wrap ((p : Int) - 1) = (p : Int) - 1 := wrap64 _ (by omega) (by omega)
      simp [e0, e6, e8, e9]
      refine FN.mono (Suint32.sift_c hD (lo := p) (hi := hi) (first := a) (by omega) (by omega) (by omega)) ?_
      rintro _ w2 ⟨⟨u, rfl⟩, hD2, hM2⟩
      simp [e0, e6, e7, e8, e9, w4_]
      exact ⟨p, by omega, by omega, rfl, _, hD2, by rw [hD2.sizeq hD, hz], hI, hM.trans hM2⟩
    | zero =>
      have : z = -1 := by omega
      subst this
      simp [e9, e8, w2_]
      refine WC_loop (fun k ρ ds w' => ∃ (z : Int) (dk : Array Int), z = (k : Int) - 1 ∧ k ≤ hi ∧ ρ 0 = v ∧ ρ 6 = .int .i64 a ∧ ρ 7 = .int .i64 0 ∧ ρ 10 = .int .i64 z ∧ ds = [] ∧ Suint32.A w' v dk ∧ dk.size = d.size ∧
        Sort.heapPop Sort.ltInt a k dk = Sort.heapSort Sort.ltInt d a b ∧ Mod (Sv v) w w') hi ⟨(hi : Int) - 1, dk, ?_⟩ ?_
      · simp [e0, e6, e7]
        refine ⟨hD, hz, ?_, hM⟩
        unfold Sort.heapSort
        rw [← hhi, ← hm, ← hI]; rfl
      · rintro k ρ ds w1 ⟨z, dk, hz9, hk, e0, e6, e7, e10, rfl, hD, hz, hI, hM⟩
        cases k with
        | succ p =>
          have : z = (p : Int) := by omega
          subst this
          obtain ⟨ap, hap⟩ : ∃ ap, ap = a + p := ⟨_, rfl⟩
          have w5_ : IntKind.i64.wrap ((p : Int) - 1) = (p : Int) - 1 := wrap64 _ (by omega) (by omega)
          have w6_ : IntKind.i64.wrap ((a : Int) + (p : Int)) = (ap : Int) := wnat _ _ (by omega) (by omega)
          have i1 := Suint32.ix hD a (by omega)
          have i2 := Suint32.ix hD ap (by omega)
          simp [e10]
          refine WC_drS 17 rfl (by kernel_rfl) fun W hW => ?_
          replace hD := hD.dr hW
          replace hM := hM.dr hW
          obtain ⟨c1, c2, f1, c3, f2⟩ := hD.facts a ap (by omega) (by omega)
          simp [e0, e6, e7, e10, w6_, i1, i2, c1, c2, f1, c3, f2]
          have hD' := hD.swap (i := a) (j := ap) (by omega) (by omega)
          have hM' := hD.mswap (j := ap) hM (i := a) (by omega) (.int .u32 (at_ dk ap)) (.int .u32 (at_ dk a))
          refine FN.mono (Suint32.sift_c hD' (lo := 0) (hi := p) (first := a) (by omega) (by rw [size_swp]; omega) (by rw [size_swp]; omega)) ?_
          rintro _ w2 ⟨⟨u, rfl⟩, hD2, hM2⟩
          simp [e0, e6, e7, e10, w5_]
          exact ⟨p, by omega, by omega, rfl, _, hD2, by rw [hD2.sizeq hD', size_swp, hz], by rw [← hI, Sort.heapPop, ← hap], hM'.trans hM2⟩
        | zero =>
          have : z = -1 := by omega
          subst this
          simp [e10]
          unfold Sort.heapPop at hI
          rw [← hI]; exact ⟨hD, hM⟩
/-- A row that is turned. -/
theorem Suint32.rev_c {w : World} {v : Value} {d : Array Int} {a b : Nat} (hA : Suint32.A w v d) (hab : a < b) (hb : b ≤ d.size) (hn : d.size ≤ 1048576) :
    FN Try.prog 78 [v, .int .i64 a, .int .i64 b] w fun e w' => (∃ u, e = .returned u) ∧ ∃ d', Sort.PermIn a b d d' ∧ Suint32.A w' v d' ∧ Mod (Sv v) w w' := by
  refine FN_enter Try.func78 rfl rfl (by kernel_rfl) ?_
  obtain ⟨l, hl⟩ : ∃ l, l = b - 1 := ⟨_, rfl⟩
  have w1_ : IntKind.i64.wrap ((b : Int) - 1) = (l : Int) := wnat _ _ (by omega) (by omega)
  simp [w1_]
  refine WC_loop (fun k ρ ds w' => ∃ (i j : Nat) (dk : Array Int), k = j - i ∧ a ≤ i ∧ i ≤ j + 1 ∧ j < b ∧ ρ 0 = v ∧ ρ 6 = .int .i64 i ∧ ρ 7 = .int .i64 j ∧ ds = [] ∧ Suint32.A w' v dk ∧ Sort.PermIn a b d dk ∧ Mod (Sv v) w w') (l - a) ⟨a, l, d, ?_⟩ ?_
  · simp
    exact ⟨by omega, by omega, hA, Sort.permIn_refl _ _ _, Mod.refl _ _⟩
  · rintro k ρ ds w1 ⟨i, j, dk, rfl, h1, h2, h3, e0, e6, e7, rfl, hD, hP, hM⟩
    have hz := hP.1
    by_cases hlt : i < j
    · have w2_ : IntKind.i64.wrap ((i : Int) + 1) = ((i + 1 : Nat) : Int) := wnat _ _ (by omega) (by omega)
      have w3_ : IntKind.i64.wrap ((j : Int) - 1) = ((j - 1 : Nat) : Int) := wnat _ _ (by omega) (by omega)
      have i1 := Suint32.ix hD i (by omega)
      have i2 := Suint32.ix hD j (by omega)
      simp [e6, e7, hlt]
      refine WC_drS 13 rfl (by kernel_rfl) fun W hW => ?_
      replace hD := hD.dr hW
      replace hM := hM.dr hW
      obtain ⟨c1, c2, f1, c3, f2⟩ := hD.facts i j (by omega) (by omega)
      simp [e0, e6, e7, i1, i2, c1, c2, f1, c3, f2]
      rw [w2_, w3_]
      exact ⟨j - 1 - (i + 1), by omega, i + 1, j - 1, rfl, by omega, by omega, by omega, rfl, rfl, _, hD.swap (by omega) (by omega),
        Sort.permIn_trans _ _ _ _ _ hP (Sort.swp_permIn _ _ _ _ _ (by omega) (by omega) (by omega) (by omega) (by omega)), hD.mswap hM (by omega) _ _⟩
    · simp [e6, e7, hlt]
      exact ⟨dk, hP, hD, hM⟩
end Go.Proofs
