/-
  Contracts of the functions that the law reaches, step by step.
-/
import Derived.Test.YtfppepjaopbanaaSrtE
namespace Go.Proofs
open Pk
set_option maxRecDepth 10000
set_option maxHeartbeats 1000000 in
theorem Suint32.piv_c {w : World} {v : Value} {d : Array Int} {a b : Nat} (hA : Suint32.A w v d) (hab : a + 13 ≤ b) (hb : b ≤ d.size) (hn : d.size ≤ 1048576) :
    FN Try.prog 77 [v, .int .i64 a, .int .i64 b] w fun e w' => (∃ (p : Nat) (h : Int), e = .returned (.tuple #[.int .i64 p, .int .i64 h]) ∧ a ≤ p ∧ p < b) ∧ Suint32.A w' v d ∧ Mod (Sv v) w w' := by
  refine FN_enter Try.func77 rfl rfl (by kernel_rfl) ?_
  obtain ⟨l, hl⟩ : ∃ l, l = b - a := ⟨_, rfl⟩
  obtain ⟨q, hq⟩ : ∃ q, q = l / 4 := ⟨_, rfl⟩
  obtain ⟨q2, hq2⟩ : ∃ q2, q2 = q * 2 := ⟨_, rfl⟩
  obtain ⟨q3, hq3⟩ : ∃ q3, q3 = q * 3 := ⟨_, rfl⟩
  obtain ⟨pi, hpi⟩ : ∃ pi, pi = a + q := ⟨_, rfl⟩
  obtain ⟨pj, hpj⟩ : ∃ pj, pj = a + q2 := ⟨_, rfl⟩
  obtain ⟨pk, hpk⟩ : ∃ pk, pk = a + q3 := ⟨_, rfl⟩
  have w1_ : IntKind.i64.wrap ((b : Int) - (a : Int)) = (l : Int) := wnat _ _ (by omega) (by omega)
  have w2_ : IntKind.i64.wrap ((l : Int) / 4) = (q : Int) := wnat _ _ (by omega) (by omega)
  have w3_ : IntKind.i64.wrap ((q : Int) * 2) = (q2 : Int) := wnat _ _ (by omega) (by omega)
  have w4_ : IntKind.i64.wrap ((q : Int) * 3) = (q3 : Int) := wnat _ _ (by omega) (by omega)
  have w5_ : IntKind.i64.wrap (q : Int) = (q : Int) := wnat _ _ rfl (by omega)
  have w6_ : IntKind.i64.wrap ((a : Int) + (q : Int)) = (pi : Int) := wnat _ _ (by omega) (by omega)
  have w7_ : IntKind.i64.wrap ((a : Int) + (q2 : Int)) = (pj : Int) := wnat _ _ (by omega) (by omega)
  have w8_ : IntKind.i64.wrap ((a : Int) + (q3 : Int)) = (pk : Int) := wnat _ _ (by omega) (by omega)
  have g1 : (8 : Int) ≤ (l : Int) := by omega
  obtain ⟨s, hs⟩ : ∃ s, s = w.heap.size := ⟨_, rfl⟩
  obtain ⟨wa, hwa⟩ : ∃ wa, wa = w.alloc (.cells #[.int .i64 0] 3) := ⟨_, rfl⟩
  have hV : Var wa s (.int .i64 0) := by rw [hwa, hs]; exact Var.new _ _ _
  have hMa : Mod (Sv v) w wa := by rw [hwa]; exact (Mod.refl _ _).alloc _
  have hD : Suint32.A wa v d := hA.ext (by rw [hwa]; exact (Ext.refl _).alloc _)
  have hne : slB v ≠ s := by have := hA.lt (by omega); omega
  simp [w1_, w2_, w3_, w4_, w5_, w6_, w7_, w8_, g1]
  rw [← hwa, ← hs]
  by_cases hlt : 50 ≤ (l : Int)
  · simp [hlt]
    refine FN.mono (Suint32.madj_c hD (a := pi) (L := a) (H := b) (by omega) hb hn hV hne) ?_
    rintro _ w1 ⟨⟨x1, rfl, hx1⟩, hD1, ⟨z1, hV1⟩, hM1⟩
    simp
    refine FN.mono (Suint32.madj_c hD1 (a := pj) (L := a) (H := b) (by omega) hb hn hV1 hne) ?_
    rintro _ w2 ⟨⟨x2, rfl, hx2⟩, hD2, ⟨z2, hV2⟩, hM2⟩
    simp
    refine FN.mono (Suint32.madj_c hD2 (a := pk) (L := a) (H := b) (by omega) hb hn hV2 hne) ?_
    rintro _ w3 ⟨⟨x3, rfl, hx3⟩, hD3, ⟨z3, hV3⟩, hM3⟩
    simp
    refine FN.mono (Suint32.med_c hD3 (a := x1) (b := x2) (c := x3) (L := a) (H := b) hx1 hx2 hx3 hb hV3 hne) ?_
    rintro _ w4 ⟨⟨x, rfl, hx⟩, hD4, ⟨z4, hV4⟩, hM4⟩
    have hM : Mod (Sv v) w w4 := hMa.trans' (((hM1.trans hM2).trans hM3).trans hM4) fun j hj => .inr (by omega)
    simp [hV4.cell]
    by_cases h0 : z4 = 0
    · simp [h0]; exact ⟨⟨x, rfl, hx⟩, hD4, hM⟩
    · by_cases h1 : z4 = 12
      · simp [h1]; exact ⟨⟨x, rfl, hx⟩, hD4, hM⟩
      · have b0 : (z4 == 0) = false := by simp [h0]
        have b1 : (z4 == 12) = false := by simp [h1]
        simp [b0, b1]; exact ⟨⟨x, rfl, hx⟩, hD4, hM⟩
  · simp [hlt]
    refine FN.mono (Suint32.med_c hD (a := pi) (b := pj) (c := pk) (L := a) (H := b) (by omega) (by omega) (by omega) hb hV hne) ?_
    rintro _ w4 ⟨⟨x, rfl, hx⟩, hD4, ⟨z4, hV4⟩, hM4⟩
    have hM : Mod (Sv v) w w4 := hMa.trans' hM4 fun j hj => .inr (by omega)
    simp [hV4.cell]
    by_cases h0 : z4 = 0
    · simp [h0]; exact ⟨⟨x, rfl, hx⟩, hD4, hM⟩
    · by_cases h1 : z4 = 12
      · simp [h1]; exact ⟨⟨x, rfl, hx⟩, hD4, hM⟩
      · have b0 : (z4 == 0) = false := by simp [h0]
        have b1 : (z4 == 12) = false := by simp [h1]
        simp [b0, b1]; exact ⟨⟨x, rfl, hx⟩, hD4, hM⟩
end Go.Proofs
