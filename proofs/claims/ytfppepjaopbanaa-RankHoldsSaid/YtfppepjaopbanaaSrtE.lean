/-
  Contracts of the functions that the law reaches, step by step.
-/
import Derived.Test.YtfppepjaopbanaaSrtD
namespace Go.Proofs
open Pk
set_option maxRecDepth 10000
set_option maxHeartbeats 1000000 in
theorem Suint32.brk_c {w : World} {v : Value} {d : Array Int} {a b : Nat} (hA : Suint32.A w v d) (hab : a + 8 ≤ b) (hb : b ≤ d.size) (hn : d.size ≤ 255) :
    FN Try.prog 76 [v, .int .i64 a, .int .i64 b] w fun e w' => (∃ u, e = .returned u) ∧ ∃ d', Sort.PermIn a b d d' ∧ Suint32.A w' v d' ∧ Mod (Sv v) w w' := by
  refine FN_enter Try.func76 rfl rfl (by kernel_rfl) ?_
  obtain ⟨l, hl⟩ : ∃ l, l = b - a := ⟨_, rfl⟩
  obtain ⟨q, hq⟩ : ∃ q, q = l / 4 := ⟨_, rfl⟩
  obtain ⟨q2, hq2⟩ : ∃ q2, q2 = q * 2 := ⟨_, rfl⟩
  obtain ⟨aq, haq⟩ : ∃ aq, aq = a + q2 := ⟨_, rfl⟩
  obtain ⟨i0, hi0⟩ : ∃ i0, i0 = aq - 1 := ⟨_, rfl⟩
  obtain ⟨i1, hi1⟩ : ∃ i1, i1 = aq + 1 := ⟨_, rfl⟩
  have w1_ : IntKind.i64.wrap ((b : Int) - (a : Int)) = (l : Int) := wnat _ _ (by omega) (by omega)
  have w2_ : IntKind.i64.wrap ((l : Int) / 4) = (q : Int) := wnat _ _ (by omega) (by omega)
  have w3_ : IntKind.i64.wrap ((q : Int) * 2) = (q2 : Int) := wnat _ _ (by omega) (by omega)
  have w4_ : IntKind.i64.wrap ((a : Int) + (q2 : Int)) = (aq : Int) := wnat _ _ (by omega) (by omega)
  have w5_ : IntKind.i64.wrap ((aq : Int) - 1) = (i0 : Int) := wnat _ _ (by omega) (by omega)
  have w6_ : IntKind.i64.wrap ((aq : Int) + 1) = (i1 : Int) := wnat _ _ (by omega) (by omega)
  have w7_ : IntKind.u64.wrap (l : Int) = (l : Int) := wrap64u _ (by omega) (by omega)
  have g1 : (8 : Int) ≤ (l : Int) := by omega
  simp [w1_, g1, w7_]
  obtain ⟨s, hs⟩ : ∃ s, s = w.heap.size := ⟨_, rfl⟩
  obtain ⟨wa, hwa⟩ : ∃ wa, wa = w.alloc (.cells #[.int .u64 l] 140) := ⟨_, rfl⟩
  rw [← hwa]
  have hV : Var wa s (.int .u64 l) := by rw [hwa, hs]; exact Var.new _ _ _
  have hMa : Mod (Sv v) w wa := by rw [hwa]; exact (Mod.refl _ _).alloc _
  have hD : Suint32.A wa v d := hA.ext (by rw [hwa]; exact (Ext.refl _).alloc _)
  have hne : slB v ≠ s := by have := hA.lt (by omega); omega
  refine FN.mono (Suint32.npow_c l (by omega) (by omega) wa) ?_
  rintro _ _ ⟨⟨m, rfl, hm1, hm2⟩, rfl⟩
  simp [w2_, w3_, w4_, w5_]
  refine WC_loop (fun k ρ ds w' => ∃ (i : Nat) (dk : Array Int) (z : Int), k = i1 + 1 - i ∧ i0 ≤ i ∧ ρ 0 = v ∧ ρ 1 = .int .i64 a ∧ ρ 6 = .int .i64 l ∧ ρ 7 = .pointer (some ⟨s, 0, none⟩) ∧ ρ 8 = .int .u64 m ∧ ρ 9 = .int .i64 i ∧ ds = [] ∧
    Suint32.A w' v dk ∧ Sort.PermIn a b d dk ∧ Var w' s (.int .u64 z) ∧ Mod (Sv v) w w') (i1 + 1 - i0) ⟨i0, d, l, ?_⟩ ?_
  · simp [← hs]
    exact ⟨hD, Sort.permIn_refl _ _ _, hV, hMa⟩
  · rintro k ρ ds w1 ⟨i, dk, z, rfl, h1, e0, e1, e6, e7, e8, e9, rfl, hD, hP, hV, hM⟩
    have hz := hP.1
    by_cases hlt : i ≤ i1
    · simp [e1, e6, e9, w2_, w3_, w4_, w6_, hlt, e7]
      refine FN.mono (Suint32.next_c hV) ?_
      rintro _ w2 ⟨⟨x, rfl⟩, ⟨z', hV2⟩, hM2⟩
      replace hM : Mod (Sv v) w w2 := hM.trans' hM2 fun j hj => .inr (by omega)
      replace hD : Suint32.A w2 v dk := hD.keep fun _ => hM2.blk _ (hD.lt (by omega)) hne
      have w8_ : IntKind.u64.wrap ((m : Int) - 1) = ((m - 1 : Nat) : Int) := by rw [wrap64u _ (by omega) (by omega)]; omega
      obtain ⟨a1, a2⟩ := andI_le (a := x) (b := ((m - 1 : Nat) : Int)) (by omega) (by omega)
      obtain ⟨y, hy⟩ : ∃ y : Nat, andI .u64 x ((m - 1 : Nat) : Int) = (y : Int) := ⟨(andI .u64 x ((m - 1 : Nat) : Int)).toNat, by omega⟩
      have w9_ : IntKind.i64.wrap (y : Int) = (y : Int) := wnat _ _ rfl (by omega)
      simp [e6, e8, w8_, hy, w9_]
      by_cases hg : l ≤ y
      · obtain ⟨o, ho, ho2⟩ : ∃ o, o = y - l ∧ o < l := ⟨_, rfl, by omega⟩
        have wa_ : IntKind.i64.wrap ((y : Int) - (l : Int)) = (o : Int) := wnat _ _ (by omega) (by omega)
        simp [hg, e6, wa_]
        refine WC_gen (fun σ => σ 0 = v ∧ σ 1 = .int .i64 a ∧ σ 6 = .int .i64 l ∧ σ 7 = .pointer (some ⟨s, 0, none⟩) ∧ σ 8 = .int .u64 m ∧ σ 9 = .int .i64 i ∧ σ 10 = .int .i64 o) (by simp [e0, e1, e6, e7, e8, e9]) fun σ ⟨e0, e1, e6, e7, e8, e9, e10⟩ => ?_
        obtain ⟨ao, hao⟩ : ∃ ao, ao = a + o := ⟨_, rfl⟩
        have wb_ : IntKind.i64.wrap ((a : Int) + (o : Int)) = (ao : Int) := wnat _ _ (by omega) (by omega)
        have wc_ : IntKind.i64.wrap ((i : Int) + 1) = ((i + 1 : Nat) : Int) := wnat _ _ (by omega) (by omega)
        have ii := Suint32.ix hD i (by omega)
        have io := Suint32.ix hD ao (by omega)
        refine WC_drS 17 rfl (by kernel_rfl) fun W hW => ?_
        replace hD := hD.dr hW
        replace hM := hM.dr hW
        replace hV2 : Var W s (.int .u64 z') := hV2.ext (hW ▸ Ext.drew w2)
        obtain ⟨c1, c2, f1, c3, f2⟩ := hD.facts i ao (by omega) (by omega)
        simp [e0, e1, e9, e10, wb_, ii, io, c1, c2, f1, c3, f2, e6, e7, e8]
        rw [wc_]
        have hV3 : ∀ x y, Var ((W.setCell ⟨slB v, slO v + i, none⟩ x).setCell ⟨slB v, slO v + ao, none⟩ y) s (.int .u64 z') := fun x y =>
          hV2.keep (by rw [Go.RowKit.Below.heap_setCell _ _ _ _ (Ne.symm hne), Go.RowKit.Below.heap_setCell _ _ _ _ (Ne.symm hne)])
        exact ⟨i1 + 1 - (i + 1), by omega, i + 1, rfl, by omega, rfl, _, hD.swap (by omega) (by omega), Sort.permIn_trans _ _ _ _ _ hP (Sort.swp_permIn _ _ _ _ _ (by omega) (by omega) (by omega) (by omega) (by omega)), ⟨_, hV3 _ _⟩, hD.mswap hM (by omega) _ _⟩
      · obtain ⟨o, ho, ho2⟩ : ∃ o, o = y ∧ o < l := ⟨_, rfl, by omega⟩
        simp [hg]
        refine WC_gen (fun σ => σ 0 = v ∧ σ 1 = .int .i64 a ∧ σ 6 = .int .i64 l ∧ σ 7 = .pointer (some ⟨s, 0, none⟩) ∧ σ 8 = .int .u64 m ∧ σ 9 = .int .i64 i ∧ σ 10 = .int .i64 o) (by simp [e0, e1, e6, e7, e8, e9, ho]) fun σ ⟨e0, e1, e6, e7, e8, e9, e10⟩ => ?_
        obtain ⟨ao, hao⟩ : ∃ ao, ao = a + o := ⟨_, rfl⟩
        have wb_ : IntKind.i64.wrap ((a : Int) + (o : Int)) = (ao : Int) := wnat _ _ (by omega) (by omega)
        have wc_ : IntKind.i64.wrap ((i : Int) + 1) = ((i + 1 : Nat) : Int) := wnat _ _ (by omega) (by omega)
        have ii := Suint32.ix hD i (by omega)
        have io := Suint32.ix hD ao (by omega)
        refine WC_drS 17 rfl (by kernel_rfl) fun W hW => ?_
        replace hD := hD.dr hW
        replace hM := hM.dr hW
        replace hV2 : Var W s (.int .u64 z') := hV2.ext (hW ▸ Ext.drew w2)
        obtain ⟨c1, c2, f1, c3, f2⟩ := hD.facts i ao (by omega) (by omega)
        simp [e0, e1, e9, e10, wb_, ii, io, c1, c2, f1, c3, f2, e6, e7, e8]
        rw [wc_]
        have hV3 : ∀ x y, Var ((W.setCell ⟨slB v, slO v + i, none⟩ x).setCell ⟨slB v, slO v + ao, none⟩ y) s (.int .u64 z') := fun x y =>
          hV2.keep (by rw [Go.RowKit.Below.heap_setCell _ _ _ _ (Ne.symm hne), Go.RowKit.Below.heap_setCell _ _ _ _ (Ne.symm hne)])
        exact ⟨i1 + 1 - (i + 1), by omega, i + 1, rfl, by omega, rfl, _, hD.swap (by omega) (by omega), Sort.permIn_trans _ _ _ _ _ hP (Sort.swp_permIn _ _ _ _ _ (by omega) (by omega) (by omega) (by omega) (by omega)), ⟨_, hV3 _ _⟩, hD.mswap hM (by omega) _ _⟩
    · simp [e1, e6, e9, w2_, w3_, w4_, w6_, hlt]
      exact ⟨dk, hP, hD, hM⟩
theorem Suint32.ord_c {w : World} {v : Value} {d : Array Int} {a b s L H : Nat} {z : Int} (hA : Suint32.A w v d) (ha : L ≤ a ∧ a < H) (hb : L ≤ b ∧ b < H) (hH : H ≤ d.size) (hV : Var w s (.int .i64 z)) (hne : slB v ≠ s) :
    FN Try.prog 91 [v, .int .i64 a, .int .i64 b, .pointer (some ⟨s, 0, none⟩)] w fun e w' => (∃ x y : Nat, e = .returned (.tuple #[.int .i64 x, .int .i64 y]) ∧ (L ≤ x ∧ x < H) ∧ (L ≤ y ∧ y < H)) ∧
      Suint32.A w' v d ∧ (∃ z', Var w' s (.int .i64 z')) ∧ Mod (· = s) w w' := by
  refine FN_enter Try.func91 rfl rfl (by kernel_rfl) ?_
  have i1 := Suint32.ix hA a (by omega)
  have i2 := Suint32.ix hA b (by omega)
  simp
  refine WC_drQ 8 rfl (by kernel_rfl) fun W hW => ?_
  replace hA := hA.dr hW
  replace hV : Var W s (.int .i64 z) := hV.ext (hW ▸ Ext.drew w)
  have hM : Mod (· = s) w W := (Mod.refl _ _).dr hW
  obtain ⟨c1, c2, -⟩ := hA.facts a b (by omega) (by omega)
  simp [i1, i2, c1, c2]
  refine FN.mono (Suint32.less_c (at_ d b) (at_ d a) W) ?_
  rintro _ _ ⟨rfl, rfl⟩
  simp
  by_cases hl : Sort.ltInt (at_ d b) (at_ d a) = true
  · simp [hl, hV.cell, hV.thaw]
    refine ⟨⟨b, a, ⟨rfl, rfl⟩, hb, ha⟩, ?_, ⟨_, hV.set _⟩, hM.setCell _ _ (.inl rfl)⟩
    exact hA.keep fun _ => Go.RowKit.Below.heap_setCell _ _ _ _ hne
  · simp [hl]
    exact ⟨⟨a, b, ⟨rfl, rfl⟩, ha, hb⟩, hA, ⟨_, hV⟩, hM⟩
theorem Suint32.med_c {w : World} {v : Value} {d : Array Int} {a b c s L H : Nat} {z : Int} (hA : Suint32.A w v d) (ha : L ≤ a ∧ a < H) (hb : L ≤ b ∧ b < H) (hc : L ≤ c ∧ c < H) (hH : H ≤ d.size) (hV : Var w s (.int .i64 z)) (hne : slB v ≠ s) :
    FN Try.prog 89 [v, .int .i64 a, .int .i64 b, .int .i64 c, .pointer (some ⟨s, 0, none⟩)] w fun e w' => (∃ x : Nat, e = .returned (.int .i64 x) ∧ (L ≤ x ∧ x < H)) ∧
      Suint32.A w' v d ∧ (∃ z', Var w' s (.int .i64 z')) ∧ Mod (· = s) w w' := by
  refine FN_enter Try.func89 rfl rfl (by kernel_rfl) ?_
  simp
  refine FN.mono (Suint32.ord_c hA ha hb hH hV hne) ?_
  rintro _ w1 ⟨⟨x, y, rfl, hx, hy⟩, hA1, ⟨z1, hV1⟩, hM1⟩
  simp
  refine FN.mono (Suint32.ord_c hA1 hy hc hH hV1 hne) ?_
  rintro _ w2 ⟨⟨x2, y2, rfl, hx2, hy2⟩, hA2, ⟨z2, hV2⟩, hM2⟩
  simp
  refine FN.mono (Suint32.ord_c hA2 hx hx2 hH hV2 hne) ?_
  rintro _ w3 ⟨⟨x3, y3, rfl, hx3, hy3⟩, hA3, ⟨z3, hV3⟩, hM3⟩
  simp
  exact ⟨⟨y3, rfl, hy3⟩, hA3, ⟨_, hV3⟩, (hM1.trans hM2).trans hM3⟩
theorem Suint32.madj_c {w : World} {v : Value} {d : Array Int} {a s L H : Nat} {z : Int} (hA : Suint32.A w v d) (ha : L + 1 ≤ a ∧ a + 1 < H) (hH : H ≤ d.size) (hn : d.size ≤ 1048576) (hV : Var w s (.int .i64 z)) (hne : slB v ≠ s) :
    FN Try.prog 88 [v, .int .i64 a, .pointer (some ⟨s, 0, none⟩)] w fun e w' => (∃ x : Nat, e = .returned (.int .i64 x) ∧ (L ≤ x ∧ x < H)) ∧
      Suint32.A w' v d ∧ (∃ z', Var w' s (.int .i64 z')) ∧ Mod (· = s) w w' := by
  refine FN_enter Try.func88 rfl rfl (by kernel_rfl) ?_
  have w1_ : IntKind.i64.wrap ((a : Int) - 1) = ((a - 1 : Nat) : Int) := wnat _ _ (by omega) (by omega)
  have w2_ : IntKind.i64.wrap ((a : Int) + 1) = ((a + 1 : Nat) : Int) := wnat _ _ (by omega) (by omega)
  simp
  rw [w1_, w2_]
  refine FN.mono (Suint32.med_c hA (a := a - 1) (b := a) (c := a + 1) (L := L) (H := H) (by omega) (by omega) (by omega) hH hV hne) ?_
  rintro _ w1 ⟨⟨x, rfl, hx⟩, hA1, ⟨z1, hV1⟩, hM1⟩
  simp
  exact ⟨⟨x, rfl, hx⟩, hA1, ⟨_, hV1⟩, hM1⟩
end Go.Proofs
