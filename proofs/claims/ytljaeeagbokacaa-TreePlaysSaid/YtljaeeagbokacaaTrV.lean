/-
  Contracts of the functions that the law reaches, step by step.
-/
import Derived.Test.YtljaeeagbokacaaTrU
import Derived.Test.YtljaeeagbokacaaEngR
set_option maxRecDepth 10000
set_option maxHeartbeats 4000000
namespace Go.Proofs
open Pk
theorem lis_c {w : World} {t r : Nat} {m s : ML} {v : Value} (ht : TreeAt w t r m) (hr : Rws w v s) (hR : Rel m s) (hg : Good m) (x z : Int) :
    FN Try.prog 17 [ptr t, .agg #[v], u32 x, .int .i64 z] w fun e w' => e = .returned (.bool true) ∧ Ext w w' := by
  refine FN_enter Try.func17 rfl rfl (by kernel_rfl) ?_
  obtain ⟨c0, p0, rfl⟩ := hr.isSlice
  obtain ⟨w1, hw1⟩ : ∃ w1, w1 = (w.alloc (.cells #[.slice c0 s.length p0] 45)) := ⟨_, rfl⟩
  have hE : Ext w w1 := by rw [hw1]; exact (Ext.refl w).alloc _
  obtain ⟨b, hbb⟩ : ∃ b, b = w.heap.size := ⟨_, rfl⟩
  have hV : Var w1 b (.slice c0 s.length p0) := by rw [hw1, hbb]; exact Var.new w _ 45
  have hml : m.length ≤ 1000 := by have := hg.few; omega
  have hsl : s.length ≤ 1000 := by rw [hR.len]; exact hml
  have ht1 := ht.ext hE
  have hr1 := hr.ext hE
  obtain ⟨lx, hlx⟩ := hg.line x
  simp
  rw [← hw1, ← hbb]
  refine WC_loop (fun k ρ ds w' => ∃ i : Nat, k = s.length - i ∧ i ≤ s.length ∧ ρ 0 = ptr t ∧ ρ 2 = u32 x ∧ ρ 3 = .int .i64 z ∧ ρ 5 = ptr b ∧ ρ 9 = .int .i64 i ∧ ds = [] ∧ w' = w1) s.length ⟨0, by simp⟩ ?_
  rintro k ρ ds w2 ⟨i, rfl, hi, e0, e2, e3, e5, e9, rfl, rfl⟩
  by_cases hlt : i < s.length
  · have hlb : decide (i < s.length) = true := by simpa using hlt
    obtain ⟨p, hp⟩ : ∃ p, s[i]? = some p := ⟨_, List.getElem?_eq_getElem hlt⟩
    obtain ⟨c1, c2⟩ := pairCells_at s i p hp
    have d1 := hr1.at_ _ _ c1
    have d2 := hr1.at_ _ _ c2
    simp only [← Nat.add_assoc] at d1 d2
    have ix := fun W => hr1.index (P := Try.prog) (t := 43) (by simp) .i64 i (by omega) (by omega) W
    have hm : mget m p.1 = some p.2 := by
      rw [← hR.get]
      exact (mget_iff (asc_nodup hR.asc)).2 (List.mem_of_getElem? hp)
    simp [e0, e5, e9, hV.cell, hlb, ix, d1]
    refine FN.mono (parent_c ht1 p.1) ?_
    rintro _ _ ⟨rfl, hw⟩
    subst hw
    have wi : IntKind.i64.wrap ((i : Int) + 1) = (i : Int) + 1 := wrap64 _ (by omega) (by omega)
    simp [e0, e2, e3, e5, e9, hV.cell, ix, d2, hm, wi]
    refine ⟨_, ?_, i + 1, rfl, by omega, by simp⟩
    omega
  · have hlb : decide (i < s.length) = false := by simpa using hlt
    simp [e5, e9, hV.cell, hlb]
    refine WC_drawC 24 (.F 0 <| .F 2 <| .F 3 <| .F 4 <| .C 1 <| .F 5 <| .F 6 <| .F 7 <| .F 8 <| .F 10 <| .F 11 <| .F 13 <| .C 9 <| .C 12 <| .C 14 <| .F 15 <| .F 16 <| .F 17 <| .F 18 <| .F 20 <| .F 21 <| .F 23 <| .C 19 <| .C 22 <| .Z) (fun _ => false) rfl (by kernel_rfl) fun W hW => ?_
    have hWE : Ext w2 W := hW ▸ Ext.drew w2
    have hV5 := hV.ext hWE
    have htW := ht1.ext hWE
    have hrW := hr1.ext hWE
    have e : ((m.length : Int) == (s.length : Int)) = true := by rw [hR.len]; simp
    simp [e0, e5, hV5.cell]
    refine FN.mono (len_c htW) ?_
    rintro _ _ ⟨rfl, hw⟩
    subst hw
    simp
    refine KR_same ?_
    simp [e, e0, e2, e3, e5, hV5.cell]
    refine FN.mono (line_c htW x) ?_
    rintro _ w4 ⟨b1, b2, r', rfl, hE4, v1, v2, hm4, g1, g2, g3⟩
    simp
    refine KR_ext hE4 ?_
    simp [e0, e2, e3]
    refine FN.mono (rline_c (x := x) (hrW.ext hE4) hR.asc (hR.lin hlx) hsl) ?_
    rintro _ w5 ⟨u, rfl, hE5, hu⟩
    simp
    refine KR_ext hE5 ?_
    simp [e0, e2, e3]
    have v1' := v1.ext hE5
    have v2' := v2.ext hE5
    have hm5 := hm4.ext hE5
    have lb := hlx.bound
    have hfew := hg.few
    have hcap : ∀ k, (k = b1 ∨ k = b2 ∨ k = r') → k < w5.heap.size := by
      rintro k (rfl | rfl | rfl)
      · exact v1'.lt
      · exact v2'.lt
      · exact hm5.lt
    refine FN.mono (goes_c (fun _ _ => callFunc_enter Try.func54 rfl rfl _ _) (line_it v1' v2' hm5 hlx) hcap hu (by omega)) ?_
    rintro _ w6 ⟨rfl, hE6⟩
    simp
    refine KR_ext hE6 ?_
    have hE46 := (hE4.trans hE5).trans hE6
    have hV6 := hV5.ext hE46
    simp [e0, e2, e3, e5, hV6.cell]
    have hkb : (kids m x).length ≤ m.length := by unfold kids; rw [List.length_map]; exact List.length_filter_le _ _
    refine FN.mono (children_c (htW.ext hE46) (x := x) (by omega) hml) ?_
    rintro _ w7 ⟨v, ys, rfl, hE7, hk, c, u', rfl, vc, hsu, -, -⟩
    simp
    refine KR_ext hE7 ?_
    simp [e0, e2, e3]
    have hkids := hR.kids hk
    refine FN.mono (rchildren_c (hrW.ext (hE46.trans hE7)) x hsl) ?_
    rintro _ w8 ⟨u2, rfl, hE8, hu2⟩
    simp
    refine KR_ext hE8 ?_
    simp [e0, e2, e3]
    have hsu' := hsu.ext hE8
    have vc' := vc.ext hE8
    rw [← hkids] at hu2
    have hyl : ys.length ≤ 1000 := by rw [hk.1.length_eq]; omega
    have hcap2 : ∀ k, (k = c ∨ (0 < ys.length ∧ k = slB u')) → k < w8.heap.size := by
      rintro k (rfl | ⟨h0, rfl⟩)
      · exact vc'.lt
      · exact hsu'.lt (by simpa using h0)
    refine FN.mono (goes_c (fun _ _ => callFunc_enter Try.func49 rfl rfl _ _) (child_it vc' hsu' (by omega)) hcap2 hu2 hyl) ?_
    rintro _ w9 ⟨rfl, hE9⟩
    simp
    exact (hE.trans hWE).trans ((hE46.trans hE7).trans (hE8.trans hE9))
end Go.Proofs
