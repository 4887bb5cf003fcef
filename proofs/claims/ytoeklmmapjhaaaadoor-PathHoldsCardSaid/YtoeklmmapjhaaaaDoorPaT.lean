/-
  Contracts of the functions that the law reaches, step by step.
-/
import Derived.Test.YtoeklmmapjhaaaaDoorPaS
namespace Go.Proofs
open Pk
set_option maxRecDepth 10000
theorem crossOf_crI (c : Cr) (h : 0 ≤ c.1 ∧ c.1 < 4294967296) : crossOf (crI c) = c := by
  have : IntKind.u32.wrap c.1 = c.1 := by simp [IntKind.wrap, IntKind.signed, IntKind.bits]; omega
  obtain ⟨a, b⟩ := c
  simp at this h
  simp only [crossOf, crI, listI, It.l]
  rw [if_pos ⟨rfl, rfl, by simp [uintI, It.n]; omega⟩]
  simp [uintI, boolI, It.n, this]
theorem ofL_pt (back : Bool) (l : List Cr) (h : ∀ c ∈ l, 0 ≤ c.1 ∧ c.1 < 4294967296) : ofL (ptI back l) = l := by
  simp only [ofL, ptI, listI, It.l, List.tail_cons, List.map_map]
  conv => rhs; rw [← List.map_id l]
  exact List.map_congr_left fun c hc => crossOf_crI c (h c hc)
theorem ofB_pt (back : Bool) (l : List Cr) : ofB (ptI back l) = back := by
  simp only [ofB, ptI, listI, It.l, boolI, It.n]
  cases back <;> rfl
theorem ofD_pt (back : Bool) (l : List Cr) (h : ∀ c ∈ l, 0 ≤ c.1 ∧ c.1 < 4294967296) (hr : rightP l = true) : ofD (ptI back l) = true := by
  refine @decide_eq_true _ (Classical.propDecidable _) ⟨by simp [ptI, listI, It.l], ?_, ?_⟩
  · rw [ofL_pt back l h]; exact hr
  · rw [ofL_pt back l h, ofB_pt]
set_option maxHeartbeats 4000000 in
theorem lawItems_c {w : World} {v : Value} {l : List Cr} (h : CSl w v l) (back : Bool) (hok : ∀ c ∈ l, 0 ≤ c.1 ∧ c.1 < 4294967296) :
    FN Tryd.prog 3 [ptV back v] w fun e w' => e = .returned (.bool true) ∧ Ext w w' := by
  refine FN_enter Tryd.func3 rfl rfl (by kernel_rfl) ?_
  obtain ⟨va, vc, rfl⟩ := h.isSlice
  have hlen := fun ty W => h.isLen (P := Tryd.prog) (t := 22) (by simp) ty W
  have hE1 : Ext w (w.alloc (.cells #[.bool back, .slice va l.length vc] 24)) := (Ext.refl w).alloc _
  have p1 : PtAt (w.alloc (.cells #[.bool back, .slice va l.length vc] 24)) w.heap.size back (.slice va l.length vc) := PtAt.new w _ _ _
  by_cases h100 : (100 : Int) < l.length
  · simp [hlen, h100]
    refine FN.mono (works_c _) ?_
    rintro _ w2 ⟨rfl, hE2⟩
    simp
    exact hE1.trans hE2
  · simp [hlen, h100]
    generalize (w.alloc _) = w1 at *
    refine FN.mono (item_c (SlB.ext h hE1) back hok (by omega)) ?_
    rintro _ w2 ⟨cs, rfl, hI, hE2⟩
    have hI' := hI.any
    have p2 := p1.ext hE2
    obtain ⟨a10, m10, c10, a10', m10', c10', rfl⟩ := itC_form hI'
    obtain ⟨t, ht⟩ : ∃ t, t = if rightP l then ptI back l else It.mk 0 0 [] ⟨#[]⟩ [] := ⟨_, rfl⟩
    rw [← ht] at hI' ⊢
    simp
    have hE3 : Ext w2 (w2.alloc (.cells #[i64 t.k, u64 t.n, .slice a10 m10 c10, .string t.s, .slice a10' m10' c10'] 31)) := (Ext.refl w2).alloc _
    have x3 := ItBx.new w2 t.k t.n (.slice a10 m10 c10) t.s (.slice a10' m10' c10') 31
    have p3 := p2.ext hE3
    simp [p2.c0, p2.c1]
    generalize (w2.alloc (.cells #[i64 t.k, u64 t.n, .slice a10 m10 c10, .string t.s, .slice a10' m10' c10'] 31)) = w3 at *
    have hE13 := hE1.trans (hE2.trans hE3)
    refine FN.mono (rright_c back (SlB.ext h hE13) (by omega)) ?_
    rintro _ w4 ⟨rfl, hE4⟩
    have x4 := x3.ext hE4
    have p4 := p3.ext hE4
    have hE14 := hE13.trans hE4
    have hI4 := hI'.ext (hE3.trans hE4)
    by_cases hr : rightP l = true
    · simp [hr, x4.c0, x4.c1, x4.c2, x4.c3, x4.c4]
      rw [if_pos hr] at ht
      have htl : t.l.length ≤ 1000000 := by rw [ht]; simp [ptI, listI, It.l]; omega
      refine FN.mono (of_c hI4 htl) ?_
      rintro _ w5 ⟨v5, rfl, hE5, h5⟩
      rw [ht, ofD_pt back l hok hr, if_pos rfl, ofL_pt back l hok] at h5
      rw [ht, ofD_pt back l hok hr, ofB_pt]
      obtain ⟨a5, c5, rfl⟩ := h5.isSlice
      simp
      have x5 := x4.ext hE5
      have p5 := p4.ext hE5
      have hE6 : Ext w5 (w5.alloc (.cells #[.bool back, .slice a5 l.length c5] 24)) := (Ext.refl w5).alloc _
      have q6 : PtAt (w5.alloc (.cells #[.bool back, .slice a5 l.length c5] 24)) w5.heap.size back (.slice a5 l.length c5) := PtAt.new w5 _ _ _
      obtain ⟨b6, hb6⟩ : ∃ b6, b6 = w5.heap.size := ⟨_, rfl⟩
      rw [← hb6] at q6 ⊢
      have h6 := SlB.ext h5 hE6
      have x6 := x5.ext hE6
      have p6 := p5.ext hE6
      have hI6 := hI4.ext (hE5.trans hE6)
      have hE16 := hE14.trans (hE5.trans hE6)
      generalize (w5.alloc _) = w6 at *
      refine WC_drawC 15 (.F 0 <| .F 1 <| .C 2 <| .C 3 <| .F 4 <| .F 5 <| .F 7 <| .C 6 <| .C 8 <| .F 9 <| .F 10 <| .F 11 <| .F 12 <| .F 13 <| .F 14 <| .Z) (fun _ => false) rfl (by kernel_rfl) fun W hW => ?_
      have hWE : Ext w6 W := hW ▸ Ext.drew _
      have x7 := x6.ext hWE
      have p7 := p6.ext hWE
      have q7 := q6.ext hWE
      simp [x7.c0, x7.c1, x7.c2, x7.c3, x7.c4, p7.c0, p7.c1]
      have hE1W := hE16.trans hWE
      refine FN.mono (ritem_c (SlB.ext h hE1W) back hok (by omega)) ?_
      rintro _ w8 ⟨cs8, rfl, hi8, hE8⟩
      simp
      refine KR_ext hE8 ?_
      simp
      refine FN.mono (csame_c (pt_nob back l) (hI6.ext (hWE.trans hE8)) hi8) ?_
      rintro _ w9 ⟨rfl, hE9⟩
      rw [show decide (t = ptI back l) = true from by rw [ht]; simp]
      simp
      refine KR_ext hE9 ?_
      have p9 := p7.ext (hE8.trans hE9)
      have q9 := q7.ext (hE8.trans hE9)
      simp
      refine FN.mono (num_c 0 w9) ?_
      rintro _ wn ⟨rfl, hwn⟩
      subst hwn
      simp
      refine KR_same ?_
      simp
      refine FN.mono (num_c 0 wn) ?_
      rintro _ wn2 ⟨rfl, hwn⟩
      subst hwn
      simp
      refine KR_same ?_
      simp [show IntKind.i64.wrap 0 = 0 from by decide, p9.c0, p9.c1, q9.c0, q9.c1]
      have hE1f := hE1W.trans (hE8.trans hE9)
      refine FN.mono (rsame_c back back (SlB.ext h hE1f) (SlB.ext h6 (hWE.trans (hE8.trans hE9))) (by omega)) ?_
      rintro _ w10 ⟨rfl, hE10⟩
      simp
      refine FN.mono (works_c _) ?_
      rintro _ w11 ⟨rfl, hE11⟩
      simp
      exact hE1f.trans (hE10.trans hE11)
    · simp [hr, x4.c0, x4.c1, x4.c2, x4.c3, x4.c4]
      rw [if_neg hr] at ht
      refine FN.mono (csame_c (u := .mk 0 0 [] ⟨#[]⟩ []) (.mk _ _ _ _ fun x hx => by cases hx) hI4 (leaf_it 0 0)) ?_
      rintro _ w5 ⟨rfl, hE5⟩
      simp [ht]
      refine FN.mono (num_c 2 w5) ?_
      rintro _ w6 ⟨rfl, hw6⟩
      subst hw6
      simp
      refine FN.mono (works_c _) ?_
      rintro _ w7 ⟨rfl, hE7⟩
      simp
      exact hE14.trans (hE5.trans hE7)
end Go.Proofs
