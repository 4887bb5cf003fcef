/-
  Contracts of the functions that the law reaches, step by step.
-/
import Derived.Test.YtoeklmmapjhaaaaDoorPaT
namespace Go.Proofs
open Pk
set_option maxRecDepth 10000
theorem ofD_ok {t : It} (h : ofD t = true) : ofOk t := @of_decide_eq_true _ (Classical.propDecidable _) h
set_option maxHeartbeats 4000000 in
theorem lawReads_c {w : World} {lv : Value} {l : List It} {css : List (List Value)} (kind : Int) (h : SlB w 5 lv l.length css.flatten) (hc : ItCs w l css) (hl1 : l.length ≤ 9223372036854775807) :
    FN Tryd.prog 4 [lv, i64 kind] w fun e w' => e = .returned (.bool true) ∧ Ext w w' := by
  refine FN_enter Tryd.func4 rfl rfl (by kernel_rfl) ?_
  have hlen := fun ty W => h.isLen (P := Tryd.prog) (t := 29) (by simp) ty W
  obtain ⟨la, lc, rfl⟩ := h.isSlice
  have hE1 : Ext w (w.alloc (.cells #[i64 kind, u64 0, .slice none 0 0, .string ⟨#[]⟩, .slice la l.length lc] 31)) := (Ext.refl w).alloc _
  have x1 : ItBx (w.alloc (.cells #[i64 kind, u64 0, .slice none 0 0, .string ⟨#[]⟩, .slice la l.length lc] 31)) w.heap.size kind 0 (.slice none 0 0) ⟨#[]⟩ (.slice la l.length lc) := ItBx.new w _ _ _ _ _ 31
  obtain ⟨t, ht⟩ : ∃ t, t = It.mk kind 0 [] ⟨#[]⟩ l := ⟨_, rfl⟩
  have htl : t.l = l := by rw [ht]; rfl
  have hC : ItC w t [i64 kind, u64 0, .slice none 0 0, .string ⟨#[]⟩, .slice la l.length lc] := by
    rw [ht]
    exact itC_mk.2 ⟨_, _, css, rfl, SlB.nil _ 1 0, h, hc, by simp, hl1⟩
  by_cases h100 : (100 : Int) < l.length
  · simp [hlen, h100]
    refine FN.mono (works_c _) ?_
    rintro _ w2 ⟨rfl, hE2⟩
    simp
    exact hE1.trans hE2
  · simp [hlen, h100]
    generalize (w.alloc _) = w1 at *
    refine WC_loop (fun k ρ ds w' => ∃ i : Nat, k = l.length - i ∧ i ≤ l.length ∧ ρ 0 = .slice la l.length lc ∧ ρ 5 = ptr w.heap.size ∧ ρ 6 = i64 i ∧ ds = [] ∧ w' = w1) l.length ⟨0, by simp, by simp, by simp, by simp, by simp, rfl, rfl⟩ ?_
    rintro k ρ ds w2 ⟨i, rfl, hi, e0, e5, e6, rfl, hw2⟩
    subst hw2
    by_cases hlt : i < l.length
    · obtain ⟨k1, n1, b1, s1, v1, g1, y1, r1⟩ := itRow (h.ext hE1) (hc.ext hE1) hlt
      obtain ⟨⟨ba1, bm1, bc1, rfl⟩, ⟨la1, lm1, lc1, rfl⟩⟩ := itC_slices y1
      have i1 := fun W => h.index (P := Tryd.prog) (t := 29) (by simp) .i64 i (by omega) (by omega) W
      simp at i1
      have hln := fun ty W => r_len_slice Tryd.prog W 29 ty la1 lm1 lc1 (by simp)
      by_cases h10 : (10 : Int) < lm1
      · simp [e0, e6, hlen, hlt, i1, r1.c4, hln, h10]
        refine FN.mono (works_c _) ?_
        rintro _ w3 ⟨rfl, hE3⟩
        simp
        exact hE1.trans hE3
      · simp [e0, e5, e6, hlen, hlt, i1, r1.c4, hln, h10]
        exact ⟨l.length - (i + 1), by omega, i + 1, rfl, by omega, by rw [wrap64 _ (by omega) (by omega)]; rfl⟩
    · have : i = l.length := by omega
      subst this
      simp [e0, e5, e6, hlen, x1.c0, x1.c1, x1.c2, x1.c3, x1.c4]
      have hCw := hC.ext hE1
      have htb : t.l.length ≤ 1000 := by rw [htl]; omega
      refine FN.mono (of_c hCw (by omega)) ?_
      rintro _ w3 ⟨v3, rfl, hE3, h3⟩
      obtain ⟨L, hL⟩ : ∃ L, L = if ofD t = true then ofL t else [] := ⟨_, rfl⟩
      rw [← hL] at h3
      have hLl : L.length ≤ 1000 := by
        rw [hL]
        split
        · simp [ofL]; omega
        · simp
      obtain ⟨a3, c3, rfl⟩ := h3.isSlice
      obtain ⟨bk, hbk⟩ : ∃ bk, bk = (ofD t && ofB t) := ⟨_, rfl⟩
      rw [← hbk]
      simp
      have hE4 : Ext w3 (w3.alloc (.cells #[.bool bk, .slice a3 L.length c3] 24)) := (Ext.refl w3).alloc _
      have p4 := PtAt.new w3 bk (.slice a3 L.length c3) 24
      obtain ⟨b4, hb4⟩ : ∃ b4, b4 = w3.heap.size := ⟨_, rfl⟩
      rw [← hb4] at p4 ⊢
      have x4 := (x1.ext hE3).ext hE4
      have h4 := SlB.ext h3 hE4
      have hC4 := hCw.ext (hE3.trans hE4)
      have hE14 := hE1.trans (hE3.trans hE4)
      generalize (w3.alloc _) = w4 at *
      simp [e5, x4.c0, x4.c1, x4.c2, x4.c3, x4.c4]
      refine FN.mono (rof_c hC4 htb) ?_
      rintro _ w5 ⟨v5, rfl, hE5, h5⟩
      rw [← hL] at h5
      rw [← hbk]
      obtain ⟨a5, c5, rfl⟩ := h5.isSlice
      have p5 := p4.ext hE5
      simp [p5.c0, p5.c1]
      have hE6 : Ext w5 (w5.alloc (.cells #[.bool bk, .slice a5 L.length c5] 24)) := (Ext.refl w5).alloc _
      have q6 := PtAt.new w5 bk (.slice a5 L.length c5) 24
      obtain ⟨b6, hb6⟩ : ∃ b6, b6 = w5.heap.size := ⟨_, rfl⟩
      rw [← hb6] at q6 ⊢
      have p6 := (p4.ext hE5).ext hE6
      have x6 := (x4.ext hE5).ext hE6
      have h46 := (SlB.ext h4 hE5).ext hE6
      have h56 := SlB.ext h5 hE6
      have hC6 := hC4.ext (hE5.trans hE6)
      have hE16 := hE14.trans (hE5.trans hE6)
      generalize (w5.alloc _) = w6 at *
      refine FN.mono (rsame_c bk bk h46 h56 (by omega)) ?_
      rintro _ w7 ⟨rfl, hE7⟩
      have p7 := p6.ext hE7
      have x7 := x6.ext hE7
      have hE17 := hE16.trans hE7
      by_cases hd : ofD t = true
      · have hok := ofD_ok hd
        simp [hd]
        refine FN.mono (num_c 0 w7) ?_
        rintro _ wn ⟨rfl, hwn⟩
        subst hwn
        simp [p7.c0, p7.c1]
        rw [hd, if_pos rfl] at hL
        have hr : rightP L = true := by rw [hL]; exact hok.2.1
        have hokL : ∀ c ∈ L, 0 ≤ c.1 ∧ c.1 < 4294967296 := fun c hc => by
          rw [hL] at hc
          obtain ⟨y, -, rfl⟩ := List.mem_map.1 hc
          exact crossOf_ok y
        refine FN.mono (item_c (SlB.ext h46 hE7) bk hokL (by omega)) ?_
        rintro _ w8 ⟨cs8, rfl, hi8, hE8⟩
        rw [if_pos hr] at hi8 ⊢
        have hi8' := hi8.any
        obtain ⟨a10, m10, c10, a10', m10', c10', rfl⟩ := itC_form hi8'
        have x8 := x7.ext hE8
        have hE9 : Ext w8 (w8.alloc (.cells #[i64 (ptI bk L).k, u64 (ptI bk L).n, .slice a10 m10 c10, .string (ptI bk L).s, .slice a10' m10' c10'] 31)) := (Ext.refl w8).alloc _
        have y9 := ItBx.new w8 (ptI bk L).k (ptI bk L).n (.slice a10 m10 c10) (ptI bk L).s (.slice a10' m10' c10') 31
        have x9 := x8.ext hE9
        have hteq : t = ptI bk L := by
          rw [hbk, hd, hL]
          simpa using hok.2.2
        have hC9 := (hC6.ext hE7).ext (hE8.trans hE9)
        have hi9 := hi8'.ext hE9
        have hE19 := hE17.trans (hE8.trans hE9)
        simp
        obtain ⟨b8, hb8⟩ : ∃ b8, b8 = w8.heap.size := ⟨_, rfl⟩
        rw [← hb8] at y9 ⊢
        generalize (w8.alloc (.cells #[i64 (ptI bk L).k, u64 (ptI bk L).n, .slice a10 m10 c10, .string (ptI bk L).s, .slice a10' m10' c10'] 31)) = w9 at *
        refine FN.mono (num_c 0 w9) ?_
        rintro _ wn ⟨rfl, hwn⟩
        subst hwn
        simp [e5, x9.c0, x9.c1, x9.c2, x9.c3, x9.c4, y9.c0, y9.c1, y9.c2, y9.c3, y9.c4]
        refine FN.mono (csame_c (pt_nob _ _) hC9 hi9) ?_
        rintro _ w10 ⟨rfl, hE10⟩
        rw [show decide (t = ptI bk L) = true from by simp [← hteq]]
        simp
        refine FN.mono (works_c _) ?_
        rintro _ w11 ⟨rfl, hE11⟩
        simp
        exact hE19.trans (hE10.trans hE11)
      · simp [hd]
        refine FN.mono (num_c 152 w7) ?_
        rintro _ wn ⟨rfl, hwn⟩
        subst hwn
        simp
        refine FN.mono (num_c 152 wn) ?_
        rintro _ wn2 ⟨rfl, hwn⟩
        subst hwn
        simp
        refine FN.mono (works_c _) ?_
        rintro _ w8 ⟨rfl, hE8⟩
        simp
        exact hE17.trans hE8
end Go.Proofs
