/-
  Contracts of the functions that the law reaches, step by step.
-/
import Derived.Test.YtoeklmmapjhaaaaDoorPaN
namespace Go.Proofs
open Pk
set_option maxRecDepth 10000
theorem PtAt.set1 {W : World} {b : Nat} {back : Bool} {v : Value} (h : PtAt W b back v) (u : Value) : PtAt (W.setCell ⟨b, 1, none⟩ u) b back u :=
  ⟨by rw [← h.c0]; exact World.cell?_setCell_other W _ _ _ (by simp), World.cell?_setCell_same W _ _ h.c1, by simpa using h.f0, by simpa using h.f1⟩
/-- What an item must be, to be a path's: its elements. -/
theorem ofOk_el {t : It} (h : ofOk t) : t.k = 4 ∧ (∃ a r, t.l = a :: r ∧ a.k = 5) ∧ ∀ i x, 0 < i → t.l[i]? = some x → ∃ c, crossOf x = c ∧ x = crI c ∧ 0 ≤ c.1 ∧ c.1 ≤ 4294967295 := by
  obtain ⟨h0, -, h2⟩ := h
  have hl : t.l = boolI (ofB t) :: (ofL t).map crI := by
    conv => lhs; rw [h2]
    rfl
  refine ⟨by rw [h2]; rfl, ⟨_, _, hl, rfl⟩, fun i x hi hx => ?_⟩
  obtain ⟨i, rfl⟩ : ∃ j, i = j + 1 := ⟨i - 1, by omega⟩
  have hx2 := hx
  rw [hl] at hx
  simp only [List.getElem?_cons_succ, List.getElem?_map, ofL] at hx
  obtain ⟨c, hc, rfl⟩ := Option.map_eq_some_iff.1 hx
  obtain ⟨y, hy, rfl⟩ := Option.map_eq_some_iff.1 hc
  rw [List.getElem?_tail, hx2] at hy
  have hy' := Option.some.inj hy
  have := crossOf_ok y
  exact ⟨crossOf y, by rw [hy'], rfl, this.1, by omega⟩
theorem ofD_false {t : It} (h : ¬ ofOk t) : ofD t = false := by
  unfold ofD
  exact @decide_eq_false _ (Classical.propDecidable _) h
theorem shB_crI (c : Cr) : shB (crI c) [1, 5] := ⟨rfl, rfl⟩
theorem itN {W : World} {y : It} {k n : Int} {bv : Value} {s : ByteArray} {lv : Value} (h : ItC W y [i64 k, u64 n, bv, .string s, lv]) : y.k = k ∧ y.n = n := by
  obtain ⟨a1, a2, a3, a4, a5, a6, h6⟩ := itC_form h
  simp at h6
  exact ⟨h6.1.symm, h6.2.1.symm⟩
theorem shEl {W : World} {y : It} {k n : Int} {bv : Value} {s : ByteArray} {lv : Value} (h : ItC W y [i64 k, u64 n, bv, .string s, lv]) (hs : shB y [1, 5]) :
    ∃ na nb cs, SlB W 5 lv 2 cs ∧ W.cell? ⟨slB lv, slO lv + 1, none⟩ = some (u64 na) ∧ W.cell? ⟨slB lv, slO lv + 5 + 1, none⟩ = some (u64 nb) ∧ (na ≤ 4294967295 → crossOf y = (IntKind.u32.wrap na, decide (nb = 1))) ∧ ∀ c, y = crI c → c.1 = na := by
  obtain ⟨k', n', b', s', l'⟩ := y
  obtain ⟨bv', lv', css, hcs, hb, hl, hc, -, -⟩ := itC_mk.1 h
  simp at hcs
  obtain ⟨-, -, -, -, rfl⟩ := hcs
  have hm : l'.map It.k = [1, 5] := hs.2
  rcases l' with _ | ⟨a, _ | ⟨b, _ | ⟨_, _⟩⟩⟩ <;> simp at hm
  obtain ⟨k1, n1, b1, s1, v1, g1, y1, r1⟩ := itRow hl hc (i := 0) (by simp)
  obtain ⟨k2, n2, b2, s2, v2, g2, y2, r2⟩ := itRow hl hc (i := 1) (by simp)
  obtain ⟨ea, ea'⟩ := itN y1
  obtain ⟨eb, eb'⟩ := itN y2
  simp at ea ea' eb eb'
  have c1 := r1.c1
  have c2 := r2.c1
  simp at c1 c2
  refine ⟨n1, n2, _, hl, c1, c2, fun hle => ?_, fun c hc => ?_⟩
  · simp only [crossOf, It.l]
    rw [if_pos ⟨hm.1, hm.2, by omega⟩, ea', eb']
  · have := congrArg It.l hc
    simp [It.l, crI, listI] at this
    rw [← ea', this.1]
    rfl
set_option maxHeartbeats 2000000 in
theorem rof_c {w : World} {t : It} {cs : List Value} (ht : ItC w t cs) (hb : t.l.length ≤ 1000) :
    FN Tryd.prog 15 [.agg cs.toArray] w fun e w' => ∃ v', e = .returned (.tuple #[ptV (ofD t && ofB t) v', .bool (ofD t)]) ∧ Ext w w' ∧ CSl w' v' (if ofD t then ofL t else []) := by
  obtain ⟨k, n, b, s, l⟩ := t
  obtain ⟨bv, lv, css, rfl, hbs, hl, hc, hb1, hl1⟩ := itC_mk.1 ht
  obtain ⟨⟨ba1, bm1, bc1, rfl⟩, ⟨la1, lm1, lc1, rfl⟩⟩ := itC_slices ht
  refine FN_enter Tryd.func15 rfl rfl (by kernel_rfl) ?_
  have len1 := fun ty W => hl.isLen (P := Tryd.prog) (t := 29) (by simp) ty W
  have hE1 : Ext w ((w.alloc (.cells #[i64 k, u64 n, .slice ba1 bm1 bc1, .string s, .slice la1 lm1 lc1] 31)).alloc (.cells #[.bool false, .slice none 0 0] 24)) := ((Ext.refl w).alloc _).alloc _
  have x1 : ItBx ((w.alloc (.cells #[i64 k, u64 n, .slice ba1 bm1 bc1, .string s, .slice la1 lm1 lc1] 31)).alloc (.cells #[.bool false, .slice none 0 0] 24)) w.heap.size k n (.slice ba1 bm1 bc1) s (.slice la1 lm1 lc1) := (ItBx.new w _ _ _ _ _ 31).ext ((Ext.refl _).alloc _)
  have p1 : PtAt ((w.alloc (.cells #[i64 k, u64 n, .slice ba1 bm1 bc1, .string s, .slice la1 lm1 lc1] 31)).alloc (.cells #[.bool false, .slice none 0 0] 24)) (w.heap.size + 1) false (.slice none 0 0) := by
    have := PtAt.new (w.alloc (.cells #[i64 k, u64 n, .slice ba1 bm1 bc1, .string s, .slice la1 lm1 lc1] 31)) false (.slice none 0 0) 24
    simpa using this
  have z1 : ((w.alloc (.cells #[i64 k, u64 n, .slice ba1 bm1 bc1, .string s, .slice la1 lm1 lc1] 31)).alloc (.cells #[.bool false, .slice none 0 0] 24)).heap.size = w.heap.size + 1 + 1 := by simp
  have fin : ∀ (W : World) (a b : Value), Ext w W → Ext w ((W.setCell ⟨w.heap.size + 1, 0, none⟩ a).setCell ⟨w.heap.size + 1, 1, none⟩ b) := fun W a b hW => (hW.setCell _ _ (by simp only; omega)).setCell _ _ (by simp only; omega)
  by_cases hk : k = 4
  · subst hk
    cases l with
    | nil =>
      have hf : ofD (.mk 4 n b s []) = false := ofD_false fun h => h.1 rfl
      simp at len1
      rw [hf]
      simp [len1]
      exact ⟨((Ext.refl w).alloc _).alloc _, SlB.nil _ 2 0⟩
    | cons x r =>
      obtain ⟨k1, n1, b1, s1, v1, g1, y1, r1⟩ := itRow hl hc (i := 0) (by simp)
      have i1 := fun W => hl.index (P := Tryd.prog) (t := 29) (by simp) .i64 0 (by omega) (by simp) W
      have hrb : r.length ≤ 999 := by
        have := hb
        simp only [It.l, List.length_cons] at this
        omega
      have hk1 : x.k = k1 ∧ x.n = n1 := by
        obtain ⟨a1, a2, a3, a4, a5, a6, h6⟩ := itC_form y1
        simp at h6
        exact ⟨h6.1.symm, h6.2.1.symm⟩
      obtain ⟨r', hr'⟩ : ∃ r', r' = x :: r := ⟨_, rfl⟩
      have h0 : ¬ r' = [] := by rw [hr']; simp
      have r1' := r1.c0
      have r1n := r1.c1
      simp at i1 r1' r1n
      rw [← hr'] at len1 hl hc
      by_cases hk5 : k1 = 5
      · simp [len1, h0, i1, r1', r1n, hk5]
        have hE3 : Ext w (((w.alloc (.cells #[i64 4, u64 n, .slice ba1 bm1 bc1, .string s, .slice la1 lm1 lc1] 31)).alloc (.cells #[.bool false, .slice none 0 0] 24)).alloc (.cells #[.bool (decide (n1 = 1)), .slice none 0 0] 24)) := hE1.alloc _
        have x3 := x1.ext ((Ext.refl _).alloc (.cells #[.bool (decide (n1 = 1)), .slice none 0 0] 24))
        have p3 := p1.ext ((Ext.refl _).alloc (.cells #[.bool (decide (n1 = 1)), .slice none 0 0] 24))
        have a3 : PtAt (((w.alloc (.cells #[i64 4, u64 n, .slice ba1 bm1 bc1, .string s, .slice la1 lm1 lc1] 31)).alloc (.cells #[.bool false, .slice none 0 0] 24)).alloc (.cells #[.bool (decide (n1 = 1)), .slice none 0 0] 24)) (w.heap.size + 1 + 1) (decide (n1 = 1)) (.slice none 0 0) := by
          have := PtAt.new ((w.alloc (.cells #[i64 4, u64 n, .slice ba1 bm1 bc1, .string s, .slice la1 lm1 lc1] 31)).alloc (.cells #[.bool false, .slice none 0 0] 24)) (decide (n1 = 1)) (.slice none 0 0) 24
          simpa using this
        have z3 : (((w.alloc (.cells #[i64 4, u64 n, .slice ba1 bm1 bc1, .string s, .slice la1 lm1 lc1] 31)).alloc (.cells #[.bool false, .slice none 0 0] 24)).alloc (.cells #[.bool (decide (n1 = 1)), .slice none 0 0] 24)).heap.size = w.heap.size + 1 + 1 + 1 := by simp
        generalize (((w.alloc (.cells #[i64 4, u64 n, .slice ba1 bm1 bc1, .string s, .slice la1 lm1 lc1] 31)).alloc (.cells #[.bool false, .slice none 0 0] 24)).alloc (.cells #[.bool (decide (n1 = 1)), .slice none 0 0] 24)) = w3 at *
        have hrr : r'.length = r.length + 1 := by rw [hr']; rfl
        refine WC_loop (fun k ρ ds w' => ∃ (j : Nat) (u : Value), k = r.length - j ∧ j ≤ r.length ∧ ρ 1 = ptr w.heap.size ∧ ρ 2 = ptr (w.heap.size + 1) ∧ ρ 4 = ptr (w.heap.size + 1 + 1) ∧ ρ 5 = i64 ((j : Int) + 1) ∧ ds = [] ∧
          Mod (fun k => k = w.heap.size + 1 + 1) w3 w' ∧ PtAt w' (w.heap.size + 1 + 1) (decide (n1 = 1)) u ∧ w'.ownsRow w3.heap.size 47 2 u j (((r.take j).map crossOf).flatMap crC)) r.length
          ⟨0, .slice none 0 0, by simp, by simp, by simp, by simp, by simp, by simp, rfl, Mod.refl _ _, a3, World.ownsRow_nil _ _ _ _⟩ ?_
        rintro kk ρ ds w4 ⟨j, u, rfl, hj, e1, e2, e4, e5, rfl, hM, a4, ho⟩
        have hE4 : Ext w w4 := (hE3.mod.trans hM).ext fun k hk => by omega
        have x4 := x3.mod hM (by omega)
        have p4 := p3.mod hM (by omega)
        by_cases hlt : j < r.length
        · have hltz : (j : Int) + 1 < r'.length := by omega
          have hlt' : j + 1 < r'.length := by omega
          obtain ⟨k2, n2, b2, s2, v2, g2, y2, r2⟩ := itRow (hl.ext hE4) (hc.ext hE4) hlt'
          have i2 := fun W => hl.index (P := Tryd.prog) (t := 29) (by simp) .i64 ((j : Int) + 1) (by omega) (by omega) W
          have c0 := r2.c0
          have c1 := r2.c1
          have c2 := r2.c2
          have c3 := r2.c3
          have c4 := r2.c4
          have ej : ((j : Int) + 1).toNat = j + 1 := by omega
          simp [ej] at i2
          obtain ⟨⟨ba2, bm2, bc2, rfl⟩, ⟨la2, lm2, lc2, rfl⟩⟩ := itC_slices y2
          simp [e1, e5, x4.c4, len1, hltz, i2, r2.c0, r2.c1, r2.c2, r2.c3, r2.c4]
          obtain ⟨y, hy⟩ : ∃ y, y = r'[j + 1] := ⟨_, rfl⟩
          rw [← hy] at y2
          have hry : r[j]? = some y := by rw [hy]; simp [hr', hlt]
          have hbad : ∀ h : ofOk (.mk 4 n b s (x :: r)), ∃ c, crossOf y = c ∧ y = crI c ∧ 0 ≤ c.1 ∧ c.1 ≤ 4294967295 := fun h => (ofOk_el h).2.2 (j + 1) y (by omega) (by simp only [It.l, List.getElem?_cons_succ]; exact hry)
          have hE45 : Ext w4 (w4.alloc (.cells #[i64 1, i64 5] 3)) := (Ext.refl w4).alloc _
          have k5 : SlB (w4.alloc (.cells #[i64 1, i64 5] 3)) 1 (.slice (some ⟨w4.heap.size, 0, none⟩) 2 2) 2 [i64 1, i64 5] := (Sl.made w4 [i64 1, i64 5] 3 1 2 rfl).toB
          generalize (w4.alloc (.cells #[i64 1, i64 5] 3)) = w5 at *
          refine FN.mono (shape_c (ks := [1, 5]) (y2.ext hE45) k5 (by simp)) ?_
          rintro _ w6 ⟨rfl, hE56⟩
          have hE46 := hE45.trans hE56
          have x6 := x4.ext hE46
          have p6 := p4.ext hE46
          have a6 := a4.ext hE46
          have s46 := hE46.size
          have s3 := hM.size
          have fin6 : ∀ (W : World) (a b : Value), Ext w6 W → Ext w ((W.setCell ⟨w.heap.size + 1, 0, none⟩ a).setCell ⟨w.heap.size + 1, 1, none⟩ b) := fun W a b hW => fin _ _ _ (hE4.trans (hE46.trans hW))
          by_cases hs : shB y [1, 5]
          · obtain ⟨na, nb, cs2, l2, d1, d2, hco, hcr⟩ := shEl (y2.ext hE46) hs
            have hlm : lm2 = 2 := by
              obtain ⟨a, c, h⟩ := l2.isSlice
              simp at h; exact h.2.1
            subst hlm
            have i20 := fun W => l2.index (P := Tryd.prog) (t := 29) (by simp) .i64 0 (by omega) (by omega) W
            have i21 := fun W => l2.index (P := Tryd.prog) (t := 29) (by simp) .i64 1 (by omega) (by omega) W
            have t0 := (r2.ext hE46).c4
            simp at i20 i21 d1 d2
            by_cases hna : 4294967295 < na
            · have hf : ofD (.mk 4 n b s (x :: r)) = false := ofD_false fun h => by
                obtain ⟨c, -, hc1, -, hc2⟩ := hbad h
                have := hcr c hc1
                omega
              rw [hf]
              simp [e1, e2, e5, hs, x6.c4, i2, t0, i20, d1, hna, p6.c0, p6.c1, p6.f0, p6.f1, cell_setCell]
              exact ⟨fin6 _ _ _ (Ext.refl _), SlB.nil _ 2 0⟩
            · simp [e1, e5, hs, x6.c4, i2, t0, i20, d1, hna]
              refine WC_drawC 24 (.F 0 <| .F 1 <| .F 2 <| .F 3 <| .F 4 <| .F 5 <| .F 6 <| .F 7 <| .F 8 <| .F 9 <| .F 10 <| .F 11 <| .F 12 <| .F 13 <| .F 14 <| .F 15 <| .F 16 <| .F 17 <| .F 18 <| .F 19 <| .F 20 <| .F 21 <| .F 22 <| .C 23 <| .Z) (fun _ => false) rfl (by kernel_rfl) fun W hW => ?_
              have hWE : Ext w6 W := hW ▸ Ext.drew _
              have x7 := x6.ext hWE
              have a7 := a6.ext hWE
              have t7 := hWE.cell_eq t0
              have d17 := hWE.cell_eq d1
              have d27 := hWE.cell_eq d2
              simp [e1, e4, e5, x7.c4, i2, t7, i20, i21, d17, d27, a7.c1]
              have hco' := hco (by omega)
              have hE7 : Ext W (W.alloc (.cells #[u32 (IntKind.u32.wrap na), .bool (decide (nb = 1))] 47)) := (Ext.refl W).alloc _
              have h7 : Sl (W.alloc (.cells #[u32 (IntKind.u32.wrap na), .bool (decide (nb = 1))] 47)) 2 (.slice (some ⟨W.heap.size, 0, none⟩) 1 1) 1 (crC (crossOf y)) := by rw [hco']; exact Sl.made W (crC (IntKind.u32.wrap na, decide (nb = 1))) 47 2 1 rfl
              refine KR_ext hE7 ?_
              generalize (W.alloc (.cells #[u32 (IntKind.u32.wrap na), .bool (decide (nb = 1))] 47)) = w7 at *
              have hE47 := hE46.trans (hWE.trans hE7)
              have s47 := hE47.size
              obtain ⟨u', w8, hr8, ho8, hM8, -⟩ := append_own (P := Tryd.prog) (t := 22) (ty := 22) (e := 47) (s := 2) (by simp) (by simp) (by kernel_rfl) (own_ext ho hE47) h7 (fun u hu => crone [crossOf y] u (by simpa using hu)) (by omega) (by omega)
              obtain ⟨ua, uc, rfl⟩ := own_val ho8
              have hM48 : Mod (fun k => slN u = false ∧ k = slB u) w4 w8 := hE47.mod.trans hM8
              have ho3 : ∀ k, slN u = false ∧ k = slB u → w3.heap.size ≤ k := fun k hk => by have := own_ge ho hk.1; omega
              have a8 := a4.mod hM48 (fun h => by have := ho3 _ h; omega)
              simp [e1, e2, e4, e5, hr8, a8.c1, a8.f1]
              have hMs := (Mod.refl (fun k => k = w.heap.size + 1 + 1) w8).setC 1 (.slice ua (j + 1) uc)
              refine ⟨r.length - (j + 1), by omega, j + 1, rfl, by omega, by rw [wrap64 _ (by omega) (by omega)]; simp, (hM.trans' hM48 fun k hk => .inr (ho3 k hk)).trans hMs, _, a8.set1 _, ?_⟩
              have ho9 := own_keep ho8 (w' := w8.setCell ⟨w.heap.size + 1 + 1, 1, none⟩ (.slice ua (j + 1) uc)) fun hn hl => hMs.blk _ hl (by have := own_ge ho8 hn; omega)
              have e : ((r.take (j + 1)).map crossOf).flatMap crC = ((r.take j).map crossOf).flatMap crC ++ crC (crossOf y) := by
                rw [List.take_add_one, hry]
                simp
              rw [List.map_take] at e
              rw [e]
              exact ho9
          · have hf : ofD (.mk 4 n b s (x :: r)) = false := ofD_false fun h => by
              obtain ⟨c, -, hc1, -⟩ := hbad h
              exact hs (by rw [hc1]; exact shB_crI c)
            rw [hf]
            simp [e2, hs, p6.c0, p6.c1, p6.f0, p6.f1, cell_setCell]
            exact ⟨fin6 _ _ _ (Ext.refl _), SlB.nil _ 2 0⟩
        · have hj' : j = r.length := by omega
          subst hj'
          rw [List.take_length] at ho
          have hL : ofL (.mk 4 n b s (x :: r)) = r.map crossOf := rfl
          have hB : ofB (.mk 4 n b s (x :: r)) = decide (n1 = 1) := by
            show decide (x.n = 1) = _
            rw [hk1.2]
          obtain ⟨L, hLd⟩ : ∃ L, L = r.map crossOf := ⟨_, rfl⟩
          have hLl : L.length = r.length := by rw [hLd]; simp
          rw [← hLd] at hL ho
          rw [← hLl] at ho
          obtain ⟨ua, uc, rfl⟩ := own_val ho
          have hcs4 : CSl w4 (.slice ua L.length uc) L := (sl_of_own ho).toB
          have hokL : ∀ c ∈ L, 0 ≤ c.1 ∧ c.1 < 4294967296 := fun c hc => by
            rw [hLd] at hc
            obtain ⟨y, -, rfl⟩ := List.mem_map.1 hc
            exact crossOf_ok y
          have hltz : ¬ ((r.length : Int) + 1 < r'.length) := by omega
          simp [e1, e5, x4.c4, len1, hltz]
          refine WC_drawC 7 (.F 0 <| .C 1 <| .F 2 <| .F 3 <| .F 4 <| .F 5 <| .C 6 <| .Z) (fun _ => false) rfl (by kernel_rfl) fun W hW => ?_
          have hWE : Ext w4 W := hW ▸ Ext.drew _
          have a5 := a4.ext hWE
          simp [e4, a5.c0, a5.c1]
          refine FN.mono (rright_c (decide (n1 = 1)) (SlB.ext hcs4 hWE) (by omega)) ?_
          rintro _ w5 ⟨rfl, hE5⟩
          simp
          refine KR_ext hE5 ?_
          have a6 := a5.ext hE5
          have x6 := (x4.ext hWE).ext hE5
          by_cases hr : rightP L = true
          · simp [hr, e1, e4, a6.c0, a6.c1, x6.c0, x6.c1, x6.c2, x6.c3, x6.c4]
            refine FN.mono (ritem_c (SlB.ext hcs4 (hWE.trans hE5)) (decide (n1 = 1)) hokL (by omega)) ?_
            rintro _ w6 ⟨cs6, rfl, hi6, hE6⟩
            simp
            refine KR_ext hE6 ?_
            have hE46 := hWE.trans (hE5.trans hE6)
            simp
            refine FN.mono (csame_c (pt_nob _ _) (ht.ext (hE4.trans hE46)) hi6) ?_
            rintro _ w7 ⟨rfl, hE7⟩
            have hE47 := hE46.trans hE7
            have p7 := p4.ext hE47
            have a7 := a4.ext hE47
            by_cases he : It.mk 4 n b s (x :: r) = ptI (decide (n1 = 1)) L
            · have hf : ofD (.mk 4 n b s (x :: r)) = true := @decide_eq_true _ (Classical.propDecidable _) ⟨by simp [It.l], by rw [hL]; exact hr, by rw [hL, hB]; exact he⟩
              rw [hf, hL, hB]
              simp [he, e2, e4, a7.c0, a7.c1, p7.c0, p7.c1, p7.f0, p7.f1, cell_setCell]
              refine ⟨fin _ _ _ (hE4.trans hE47), ?_⟩
              have hMf := ((Mod.refl (fun k => k = w.heap.size + 1) w7).setC 0 (.bool (decide (n1 = 1)))).setC 1 (.slice ua L.length uc)
              refine SlB.mod (SlB.ext hcs4 hE47) hMf fun hne => ?_
              have hn0 : L.length ≠ 0 := fun e => hne (by rw [List.eq_nil_of_length_eq_zero e]; rfl)
              have := own_ge ho (own_nil ho (by omega))
              simp [slB] at this ⊢
              omega
            · have hf : ofD (.mk 4 n b s (x :: r)) = false := ofD_false fun h => he (by have := h.2.2; rw [hL, hB] at this; exact this)
              rw [hf]
              simp [he, e2, p7.c0, p7.c1, p7.f0, p7.f1, cell_setCell]
              exact ⟨fin _ _ _ (hE4.trans hE47), SlB.nil _ 2 0⟩
          · have hf : ofD (.mk 4 n b s (x :: r)) = false := ofD_false fun h => hr (by rw [← hL]; exact h.2.1)
            have p6 := (p4.ext hWE).ext hE5
            rw [hf]
            simp [hr, e2, p6.c0, p6.c1, p6.f0, p6.f1, cell_setCell]
            exact ⟨fin _ _ _ (hE4.trans (hWE.trans hE5)), SlB.nil _ 2 0⟩
      · have hf : ofD (.mk 4 n b s (x :: r)) = false := ofD_false fun h => by
          obtain ⟨-, ⟨a, r2, e, h5⟩, -⟩ := ofOk_el h
          simp [It.l] at e
          obtain ⟨rfl, -⟩ := e
          omega
        rw [hf]
        simp [len1, h0, i1, r1', hk5, p1.c0, p1.c1, p1.f0, p1.f1]
        exact ⟨((Ext.refl w).alloc _).alloc _, SlB.nil _ 2 0⟩
  · have hf : ofD (.mk k n b s l) = false := ofD_false fun h => hk (ofOk_el h).1
    rw [hf]
    simp [hk, p1.c0, p1.c1, p1.f0, p1.f1]
    exact ⟨((Ext.refl w).alloc _).alloc _, SlB.nil _ 2 0⟩
end Go.Proofs
