/-
  Contracts of the functions that the law reaches, step by step.
-/
import Derived.Test.YtoeklmmapjhaaaaDoorPaT
import Derived.Test.YtoeklmmapjhaaaaDoorPbB
namespace Go.Proofs
open Pk
set_option maxRecDepth 10000
theorem right_parts {l : List Cr} (h : rightP l = true) : l.length ≤ 64 ∧ l.Nodup ∧ ∀ c ∈ l, c.1 ≠ 0 := by
  unfold rightP at h
  simp only [Bool.not_eq_true', Bool.or_eq_false_iff, decide_eq_false_iff_not, List.any_eq_false, Bool.not_eq_false', decide_eq_true_eq] at h
  exact ⟨by omega, h.1.2, h.2⟩
theorem right_snoc {l : List Cr} (h : rightP l = true) {x : Cr} (h0 : withE l x = 0) : rightP (l ++ [x]) = true ∧ x ∉ l := by
  obtain ⟨h1, h2, h3⟩ := right_parts h
  unfold withE at h0
  rw [h] at h0
  simp only [Bool.not_true, Bool.false_eq_true, if_false] at h0
  by_cases hx : x.1 = 0
  · rw [if_pos hx] at h0; cases h0
  rw [if_neg hx] at h0
  by_cases hm : x ∈ l
  · rw [if_pos hm] at h0; cases h0
  rw [if_neg hm] at h0
  by_cases hl : l.length = 64
  · rw [if_pos hl] at h0; cases h0
  refine ⟨?_, hm⟩
  have n1 : (l ++ [x]).Nodup := List.nodup_append.2 ⟨h2, by simp, fun a ha b hb e => by simp at hb; subst hb; subst e; exact hm ha⟩
  unfold rightP
  simp only [Bool.not_eq_true', Bool.or_eq_false_iff, decide_eq_false_iff_not, List.any_eq_false, Bool.not_eq_false', decide_eq_true_eq]
  refine ⟨⟨by simp; omega, n1⟩, fun c hc => ?_⟩
  rcases List.mem_append.1 hc with hc | hc
  · exact h3 c hc
  · simp at hc; subst hc; exact hx
theorem withE_cases {l : List Cr} (h : rightP l = true) (x : Cr) : (withE l x = 2 ∧ x.1 = 0) ∨ (withE l x = 150 ∧ x ∈ l) ∨ (withE l x = 151 ∧ l.length = 64 ∧ x ∉ l) ∨ (withE l x = 0 ∧ x ∉ l ∧ rightP (l ++ [x]) = true) := by
  by_cases h0 : withE l x = 0
  · exact .inr (.inr (.inr ⟨h0, (right_snoc h h0).2, (right_snoc h h0).1⟩))
  · unfold withE at *
    rw [h] at *
    simp only [Bool.not_true, Bool.false_eq_true, if_false] at *
    by_cases hx : x.1 = 0
    · rw [if_pos hx]; exact .inl ⟨rfl, hx⟩
    rw [if_neg hx] at *
    by_cases hm : x ∈ l
    · rw [if_pos hm]; exact .inr (.inl ⟨rfl, hm⟩)
    rw [if_neg hm] at *
    by_cases hl : l.length = 64
    · rw [if_pos hl]; exact .inr (.inr (.inl ⟨rfl, hl, hm⟩))
    · rw [if_neg hl] at h0; exact absurd rfl h0
theorem gN_two {l : List Cr} (h : l.Nodup) (g : Int) : gN l g ≤ 2 := by
  have hs : ((l.filter fun c => decide (c.1 = g)).Nodup) := h.sublist List.filter_sublist
  have hsub : ∀ c ∈ (l.filter fun c => decide (c.1 = g)), c ∈ [(g, true), (g, false)] := by
    intro c hc
    have := (List.mem_filter.1 hc).2
    simp at this
    obtain ⟨a, b⟩ := c
    simp at this
    subst this
    cases b <;> simp
  unfold gN
  generalize (l.filter fun c => decide (c.1 = g)) = L at *
  match L with
  | [] => simp
  | [_] => simp
  | [_, _] => simp
  | a :: b :: c :: r =>
    simp only [List.nodup_cons, List.mem_cons, not_or] at hs
    have h1 := hsub a (by simp)
    have h2 := hsub b (by simp)
    have h3 := hsub c (by simp)
    simp at h1 h2 h3
    rcases h1 with h1 | h1 <;> rcases h2 with h2 | h2 <;> rcases h3 with h3 | h3 <;> simp_all
theorem gN_pos {l : List Cr} {ys : List Int} (h : kGisKeys (gM l) ys) {g : Int} (hg : g ∈ ys) : 0 < gN l g := by
  have h1 := h.1.mem_iff.1 hg
  obtain ⟨p, hp, rfl⟩ := List.mem_map.1 h1
  have h2 := (gM_all l).1 p.1
  by_cases h0 : 0 < gN l p.1
  · exact h0
  · rw [if_neg h0] at h2
    exact absurd rfl (kget_none h2 p hp)
theorem kGval_gM (l : List Cr) (g : Int) : kGval (gM l) g = i64 (gN l g) := by
  unfold kGval
  rw [← gM_d]
  cases mget (gM l) g <;> rfl
set_option maxHeartbeats 4000000 in
theorem lawHolds_c {w : World} {v : Value} {l : List Cr} (h : CSl w v l) :
    FN Tryd.prog 6 [v] w fun e w' => e = .returned (.bool true) ∧ Ext w w' := by
  refine FN_enter Tryd.func6 rfl rfl (by kernel_rfl) ?_
  obtain ⟨va, vc, rfl⟩ := h.isSlice
  have hlen := fun ty W => h.isLen (P := Tryd.prog) (t := 22) (by simp) ty W
  by_cases h300 : (300 : Int) < l.length
  · simp [hlen, h300]
    have hE1 : Ext w (w.alloc (.cells #[.bool false] 4)) := (Ext.refl w).alloc _
    have o1 : Var (w.alloc (.cells #[.bool false] 4)) w.heap.size (.bool false) := Var.new w _ _
    generalize (w.alloc _) = w1 at *
    refine FN.mono (works_c _) ?_
    rintro _ w2 ⟨rfl, hE2⟩
    have o2 := o1.ext hE2
    simp [o2.cell, o2.thaw]
    have hM3 := (Mod.refl (fun k => k = w.heap.size) w2).setC 0 (.bool true)
    simp [(o2.set (.bool true)).cell]
    exact ((hE1.trans hE2).mod.trans hM3).ext fun k hk => by omega
  · simp [hlen, h300]
    have hE1 : Ext w ((w.alloc (.cells #[.bool false] 4)).alloc (.cells #[.bool false, .slice none 0 0] 24)) := ((Ext.refl w).alloc _).alloc _
    have p1 : PtAt ((w.alloc (.cells #[.bool false] 4)).alloc (.cells #[.bool false, .slice none 0 0] 24)) (w.heap.size + 1) false (.slice none 0 0) := by
      have := PtAt.new (w.alloc (.cells #[.bool false] 4)) false (.slice none 0 0) 24
      simpa using this
    have o1 : Var ((w.alloc (.cells #[.bool false] 4)).alloc (.cells #[.bool false, .slice none 0 0] 24)) w.heap.size (.bool false) := (Var.new w _ _).ext ((Ext.refl _).alloc _)
    have z1 : ((w.alloc (.cells #[.bool false] 4)).alloc (.cells #[.bool false, .slice none 0 0] 24)).heap.size = w.heap.size + 1 + 1 := by simp
    generalize ((w.alloc (.cells #[.bool false] 4)).alloc (.cells #[.bool false, .slice none 0 0] 24)) = w1 at *
    refine WC_loop (fun k ρ ds w' => ∃ (i : Nat) (s : List Cr) (pv : Value), k = l.length - i ∧ i ≤ l.length ∧ ρ 0 = .slice va l.length vc ∧ ρ 2 = ptr w.heap.size ∧ ρ 3 = ptr (w.heap.size + 1) ∧ ρ 4 = i64 i ∧ ds = [] ∧
      Ext w w' ∧ Var w' w.heap.size (.bool false) ∧ PtAt w' (w.heap.size + 1) false pv ∧ CSl w' pv s ∧ (s ≠ [] → w.heap.size + 1 < slB pv) ∧ rightP s = true ∧ s.length ≤ i ∧ w1.heap.size ≤ w'.heap.size) l.length
      ⟨0, [], .slice none 0 0, by simp, by simp, by simp, by simp, by simp, by simp, rfl, hE1, o1, p1, SlB.nil _ 2 0, fun h => absurd rfl h, by decide, by simp, by simp⟩ ?_
    rintro k ρ ds w2 ⟨i, s, pv, rfl, hi, e0, e2, e3, e4, rfl, hE2, o2, p2, hs2, hb2, hr2, hsi, hz2⟩
    obtain ⟨hr64, hrn, hr0⟩ := right_parts hr2
    obtain ⟨sa, sc, rfl⟩ := hs2.isSlice
    by_cases hlt : i < l.length
    · simp [e0, e4, hlt, hlen]
      have hq := List.getElem?_eq_getElem hlt
      refine WC_drawL 11 (.F 0 <| .F 1 <| .F 2 <| .F 3 <| .F 4 <| .D 9 <| .L 5 <| .F 6 <| .F 7 <| .F 8 <| .W 9 <| .S 10 <| .Z) (fun _ => false) (fun _ => false)
        (fun _ u W => ∃ b, u = ptr b ∧ w2.heap.size ≤ b ∧ PtAt W b false (.slice none 0 0)) rfl (by kernel_rfl) (fun _ h => h) (fun _ _ _ _ h1 h2 => ?_) fun W hW => ?_
      · obtain ⟨b, rfl, hb, hp⟩ := h1
        exact ⟨b, rfl, hb, hp.ext (agr_ext h2)⟩
      have hWE : Ext w2 W := hW ▸ Ext.drew w2
      have p3 := p2.ext hWE
      have ix := CSl.index h i hlt W
      have rr := CSl.row (SlB.ext h (hE2.trans hWE)) hq
      simp [e0, e3, e4, p3.c0, p3.c1, ix, rr.c0, rr.c1]
      refine RL_float (fun W1 h1 => ?_) ?_
      · simp
        have hs := (hWE.trans (agr_ext h1)).size
        exact ⟨(Ext.refl _).alloc _, by omega, PtAt.new W1 _ _ _⟩
      simp
      refine RL_loose fun W3 h3 => ?_
      have hE3 := hE2.trans (hWE.trans h3)
      have hE23 := hWE.trans h3
      have rr3 := CSl.row (SlB.ext h hE3) hq
      have p33 := p3.ext h3
      simp
      refine FN.mono (with_c (SlB.ext hs2 hE23) false l[i] (by omega)) ?_
      rintro _ W4 ⟨v4, rfl, hE4, hz4, hy4⟩
      simp
      refine KR_ext hE4 ?_
      obtain ⟨E, hEe⟩ : ∃ E, E = withE s l[i] := ⟨_, rfl⟩
      rw [← hEe] at hz4 hy4 ⊢
      simp
      refine RL_wait fun v5 W5 h5 ⟨b5, hv5, hb5, hp5⟩ => ?_
      subst hv5
      have hE25 := hE23.trans (hE4.trans h5)
      have hE5 := hE2.trans hE25
      have z5 := hE25.size
      have hc4 : CSl W5 v4 (if E = 0 then s ++ [l[i]] else []) := by
        by_cases h0 : E = 0
        · rw [if_pos h0]; exact SlB.ext (hy4 h0).1 h5
        · rw [if_neg h0, hz4 h0]; exact SlB.nil _ 2 0
      have hg4 : E = 0 → w2.heap.size ≤ slB v4 ∧ ¬ slB v4 = b5 := fun h0 => by
        obtain ⟨-, g, cap, cur, rfl, hg, ho⟩ := hy4 h0
        refine ⟨by simp [slB]; have := hE23.size; omega, fun e => ?_⟩
        simp [slB] at e
        subst e
        have h1 := (hy4 h0).1.at_ 0 (u32 (((s ++ [l[i]])[0]'(by simp)).1)) (by cases s <;> simp [crC])
        simp [slB, slO] at h1
        have h2 := hp5.c0
        rw [h5.cell_eq h1] at h2
        cases h2
      obtain ⟨L, hL⟩ : ∃ L, L = (if E = 0 then s ++ [l[i]] else []) := ⟨_, rfl⟩
      rw [← hL] at hc4
      obtain ⟨a4, c4, rfl⟩ := hc4.isSlice
      have na : ¬ w.heap.size = b5 := by omega
      have nb : ¬ w.heap.size + 1 = b5 := by omega
      have o5 := o2.ext hE25
      have p5 := p2.ext hE25
      simp [hp5.c0, hp5.c1, hp5.f0, hp5.f1, cell_setCell]
      have hM6 : Mod (fun k => k = b5) W5 ((W5.setCell ⟨b5, 0, none⟩ (.bool false)).setCell ⟨b5, 1, none⟩ (.slice a4 L.length c4)) := ((Mod.refl _ W5).setC 0 _).setC 1 _
      have q6 : PtAt ((W5.setCell ⟨b5, 0, none⟩ (.bool false)).setCell ⟨b5, 1, none⟩ (.slice a4 L.length c4)) b5 false (.slice a4 L.length c4) := by
        refine ⟨?_, ?_, by simpa using hp5.f0, by simpa using hp5.f1⟩ <;> simp [cell_setCell, hp5.c0, hp5.c1]
      refine KR_mk (agr_any (hM6.weaken fun _ _ => trivial)) ?_
      have hE26 : Ext w2 ((W5.setCell ⟨b5, 0, none⟩ (.bool false)).setCell ⟨b5, 1, none⟩ (.slice a4 L.length c4)) := (hE25.mod.trans hM6).ext fun k hk => by omega
      have hc6 : CSl ((W5.setCell ⟨b5, 0, none⟩ (.bool false)).setCell ⟨b5, 1, none⟩ (.slice a4 L.length c4)) (.slice a4 L.length c4) L := SlB.mod hc4 hM6 fun hne e => by
        by_cases h0 : E = 0
        · exact (hg4 h0).2 e
        · rw [if_neg h0] at hL; subst hL; exact hne rfl
      generalize ((W5.setCell ⟨b5, 0, none⟩ (.bool false)).setCell ⟨b5, 1, none⟩ (.slice a4 L.length c4)) = w6 at *
      have hE6 := hE2.trans hE26
      have o6 := o2.ext hE26
      have p6 := p2.ext hE26
      have z6 := hE26.size
      have hw1 : IntKind.i64.wrap ((i : Int) + 1) = ((i + 1 : Nat) : Int) := by rw [wrap64 _ (by omega) (by omega)]; rfl
      simp
      refine FN.mono (num_c E w6) ?_
      rintro _ wn ⟨rfl, hwn⟩
      subst hwn
      simp
      have rr6 := CSl.row (SlB.ext h hE6) hq
      have ix6 := fun W => CSl.index h i hlt W
      rcases withE_cases hr2 l[i] with ⟨h1, hx⟩ | ⟨h1, hx⟩ | ⟨h1, hx, hx'⟩ | ⟨h1, hx, hx'⟩
      · rw [h1] at hEe
        subst hEe
        simp [e0, e4, ix6, rr6.c0, hx]
        exact ⟨l.length - (i + 1), by omega, i + 1, rfl, by omega, e2, e3, hw1, hE6, o6, s, .slice sa s.length sc, p6, SlB.ext hs2 hE26, hb2, hr2, by omega, by omega⟩
      · rw [h1] at hEe
        subst hEe
        simp
        refine WC_drawC 5 (.F 0 <| .F 1 <| .F 2 <| .F 3 <| .F 4 <| .Z) (fun _ => false) rfl (by kernel_rfl) fun V hV => ?_
        have hVE : Ext wn V := hV ▸ Ext.drew _
        have p7 := p6.ext hVE
        have rr7 := CSl.row (SlB.ext h (hE6.trans hVE)) hq
        simp [e0, e3, e4, ix6, p7.c0, p7.c1, rr7.c0, rr7.c1]
        refine FN.mono (has_c (SlB.ext hs2 (hE26.trans hVE)) false l[i] (by omega)) ?_
        rintro _ w8 ⟨rfl, hE8⟩
        simp [hx, e4]
        have hE28 := hE26.trans (hVE.trans hE8)
        exact ⟨l.length - (i + 1), by omega, i + 1, rfl, by omega, e0, e2, e3, hw1, hE2.trans hE28, o2.ext hE28, s, .slice sa s.length sc, p2.ext hE28, SlB.ext hs2 hE28, hb2, hr2, by omega, by have := hE28.size; omega⟩
      · rw [h1] at hEe
        subst hEe
        simp
        refine WC_drawC 10 (.F 0 <| .F 1 <| .F 2 <| .F 3 <| .F 4 <| .F 5 <| .F 6 <| .F 7 <| .F 8 <| .F 9 <| .Z) (fun _ => false) rfl (by kernel_rfl) fun V hV => ?_
        have hVE : Ext wn V := hV ▸ Ext.drew _
        have p7 := p6.ext hVE
        have rr7 := CSl.row (SlB.ext h (hE6.trans hVE)) hq
        have hlen2 := fun ty W => hs2.isLen (P := Tryd.prog) (t := 22) (by simp) ty W
        simp [e0, e3, e4, ix6, p7.c0, p7.c1, rr7.c0, rr7.c1, hx]
        have hs2' := SlB.ext hs2 (hE26.trans hVE)
        rw [hx] at hs2'
        refine FN.mono (has_c (l := s) (by show SlB V 2 _ s.length _; rw [hx]; exact hs2') false l[i] (by omega)) ?_
        rintro _ w8 ⟨rfl, hE8⟩
        simp [hx', e4]
        have hE28 := hE26.trans (hVE.trans hE8)
        exact ⟨l.length - (i + 1), by omega, i + 1, rfl, by omega, e0, e2, e3, hw1, hE2.trans hE28, o2.ext hE28, s, .slice sa s.length sc, p2.ext hE28, SlB.ext hs2 hE28, hb2, hr2, by omega, by have := hE28.size; omega⟩
      · rw [h1] at hEe
        subst hEe
        simp
        refine WC_drawC 23 (.F 0 <| .F 1 <| .F 2 <| .F 3 <| .F 4 <| .C 5 <| .F 6 <| .F 7 <| .F 8 <| .F 9 <| .F 10 <| .F 11 <| .C 12 <| .F 13 <| .F 14 <| .F 15 <| .F 16 <| .F 17 <| .F 18 <| .F 19 <| .F 20 <| .F 21 <| .F 22 <| .Z) (fun _ => false) rfl (by kernel_rfl) fun V hV => ?_
        have hVE : Ext wn V := hV ▸ Ext.drew _
        have p7 := p6.ext hVE
        have q7 := q6.ext hVE
        have rr7 := CSl.row (SlB.ext h (hE6.trans hVE)) hq
        have hc7 := SlB.ext hc6 hVE
        rw [if_pos rfl] at hL
        subst hL
        have hlen2 := fun ty W => hs2.isLen (P := Tryd.prog) (t := 22) (by simp) ty W
        have hlen6 := fun ty W => hc6.isLen (P := Tryd.prog) (t := 22) (by simp) ty W
        simp only [List.length_append, List.length_singleton] at hlen6 q7 hc7 q6 hc6
        simp [e0, e3, e4, ix6, p7.c0, p7.c1, rr7.c0, rr7.c1]
        refine FN.mono (has_c (SlB.ext hs2 (hE26.trans hVE)) false l[i] (by omega)) ?_
        rintro _ w8 ⟨rfl, hE8⟩
        simp [hx]
        refine KR_ext hE8 ?_
        have p8 := p7.ext hE8
        have q8 := q7.ext hE8
        have hc8 := SlB.ext hc7 hE8
        have rr8 := CSl.row (SlB.ext h ((hE6.trans hVE).trans hE8)) hq
        simp [e0, e4, ix6, rr8.c0, rr8.c1, q8.c0, q8.c1]
        have hc8' : CSl w8 (.slice a4 (s.length + 1) c4) (s ++ [l[i]]) := by
          show SlB w8 2 _ (s ++ [l[i]]).length _
          rw [List.length_append, List.length_singleton]
          exact hc8
        refine FN.mono (has_c hc8' false l[i] (by simp; omega)) ?_
        rintro _ w9 ⟨rfl, hE9⟩
        simp
        refine KR_ext hE9 ?_
        have p9 := p8.ext hE9
        have q9 := q8.ext hE9
        have hws : IntKind.i64.wrap ((s.length : Int) + 1) = (s.length : Int) + 1 := wrap64 _ (by omega) (by omega)
        simp [e3, e4, p9.c0, p9.c1, p9.f0, p9.f1, q9.c0, q9.c1, hlen2, hlen6, hws, cell_setCell]
        have hE69 := hVE.trans (hE8.trans hE9)
        have hE29 := hE26.trans hE69
        have hM9 : Mod (fun k => k = w.heap.size + 1) w9 ((w9.setCell ⟨(w.heap.size + 1), 0, none⟩ (.bool false)).setCell ⟨(w.heap.size + 1), 1, none⟩ (.slice a4 (s.length + 1) c4)) := ((Mod.refl _ w9).setC 0 _).setC 1 _
        have p10 : PtAt ((w9.setCell ⟨(w.heap.size + 1), 0, none⟩ (.bool false)).setCell ⟨(w.heap.size + 1), 1, none⟩ (.slice a4 (s.length + 1) c4)) (w.heap.size + 1) false (.slice a4 (s.length + 1) c4) := by
          refine ⟨?_, ?_, by simpa using p9.f0, by simpa using p9.f1⟩ <;> simp [cell_setCell, p9.c0, p9.c1]
        have hgb := (hg4 rfl).1
        have hgb' : w.heap.size + 1 < slB (.slice a4 (s.length + 1) c4) := by
          have e : slB (.slice a4 (s.length + 1) c4) = slB (.slice a4 (s ++ [l[i]]).length c4) := by cases a4 <;> rfl
          rw [e]; omega
        have hc10 := SlB.mod (SlB.ext hc8' hE9) hM9 fun _ e => by
          have e' : slB (.slice a4 (s.length + 1) c4) = w.heap.size + 1 := e
          omega
        refine ⟨l.length - (i + 1), by omega, i + 1, rfl, by omega, e0, e2, hw1, ?_, ?_, s ++ [l[i]], .slice a4 (s.length + 1) c4, p10, hc10, fun _ => hgb', hx', by simp; omega, ?_⟩
        · exact ((hE2.trans hE29).mod.trans hM9).ext fun k hk => by omega
        · exact (o2.ext hE29).mod hM9 (by omega)
        · have h1 := hM9.size
          have h2 := hE29.size
          omega
    · have hil : i = l.length := by omega
      simp [e0, e4, hlt, hlen, e3, p2.c0, p2.c1]
      refine FN.mono (gates_c hs2 false (by omega)) ?_
      rintro _ w3 ⟨gb, gr, rfl, gv, gm, hE3, gb2, gr2, gne⟩
      simp
      obtain ⟨ys, hys⟩ := kGex (gM s)
      have hml := (gM_all s).2
      refine WC_rangeFunc (gf := 40) (first := #[]) (caps := #[ptr gb]) (enc := kGst (gM s)) (by simp) (fun _ _ => callFunc_enter Tryd.func40 rfl rfl _ _) (gates_it gv gm (by omega) hys) (fun x => rfl) (fun _ => False)
        (fun C pre W => (∀ k, ¬ C k) ∧ Ext w3 W) (fun _ _ _ _ => False)
        (fun k hk => ⟨?_, id⟩) (fun k hk => hk.elim) ?_ (fun _ _ _ _ _ h _ => h.elim) ⟨fun _ h => h, Ext.refl _⟩ ?ρ ?ha ?_ ?_ (fun _ _ _ _ _ h _ => h.elim)
      case ha =>
        intro l x W
        simp [kGst]
        exact rfl
      · rcases hk with rfl | rfl
        · exact gv.lt
        · exact gm.lt
      · rintro C pre W W' ⟨h1, h6⟩ hag
        exact ⟨h1, ⟨hag.os.trans h6.os, hag.tape.trans h6.tape, hag.out.trans h6.out, Nat.le_trans h6.size hag.size, fun i hi => (hag.blk i (Nat.lt_of_lt_of_le hi h6.size) (.inl (by omega))).trans (h6.blk i hi)⟩⟩
      · rintro lp C pre x W hsp ⟨h1, h6⟩ - - -
        obtain ⟨_, suf, hsuf⟩ := hsp
        have hxy : x ∈ ys := by rw [hsuf]; simp
        have hp1 := gN_pos hys hxy
        have hp2 := gN_two hrn x
        have n1 : ¬ ((gN s x : Int) < 1) := by omega
        have n2 : ¬ ((2 : Int) < (gN s x : Int)) := by omega
        simp [kGval_gM, n1, n2]
        exact ⟨C, ⟨h1, h6⟩, Own.refl _ _⟩
      · rintro C xs W rfl ⟨h1, h6⟩ hD
        have hE2W := hE3.trans h6
        have p4 := p2.ext hE2W
        have o4 := o2.ext hE2W
        have hlen2 := fun ty W => hs2.isLen (P := Tryd.prog) (t := 22) (by simp) ty W
        have n64 : ((s.length : Int) ≤ 64) := by omega
        simp [e3, p4.c0, p4.c1, hlen2, n64]
        refine FN.mono (check_c (SlB.ext hs2 hE2W) false (by omega)) ?_
        rintro _ w5 ⟨rfl, hE5⟩
        simp [hr2]
        refine FN.mono (num_c 0 w5) ?_
        rintro _ wn ⟨rfl, hwn⟩
        subst hwn
        simp
        refine FN.mono (works_c _) ?_
        rintro _ w6 ⟨rfl, hE6⟩
        have o6 := o4.ext (hE5.trans hE6)
        simp [e2, o6.cell, o6.thaw]
        have hM7 := (Mod.refl (fun k => k = w.heap.size) w6).setC 0 (.bool true)
        have o7 := o6.set (.bool true)
        have hE26 := hE2W.trans (hE5.trans hE6)
        have z2 := hE3.size
        have hD7 := hM7.obj ((hE5.trans hE6).obj hD) (by omega)
        have hEf : Ext w (w6.setCell ⟨w.heap.size, 0, none⟩ (.bool true)) := ((hE2.trans hE26).mod.trans hM7).ext fun k hk => by omega
        generalize (w6.setCell ⟨w.heap.size, 0, none⟩ (.bool true)) = w7 at *
        refine LV_mark hD7 (by simp) ?_
        have o8 := o7.mod (Mod.putObj w3.heap.size (.deferred none)) (by omega)
        simp [e2, o8.cell]
        exact hEf.putObj _ _ (by omega)
end Go.Proofs
