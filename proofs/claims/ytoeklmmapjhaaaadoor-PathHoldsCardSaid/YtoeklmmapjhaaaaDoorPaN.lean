/-
  Contracts of the functions that the law reaches, step by step.
-/
import Derived.Test.YtoeklmmapjhaaaaDoorPaM
namespace Go.Proofs
open Pk
set_option maxRecDepth 10000
theorem own_empty {e : TypeId} {s : Nat} (W : World) (base : Nat) (h : base ≤ W.heap.size) : (W.alloc (.cells #[] e)).ownsRow base e s (.slice (some ⟨W.heap.size, 0, none⟩) 0 0) 0 [] :=
  ⟨by simp, .inr ⟨W.heap.size, 0, #[], rfl, h, World.alloc_heap_new W _, Nat.le_refl _, by simp, by simp, by simp⟩⟩
theorem append_newB {P : Program} {w : World} {base s : Nat} {t ty : TypeId} {b m : Nat} {v2 : Value} {ys : List Value} {e : TypeId} (hs : isS (P.underlying t) = true) (he : elemT (P.underlying t) = e) (hi : elOk (P.info? e) s = true)
    (hown : w.ownsRow base e s (.slice (some ⟨b, 0, none⟩) 0 0) 0 []) (h2 : SlB w s v2 m ys) (h1 : ∀ u ∈ ys, u.oneCell' = true) (hb : m ≤ 1000000) (hbase : base ≤ w.heap.size) :
    ∃ v' w', (Builtin.append_ #[t, t] ty #[.slice (some ⟨b, 0, none⟩) 0 0, v2]).run P w = .ok v' w' ∧ w'.ownsRow base e s v' m ys ∧ Ext w w' := by
  obtain ⟨v', w', hr, ho, hM, -⟩ := append_ownB (ty := ty) hs he hi hown h2 h1 (by omega) hbase
  refine ⟨v', w', hr, by simpa using ho, ?_⟩
  by_cases h0 : m = 0
  · subst h0
    have hys : ys = [] := List.eq_nil_of_length_eq_zero (by simpa using h2.len)
    subst hys
    obtain ⟨⟨i, z, hi1, hi2, hi3, hi4, hi5⟩, hsz⟩ := elOk_inv hi
    have hel := elemT_of (P := P) hs
    rw [he] at hel
    subst hel
    have hsrc := h2.src (P := P) hs h1
    rw [← hi3] at hsrc
    have hn := run_append_nothing w t t ty (P.elem t) i (elem_of hs) hi1 (some ⟨b, 0, none⟩) 0 0 (by omega) _ hsrc
    rw [hr] at hn
    cases hn
    exact Ext.refl _
  · obtain ⟨v2', w2', hr2, -, hE, -⟩ := append_full (ty := ty) hs he hi (sl_of_own hown) rfl (h2.toSl (by omega)) h1 (by omega)
    rw [hr] at hr2
    cases hr2
    exact hE
theorem cbool_c (u : Bool) (w : World) : FN Tryd.prog 32 [.bool u] w fun e w' => e = .returned (.agg (leafC 5 (if u then 1 else 0)).toArray) ∧ Ext w w' := by
  refine FN_enter Tryd.func32 rfl rfl (by kernel_rfl) ?_
  cases u with
  | true =>
    simp
    exact (Ext.refl w).alloc _
  | false =>
    simp
    exact (Ext.refl w).alloc _
set_option maxHeartbeats 1000000 in
theorem rwith_c {w : World} {v : Value} {l : List Cr} (h : CSl w v l) (back : Bool) (x : Cr) (hb : l.length ≤ 1000) :
    FN Tryd.prog 17 [ptV back v, crV x] w fun e w' => ∃ v', e = .returned (.tuple #[ptV (decide (withE l x = 0) && back) v', i64 (withE l x)]) ∧ Ext w w' ∧ CSl w' v' (if withE l x = 0 then l ++ [x] else []) := by
  refine FN_enter Tryd.func17 rfl rfl (by kernel_rfl) ?_
  obtain ⟨va, vc, rfl⟩ := h.isSlice
  simp
  have hE1 : Ext w (((w.alloc (.cells #[.bool back, .slice va l.length vc] 24)).alloc (.cells #[u32 x.1, .bool x.2] 47)).alloc (.cells #[.bool false, .slice none 0 0] 24)) := (((Ext.refl w).alloc _).alloc _).alloc _
  have p0 : PtAt (((w.alloc (.cells #[.bool back, .slice va l.length vc] 24)).alloc (.cells #[u32 x.1, .bool x.2] 47)).alloc (.cells #[.bool false, .slice none 0 0] 24)) w.heap.size back (.slice va l.length vc) := (PtAt.new w _ _ _).ext (((Ext.refl _).alloc _).alloc _)
  have x1 : CrBx (((w.alloc (.cells #[.bool back, .slice va l.length vc] 24)).alloc (.cells #[u32 x.1, .bool x.2] 47)).alloc (.cells #[.bool false, .slice none 0 0] 24)) (w.heap.size + 1) x := by
    have := (CrBx.new (w.alloc (.cells #[.bool back, .slice va l.length vc] 24)) x 47).ext ((Ext.refl _).alloc (.cells #[.bool false, .slice none 0 0] 24))
    simpa using this
  have p2 : PtAt (((w.alloc (.cells #[.bool back, .slice va l.length vc] 24)).alloc (.cells #[u32 x.1, .bool x.2] 47)).alloc (.cells #[.bool false, .slice none 0 0] 24)) (w.heap.size + 1 + 1) false (.slice none 0 0) := by
    have := PtAt.new ((w.alloc (.cells #[.bool back, .slice va l.length vc] 24)).alloc (.cells #[u32 x.1, .bool x.2] 47)) false (.slice none 0 0) 24
    simpa using this
  have z1 : (((w.alloc (.cells #[.bool back, .slice va l.length vc] 24)).alloc (.cells #[u32 x.1, .bool x.2] 47)).alloc (.cells #[.bool false, .slice none 0 0] 24)).heap.size = w.heap.size + 1 + 1 + 1 := by simp
  generalize (((w.alloc (.cells #[.bool back, .slice va l.length vc] 24)).alloc (.cells #[u32 x.1, .bool x.2] 47)).alloc (.cells #[.bool false, .slice none 0 0] 24)) = w1 at *
  refine FN.mono (rright_c back (SlB.ext h hE1) (by omega)) ?_
  rintro _ w2 ⟨rfl, hE2⟩
  have fin : ∀ (W : World) (a b : Value), Ext w W → Ext w ((W.setCell ⟨w.heap.size + 1 + 1, 0, none⟩ a).setCell ⟨w.heap.size + 1 + 1, 1, none⟩ b) := fun W a b hW => (hW.setCell _ _ (by simp only; omega)).setCell _ _ (by simp only; omega)
  have x2 := x1.ext hE2
  have q2 := p2.ext hE2
  have hlen := fun ty W => h.isLen (P := Tryd.prog) (t := 22) (by simp) ty W
  have s2 := hE2.size
  by_cases hr : rightP l = true
  · by_cases h0 : x.1 = 0
    · have hw : withE l x = 2 := by simp [withE, hr, h0]
      simp [hr, hw, h0, x2.c0, q2.c0, q2.c1, q2.f0, q2.f1, cell_setCell]
      exact ⟨fin _ _ _ (hE1.trans hE2), SlB.nil _ 2 0⟩
    · have q0 := p0.ext hE2
      simp [hr, h0, x2.c0, x2.c1, q0.c0, q0.c1]
      refine FN.mono (rhas_c back (SlB.ext h (hE1.trans hE2)) x (by omega)) ?_
      rintro _ w3 ⟨rfl, hE3⟩
      have hE13 := hE1.trans (hE2.trans hE3)
      have r0 := q0.ext hE3
      have r1 := x2.ext hE3
      have r2 := q2.ext hE3
      have s3 := hE3.size
      by_cases hm : x ∈ l
      · have hw : withE l x = 150 := by simp [withE, hr, h0, hm]
        simp [hw, hm, r2.c0, r2.c1, r2.f0, r2.f1, cell_setCell]
        exact ⟨fin _ _ _ hE13, SlB.nil _ 2 0⟩
      · by_cases hl : l.length = 64
        · have hw : withE l x = 151 := by simp [withE, hr, h0, hm, hl]
          simp [hw, hm, hl, r0.c1, r2.c0, r2.c1, r2.f0, r2.f1, cell_setCell]
          exact ⟨fin _ _ _ hE13, SlB.nil _ 2 0⟩
        · have hw : withE l x = 0 := by simp [withE, hr, h0, hm, hl]
          have hl' : ¬ ((l.length : Int) = 64) := by omega
          simp [hw, hm, hlen, hl', r0.c1]
          refine WC_drawL 9 (.F 0 <| .F 1 <| .F 3 <| .F 4 <| .F 6 <| .D 2 <| .D 7 <| .W 2 <| .L 5 <| .W 7 <| .C 8 <| .Z) (fun _ => false) (fun k => decide (w1.heap.size ≤ k))
            (fun i u W => if i = 2 then (∃ b, u = .slice (some ⟨b, 0, none⟩) 0 0) ∧ W.ownsRow w1.heap.size 47 2 u 0 [] else w1.heap.size ≤ slB u ∧ CSl W u [x]) rfl (by kernel_rfl) (fun _ _ => rfl)
            (fun i u a b h1 h2 => ?_) fun W hW => ?_
          · by_cases hi : i = 2
            · rw [if_pos hi] at h1 ⊢
              exact ⟨h1.1, own_ext h1.2 (agr_ext h2)⟩
            · rw [if_neg hi] at h1 ⊢
              exact ⟨h1.1, SlB.ext h1.2 (agr_ext h2)⟩
          have hWE : Ext w3 W := hW ▸ Ext.drew w3
          have t0 := r0.ext hWE
          have t1 := r1.ext hWE
          have t2 := r2.ext hWE
          have d0 : decide (w1.heap.size ≤ w.heap.size) = false := by simp; omega
          have d1 : decide (w1.heap.size ≤ w.heap.size + 1) = false := by simp; omega
          simp [t0.c0, t0.c1, t1.c0, t1.c1, d0, d1]
          refine RL_float (fun W1 h1 => ?_) ?_
          · simp
            have hs := (hE3.trans (hWE.trans (agr_ext h1))).size
            exact ⟨(Ext.refl _).alloc _, own_empty W1 _ (by omega)⟩
          simp
          refine RL_float (fun W1 h1 => ?_) ?_
          · simp
            have hs := (hE3.trans (hWE.trans (agr_ext h1))).size
            exact ⟨(Ext.refl _).alloc _, by simp only [slB]; omega, (Sl.made W1 (crC x) 47 2 1 rfl).toB⟩
          simp
          refine RL_wait fun v0 W2 h2 ⟨⟨b0, hb0⟩, ho0⟩ => ?_
          subst hb0
          simp
          refine RL_loose fun W3 h3 => ?_
          have hE4 := hE13.trans (hWE.trans (h2.trans h3))
          have hs4 := (hE3.trans (hWE.trans (h2.trans h3))).size
          obtain ⟨v1, W4, hr4, ho4, hE5⟩ := append_newB (P := Tryd.prog) (t := 22) (ty := 22) (e := 47) (s := 2) (by simp) (by simp) (by kernel_rfl) (own_ext ho0 h3) (SlB.ext h hE4) (crone l) (by omega) (by omega)
          simp [hr4]
          refine KR_ext hE5 ?_
          simp
          refine RL_wait fun v5 W5 h5 ⟨hl5, hs5⟩ => ?_
          obtain ⟨v2, W6, hr6, ho6, hM6, -⟩ := append_ownB (P := Tryd.prog) (t := 22) (ty := 22) (e := 47) (s := 2) (by simp) (by simp) (by kernel_rfl) (own_ext ho4 h5) hs5 (crone _) (by simp; omega) (by have := hE5.size; have := h5.size; omega)
          obtain ⟨a2, c2, rfl⟩ := own_val ho6
          have nS : ∀ k, k < w1.heap.size → ¬ (slN v1 = false ∧ k = slB v1) := fun k hk ⟨e1, e2⟩ => by have := own_ge ho4 e1; omega
          have hE6 := (h2.trans h3).trans (hE5.trans h5)
          have u2 := (t2.ext hE6).mod hM6 (nS _ (by omega))
          simp [hr6]
          refine KR_mk (hM6.agr fun k hk => ?_) ?_
          · have := of_decide_eq_false hk
            exact nS k (by omega)
          simp [u2.c0, u2.c1, u2.f0, u2.f1, cell_setCell]
          have hMf : Mod (fun k => w.heap.size ≤ k ∧ k < w1.heap.size) W6 ((W6.setCell ⟨w.heap.size + 1 + 1, 0, none⟩ (.bool back)).setCell ⟨w.heap.size + 1 + 1, 1, none⟩ (.slice a2 (l.length + 1) c2)) :=
            ((Mod.refl _ W6).setCell _ _ (.inl ⟨by simp only; omega, by simp only; omega⟩)).setCell _ _ (.inl ⟨by simp only; omega, by simp only; omega⟩)
          refine ⟨?_, ?_⟩
          · exact (((hE4.trans (hE5.trans h5)).mod (S := fun k => w.heap.size ≤ k)).trans ((hM6.weaken fun k hk => by have := own_ge ho4 hk.1; omega).trans (hMf.weaken fun k hk => hk.1))).ext fun _ h => h
          · have := (sl_of_own (own_keep ho6 fun hn hl => hMf.blk _ hl (by have := own_ge ho6 hn; omega))).toB
            show SlB _ 2 _ _ _
            simpa using this
  · have hw : withE l x = 2 := by simp [withE, hr]
    simp [hr, hw, q2.c0, q2.c1, q2.f0, q2.f1, cell_setCell]
    exact ⟨fin _ _ _ (hE1.trans hE2), SlB.nil _ 2 0⟩
end Go.Proofs
namespace Go.Proofs
open Pk
set_option maxRecDepth 10000
set_option maxHeartbeats 1000000 in
theorem ritem_c {w : World} {v : Value} {l : List Cr} (h : CSl w v l) (back : Bool) (hok : ∀ c ∈ l, 0 ≤ c.1 ∧ c.1 < 4294967296) (hb : l.length ≤ 1000) :
    FN Tryd.prog 13 [ptV back v] w fun e w' => ∃ cs, e = .returned (.agg cs.toArray) ∧ ItC w' (ptI back l) cs ∧ Ext w w' := by
  refine FN_enter Tryd.func13 rfl rfl (by kernel_rfl) ?_
  obtain ⟨va, vc, rfl⟩ := h.isSlice
  simp
  have hE1 : Ext w ((w.alloc (.cells #[.bool back, .slice va l.length vc] 24)).alloc (.cells #[i64 0, u64 0, .slice none 0 0, .string ⟨#[]⟩, .slice none 0 0] 31)) := ((Ext.refl w).alloc _).alloc _
  have p0 : PtAt ((w.alloc (.cells #[.bool back, .slice va l.length vc] 24)).alloc (.cells #[i64 0, u64 0, .slice none 0 0, .string ⟨#[]⟩, .slice none 0 0] 31)) w.heap.size back (.slice va l.length vc) := (PtAt.new w _ _ _).ext ((Ext.refl _).alloc _)
  have b1 : ItBx ((w.alloc (.cells #[.bool back, .slice va l.length vc] 24)).alloc (.cells #[i64 0, u64 0, .slice none 0 0, .string ⟨#[]⟩, .slice none 0 0] 31)) (w.heap.size + 1) 0 0 (.slice none 0 0) ⟨#[]⟩ (.slice none 0 0) := by
    have := ItBx.new (w.alloc (.cells #[.bool back, .slice va l.length vc] 24)) 0 0 (.slice none 0 0) ⟨#[]⟩ (.slice none 0 0) 31
    simpa using this
  have z1 : ((w.alloc (.cells #[.bool back, .slice va l.length vc] 24)).alloc (.cells #[i64 0, u64 0, .slice none 0 0, .string ⟨#[]⟩, .slice none 0 0] 31)).heap.size = w.heap.size + 1 + 1 := by simp
  generalize ((w.alloc (.cells #[.bool back, .slice va l.length vc] 24)).alloc (.cells #[i64 0, u64 0, .slice none 0 0, .string ⟨#[]⟩, .slice none 0 0] 31)) = w1 at *
  refine FN.mono (cbool_c back w1) ?_
  rintro _ w2 ⟨rfl, hE2⟩
  simp
  have hE3 : Ext w2 (w2.alloc (.cells (leafC 5 (if back then 1 else 0)).toArray 31)) := (Ext.refl w2).alloc _
  have s2 := hE2.size
  have o3 : (w2.alloc (.cells (leafC 5 (if back then 1 else 0)).toArray 31)).ownsRow w1.heap.size 31 5 (.slice (some ⟨w2.heap.size, 0, none⟩) 1 1) 1 (leafC 5 (if back then 1 else 0)) :=
    ⟨rfl, .inr ⟨w2.heap.size, 1, (leafC 5 (if back then 1 else 0)).toArray, rfl, s2, World.alloc_heap_new w2 _, Nat.le_refl _, by decide, rfl, rfl⟩⟩
  have hlen := fun ty W => h.isLen (P := Tryd.prog) (t := 22) (by simp) ty W
  generalize hw3 : (w2.alloc _) = w3 at *
  have hE13 := hE2.trans hE3
  refine WC_loop (fun k ρ ds w' => ∃ (i : Nat) (u : Value) (css : List (List Value)), k = l.length - i ∧ i ≤ l.length ∧ ρ 1 = ptr w.heap.size ∧ ρ 2 = ptr (w.heap.size + 1) ∧ ρ 3 = u ∧ ρ 4 = i64 i ∧ ds = [] ∧ Ext w1 w' ∧ w'.ownsRow w1.heap.size 31 5 u (1 + i) css.flatten ∧
    ItPs (fun k => w1.heap.size ≤ k ∧ (slN u = false → k ≠ slB u)) w' (boolI back :: (l.take i).map crI) css ∧ ∀ u ∈ css.flatten, u.oneCell' = true) l.length
    ⟨0, .slice (some ⟨w2.heap.size, 0, none⟩) 1 1, [leafC 5 (if back then 1 else 0)], by simp, by simp, by simp, by simp, by simp, by simp, rfl, hE13, by simpa using o3, itPs_nil.cons (leaf_it 5 _), ione rfl⟩ ?_
  rintro k ρ ds w4 ⟨i, u, css, rfl, hi, e1, e2, e3, e4, rfl, hE, ho, hI, hone⟩
  have q0 := p0.ext hE
  have hE14 := hE1.trans hE
  by_cases hlt : i < l.length
  · have hq := List.getElem?_eq_getElem hlt
    simp [e1, e4, q0.c1, hlen, hlt]
    refine WC_drawC 19 (.F 0 <| .F 1 <| .F 2 <| .F 3 <| .F 4 <| .F 5 <| .F 6 <| .F 7 <| .F 9 <| .F 10 <| .F 11 <| .F 12 <| .F 13 <| .F 14 <| .C 8 <| .C 15 <| .C 16 <| .C 17 <| .C 18 <| .Z) (fun _ => false) rfl (by kernel_rfl) fun W hW => ?_
    have hWE : Ext w4 W := hW ▸ Ext.drew _
    have r0 := q0.ext hWE
    have r1 := CSl.row (SlB.ext h (hE14.trans hWE)) hq
    have ix := fun W => CSl.index h i hlt W
    have hx := hok _ (List.getElem_mem hlt)
    have q1 : IntKind.u64.wrap l[i].1 = l[i].1 := by simp [IntKind.wrap, IntKind.signed, IntKind.bits]; omega
    simp [e1, e3, e4, r0.c1, ix, r1.c0, r1.c1, q1]
    refine FN.mono (cuint_c l[i].1 W) ?_
    rintro _ w5 ⟨rfl, hE5⟩
    simp
    refine KR_ext hE5 ?_
    simp
    refine FN.mono (cbool_c l[i].2 w5) ?_
    rintro _ w6 ⟨rfl, hE6⟩
    simp
    refine KR_ext hE6 ?_
    simp
    have hE7 : Ext w6 (w6.alloc (.cells ([leafC 1 l[i].1, leafC 5 (if l[i].2 then 1 else 0)].flatten).toArray 31)) := (Ext.refl w6).alloc _
    have hsl : Sl (w6.alloc (.cells ([leafC 1 l[i].1, leafC 5 (if l[i].2 then 1 else 0)].flatten).toArray 31)) 5 (.slice (some ⟨w6.heap.size, 0, none⟩) 2 2) 2 ([leafC 1 l[i].1, leafC 5 (if l[i].2 then 1 else 0)].flatten) := Sl.made w6 _ 31 5 2 rfl
    simp only [List.flatten_cons, List.flatten_nil, List.cons_append, List.nil_append] at hE7 hsl
    refine KR_ext hE7 ?_
    generalize hw7 : (w6.alloc _) = w7 at *
    simp
    refine FN.mono (clist_c (some ⟨w6.heap.size, 0, none⟩) 2 2 w7) ?_
    rintro _ w8 ⟨rfl, hE8⟩
    simp
    refine KR_ext hE8 ?_
    simp
    obtain ⟨cs, hcs⟩ : ∃ cs : List Value, cs = [i64 4, u64 0, .slice none 0 0, .string ⟨#[]⟩, .slice (some ⟨w6.heap.size, 0, none⟩) 2 2] := ⟨_, rfl⟩
    have hE9 : Ext w8 (w8.alloc (.cells cs.toArray 31)) := (Ext.refl w8).alloc _
    have h1 : Sl (w8.alloc (.cells cs.toArray 31)) 5 (.slice (some ⟨w8.heap.size, 0, none⟩) 1 1) 1 cs := Sl.made w8 cs 31 5 1 (by rw [hcs]; rfl)
    have hE49 := hWE.trans (hE5.trans (hE6.trans (hE7.trans (hE8.trans hE9))))
    have hsz := (hWE.trans (hE5.trans hE6)).size
    have hs4 := hE.size
    have hs49 := hE49.size
    have hsz8 := (hE7.trans hE8).size
    have hlt7 : w6.heap.size < w7.heap.size := by rw [← hw7]; simp
    have hs8 := hE8.size
    have ho9 := own_ext ho hE49
    have hc1 : ∀ u ∈ cs, u.oneCell' = true := ione (by rw [hcs]; rfl)
    rw [show w8.alloc (.cells #[i64 4, u64 0, .slice none 0 0, .string ⟨#[]⟩, .slice (some ⟨w6.heap.size, 0, none⟩) 2 2] 31) = w8.alloc (.cells cs.toArray 31) by rw [hcs]]
    refine KR_ext hE9 ?_
    obtain ⟨v', w10, hr, ho5, hM5, hnew⟩ := append_own (P := Tryd.prog) (t := 29) (ty := 29) (e := 31) (s := 5) (by simp) (by simp) (by kernel_rfl) ho9 h1 hc1 (by omega) (by omega)
    simp [hr, e1, e2, e3, e4]
    have hM410 : Mod (fun k => slN u = false ∧ k = slB u) w4 w10 := hE49.mod.trans hM5
    have hul : slN u = false → slB u < w4.heap.size := fun hn => by
      obtain ⟨c, hc⟩ := own_obj ho hn
      exact (Array.getElem?_eq_some_iff.1 hc).1
    have hfl : (css ++ [cs]).flatten = css.flatten ++ cs := by simp
    refine ⟨l.length - (i + 1), by omega, i + 1, rfl, by omega, by rw [wrap64 _ (by omega) (by omega)]; rfl, ?_, css ++ [cs], ?_, ?_, ?_⟩
    · exact ((hE.mod (S := fun k => w1.heap.size ≤ k)).trans (hM410.weaken fun k hk => by have := own_ge ho hk.1; omega)).ext fun _ h => h
    · rw [hfl]; exact ho5
    · have htk : boolI back :: (l.map crI).take (i + 1) = (boolI back :: (l.take i).map crI) ++ [crI l[i]] := by rw [List.take_add_one, List.getElem?_map, hq]; simp
      rw [htk]
      have hold : ItPs (fun k => w1.heap.size ≤ k ∧ (slN v' = false → k ≠ slB v')) w10 (boolI back :: (l.take i).map crI) css := hI.go hM410 fun k hk hp => ⟨⟨hp.1, fun hn e => by
        rcases hnew hn with ⟨a1, a2⟩ | a
        · exact hp.2 a1 (by omega)
        · omega⟩, fun e => hp.2 e.1 e.2⟩
      refine ItPs.snoc hold ?_
      · rw [hcs]
        refine list_it (css := [leafC 1 l[i].1, leafC 5 (if l[i].2 then 1 else 0)]) (Sl.mod (Sl.ext hsl (hE8.trans hE9)) hM5 (fun e => by have := hul e.1; have e2 : w6.heap.size = slB u := e.2; omega)).toB (ItPs.cons (ItPs.cons itPs_nil (leaf_it 5 _)) (leaf_it 1 _)) (fun _ => ?_) (by simp)
        refine ⟨show w1.heap.size ≤ w6.heap.size by omega, fun hn e => ?_⟩
        have e2 : w6.heap.size = slB v' := e
        rcases hnew hn with ⟨a1, a2⟩ | a
        · have := hul a1; omega
        · have hs9 := hE9.size; omega
    · intro u' a ha hu
      rcases List.mem_append.1 ha with ha | ha
      · exact hone u' (List.mem_flatten.2 ⟨a, ha, hu⟩)
      · simp at ha; subst ha; exact hc1 u' hu
  · have : i = l.length := by omega
    subst this
    have b2 := b1.ext hE
    rw [List.take_length] at hI
    obtain ⟨a6, c6, hv6⟩ := own_val ho
    rw [hv6] at e3
    simp [e1, e3, e4, q0.c1, hlen]
    refine FN.mono (clist_c a6 (1 + l.length) c6 w4) ?_
    rintro _ w5 ⟨rfl, hE5⟩
    have b5 := b2.ext hE5
    have hs4 := hE.size
    have hs5 := hE5.size
    simp [e2, b5.c0, b5.c1, b5.c2, b5.c3, b5.c4, b5.fz, cell_setCell]
    have m7 := mod5 w5 (w.heap.size + 1) (i64 4) (u64 0) (.slice none 0 0) (.string ⟨#[]⟩) (.slice a6 (1 + l.length) c6)
    generalize (((((w5.setCell ⟨w.heap.size + 1, 0, none⟩ (i64 4)).setCell ⟨w.heap.size + 1, 1, none⟩ (u64 0)).setCell ⟨w.heap.size + 1, 2, none⟩ (.slice none 0 0)).setCell ⟨w.heap.size + 1, 3, none⟩ (.string ⟨#[]⟩)).setCell ⟨w.heap.size + 1, 4, none⟩ (.slice a6 (1 + l.length) c6)) = w7 at *
    subst hv6
    have hrow := sl_of_own (own_keep (own_ext ho hE5) fun hn hl => m7.blk _ hl (by have := own_ge ho hn; omega))
    have hM47 : Mod (fun k => k = w.heap.size + 1) w4 w7 := hE5.mod.trans m7
    refine ⟨?_, ?_⟩
    · refine list_it (l := boolI back :: l.map crI) (css := css) ?_ (ItPs.any (hI.go (Pd' := fun _ => True) hM47 fun k hk hp => ⟨trivial, by omega⟩)) (fun _ => trivial) (by simp; omega)
      have e : (boolI back :: l.map crI).length = 1 + l.length := by simp; omega
      rw [e]
      exact hrow.toB
    · exact ((hE14.mod (S := fun k => w.heap.size ≤ k)).trans (hM47.weaken fun k hk => by omega)).ext fun _ h => h
end Go.Proofs
namespace Go.Proofs
open Pk
set_option maxRecDepth 10000
/-- No bytes, down to the leaves. -/
inductive NoB : It → Prop
  | mk (k n : Int) (s : ByteArray) (l : List It) (h : ∀ x ∈ l, NoB x) : NoB (.mk k n [] s l)
theorem conv_b {w : World} {v : Value} {b : List Int} (h : SlB w 1 v b.length (b.map u8)) : (convert 28 9 v).run Tryd.prog w = .ok (.string (strOfNums b)) w := by
  obtain ⟨ao, c, rfl, hc, ha⟩ := h.val
  by_cases h0 : b.length = 0
  · have hb : b = [] := List.eq_nil_of_length_eq_zero h0
    subst hb
    rw [run_convert_bytes_string w 28 9 5 _ _ _ (by simp) (by simp) (by simp)]
    cases ao with
    | none => rfl
    | some a =>
      have hl := run_loadCells_list (P := Tryd.prog) w a [] (by simp)
      have h2 := run_bytesToString w a 0 c [] hl
      rw [foldl_push_bytes] at h2
      exact h2
  · obtain ⟨g, o, rfl⟩ := ha (by omega)
    refine run_convert_bytes_arg _ 28 5 (by simp) (by simp) g o b.length c b rfl ?_ 9 (by simp)
    intro i hi
    refine h.at_ i _ ?_
    simp [List.getD, List.getElem?_eq_getElem hi]
theorem str_nil (b : List Int) : decide (strOfNums b = strOfNums []) = decide (b = []) := by
  rw [decide_eq_decide]
  constructor
  · intro h
    have := congrArg ByteArray.size h
    rw [strOfNums_size, strOfNums_size] at this
    exact List.eq_nil_of_length_eq_zero this
  · rintro rfl; rfl
set_option maxHeartbeats 1000000 in
theorem csame_n : ∀ (m : Nat) (t u : It) (cs ds : List Value) (w : World), SizeOf.sizeOf t ≤ m → NoB u → ItC w t cs → ItC w u ds → FN Tryd.prog 10 [.agg cs.toArray, .agg ds.toArray] w fun e w' => e = .returned (.bool (decide (t = u))) ∧ Ext w w' := by
  intro m
  induction m with
  | zero => intro t u cs ds w hm; cases t; simp at hm
  | succ m ih =>
    intro t u cs ds w hm hnb ht hu
    obtain ⟨k, n, b, s, l⟩ := t
    obtain ⟨k', n', s', l', hnl⟩ := hnb
    obtain ⟨bv, lv, css, rfl, hb, hl, hc, hb1, hl1⟩ := itC_mk.1 ht
    obtain ⟨bv', lv', css', rfl, hb', hl', hc', hb1', hl1'⟩ := itC_mk.1 hu
    obtain ⟨⟨ba1, bm1, bc1, rfl⟩, ⟨la1, lm1, lc1, rfl⟩⟩ := itC_slices ht
    obtain ⟨⟨ba2, bm2, bc2, rfl⟩, ⟨la2, lm2, lc2, rfl⟩⟩ := itC_slices hu
    refine FN_enter Tryd.func10 rfl rfl (by kernel_rfl) ?_
    have len1 := fun ty W => hl.isLen (P := Tryd.prog) (t := 29) (by simp) ty W
    have len2 := fun ty W => hl'.isLen (P := Tryd.prog) (t := 29) (by simp) ty W
    have hE1 : Ext w ((w.alloc (.cells #[i64 k, u64 n, .slice ba1 bm1 bc1, .string s, .slice la1 lm1 lc1] 31)).alloc (.cells #[i64 k', u64 n', .slice ba2 bm2 bc2, .string s', .slice la2 lm2 lc2] 31)) := ((Ext.refl w).alloc _).alloc _
    have x1 : ItBx ((w.alloc (.cells #[i64 k, u64 n, .slice ba1 bm1 bc1, .string s, .slice la1 lm1 lc1] 31)).alloc (.cells #[i64 k', u64 n', .slice ba2 bm2 bc2, .string s', .slice la2 lm2 lc2] 31)) w.heap.size k n (.slice ba1 bm1 bc1) s (.slice la1 lm1 lc1) := (ItBx.new w _ _ _ _ _ 31).ext ((Ext.refl _).alloc _)
    have x2 : ItBx ((w.alloc (.cells #[i64 k, u64 n, .slice ba1 bm1 bc1, .string s, .slice la1 lm1 lc1] 31)).alloc (.cells #[i64 k', u64 n', .slice ba2 bm2 bc2, .string s', .slice la2 lm2 lc2] 31)) (w.heap.size + 1) k' n' (.slice ba2 bm2 bc2) s' (.slice la2 lm2 lc2) := by
      have := ItBx.new (w.alloc (.cells #[i64 k, u64 n, .slice ba1 bm1 bc1, .string s, .slice la1 lm1 lc1] 31)) k' n' (.slice ba2 bm2 bc2) s' (.slice la2 lm2 lc2) 31
      simpa using this
    rw [show decide (It.mk k n b s l = It.mk k' n' [] s' l') = decide (k = k' ∧ n = n' ∧ b = [] ∧ s = s' ∧ l = l') by simp]
    have cv1 := conv_b (hb.ext hE1)
    have cv2 := conv_b (hb'.ext hE1)
    by_cases hk : k = k'
    · subst hk
      by_cases hn : n = n'
      · subst hn
        by_cases hbb : b = []
        · subst hbb
          by_cases hss : s = s'
          · subst hss
            by_cases hll : l.length = l'.length
            · simp [cv1, cv2, len1, len2, hll]
              generalize ((w.alloc _).alloc _) = w1 at *
              refine WC_loop (fun k ρ ds w' => ∃ i : Nat, k = l.length - i ∧ i ≤ l.length ∧ ρ 2 = ptr w.heap.size ∧ ρ 3 = ptr (w.heap.size + 1) ∧ ρ 5 = i64 i ∧ ds = [] ∧ Ext w1 w' ∧ l.take i = l'.take i) l.length ⟨0, by simp, by simp, by simp, by simp, by simp, rfl, Ext.refl _, rfl⟩ ?_
              rintro j ρ ds w2 ⟨i, rfl, hi, e2, e3, e5, rfl, hE, htk⟩
              have q1 := x1.ext hE
              have q2 := x2.ext hE
              by_cases hlt : i < l.length
              · have hlt' : i < l'.length := by omega
                have hltz : (i : Int) < l'.length := by omega
                simp [e2, e5, q1.c4, len1, hll, hltz]
                refine WC_drawC 10 (.F 0 <| .F 1 <| .F 2 <| .F 3 <| .F 4 <| .F 5 <| .F 6 <| .F 7 <| .F 8 <| .F 9 <| .Z) (fun _ => false) rfl (by kernel_rfl) fun W hW => ?_
                have hWE : Ext w2 W := hW ▸ Ext.drew _
                have hEW := hE1.trans (hE.trans hWE)
                obtain ⟨k1, n1, b1, s1, v1, g1, y1, r1⟩ := itRow (hl.ext hEW) (hc.ext hEW) hlt
                obtain ⟨k2, n2, b2, s2, v2, g2, y2, r2⟩ := itRow (hl'.ext hEW) (hc'.ext hEW) hlt'
                have i1 := fun W => hl.index (P := Tryd.prog) (t := 29) (by simp) .i64 i (by omega) (by omega) W
                have i2 := fun W => hl'.index (P := Tryd.prog) (t := 29) (by simp) .i64 i (by omega) (by omega) W
                simp at i1 i2
                have s1' := q1.ext hWE
                have s2' := q2.ext hWE
                simp [e2, e3, e5, s1'.c4, s2'.c4, i1, i2, r1.c0, r1.c1, r1.c2, r1.c3, r1.c4, r2.c0, r2.c1, r2.c2, r2.c3, r2.c4]
                refine FN.mono (ih l[i] l'[i] _ _ W (by have := It.lt (List.getElem_mem hlt) k n [] s; omega) (hnl _ (List.getElem_mem hlt')) y1 y2) ?_
                rintro _ w5 ⟨rfl, hE5⟩
                have t1 : l.take (i + 1) = l.take i ++ [l[i]] := by rw [List.take_add_one, List.getElem?_eq_getElem hlt]; rfl
                have t2 : l'.take (i + 1) = l'.take i ++ [l'[i]] := by rw [List.take_add_one, List.getElem?_eq_getElem hlt']; rfl
                by_cases he : l[i] = l'[i]
                · simp [e2, e3, e5, he]
                  exact ⟨l'.length - (i + 1), by omega, i + 1, by omega, by omega, by rw [wrap64 _ (by omega) (by omega)]; rfl, hE.trans (hWE.trans hE5), by rw [t1, t2, htk, he]⟩
                · simp [he]
                  refine ⟨fun h => he ?_, hEW.trans hE5⟩
                  simp [h]
              · have : i = l.length := by omega
                subst this
                simp [e2, e5, q1.c4, len1, hll]
                rw [List.take_length, hll, List.take_length] at htk
                exact ⟨htk, hE1.trans hE⟩
            · have hl2 : ¬ ((l.length : Int) = (l'.length : Int)) := by omega
              have hn2 : ¬ l = l' := fun e => hll (by rw [e])
              simp [cv1, cv2, len1, len2, hl2, hn2]
              exact hE1
          · simp [cv1, cv2, hss]
            exact hE1
        · have hsn : ¬ strOfNums b = strOfNums [] := fun e => hbb (by have := str_nil b; simpa [e] using this)
          simp [cv1, cv2, hsn, hbb]
          exact hE1
      · simp [hn]
        exact hE1
    · simp [hk]
      exact hE1
theorem csame_c {w : World} {t u : It} {cs ds : List Value} (hn : NoB u) (ht : ItC w t cs) (hu : ItC w u ds) : FN Tryd.prog 10 [.agg cs.toArray, .agg ds.toArray] w fun e w' => e = .returned (.bool (decide (t = u))) ∧ Ext w w' := csame_n _ t u cs ds w (Nat.le_refl _) hn ht hu
theorem pt_nob (back : Bool) (l : List Cr) : NoB (ptI back l) := by
  refine .mk _ _ _ _ fun x hx => ?_
  rcases List.mem_cons.1 hx with rfl | hx
  · exact .mk _ _ _ _ fun x hx => by cases hx
  · obtain ⟨c, -, rfl⟩ := List.mem_map.1 hx
    refine .mk _ _ _ _ fun x hx => ?_
    simp at hx
    rcases hx with rfl | rfl <;> exact .mk _ _ _ _ fun x hx => by cases hx
end Go.Proofs
namespace Go.Proofs
open Pk
set_option maxRecDepth 10000
def shB (t : It) (ks : List Int) : Prop := t.k = 4 ∧ t.l.map It.k = ks
instance (t : It) (ks : List Int) : Decidable (shB t ks) := by unfold shB; infer_instance
set_option maxHeartbeats 1000000 in
theorem shape_c {w : World} {t : It} {cs : List Value} {v : Value} {ks : List Int} (ht : ItC w t cs) (hv : SlB w 1 v ks.length (ks.map i64)) (hb : ks.length ≤ 1000) :
    FN Tryd.prog 33 [.agg cs.toArray, v] w fun e w' => e = .returned (.bool (decide (shB t ks))) ∧ Ext w w' := by
  obtain ⟨k, n, b, s, l⟩ := t
  obtain ⟨bv, lv, css, rfl, hbs, hl, hc, hb1, hl1⟩ := itC_mk.1 ht
  obtain ⟨⟨ba1, bm1, bc1, rfl⟩, ⟨la1, lm1, lc1, rfl⟩⟩ := itC_slices ht
  refine FN_enter Tryd.func33 rfl rfl (by kernel_rfl) ?_
  have len1 := fun ty W => hl.isLen (P := Tryd.prog) (t := 29) (by simp) ty W
  have len2 := fun ty W => hv.isLen (P := Tryd.prog) (t := 68) (by simp) ty W
  have hE1 : Ext w (w.alloc (.cells #[i64 k, u64 n, .slice ba1 bm1 bc1, .string s, .slice la1 lm1 lc1] 31)) := (Ext.refl w).alloc _
  have x1 : ItBx (w.alloc (.cells #[i64 k, u64 n, .slice ba1 bm1 bc1, .string s, .slice la1 lm1 lc1] 31)) w.heap.size k n (.slice ba1 bm1 bc1) s (.slice la1 lm1 lc1) := ItBx.new w _ _ _ _ _ 31
  by_cases hk : k = 4
  · subst hk
    by_cases hll : l.length = ks.length
    · simp [len1, len2, hll]
      generalize (w.alloc _) = w1 at *
      refine WC_loop (fun k ρ ds w' => ∃ i : Nat, k = ks.length - i ∧ i ≤ ks.length ∧ ρ 1 = v ∧ ρ 2 = ptr w.heap.size ∧ ρ 5 = i64 i ∧ ds = [] ∧ Ext w1 w' ∧ (l.map It.k).take i = ks.take i) ks.length ⟨0, by simp, by simp, by simp, by simp, by simp, rfl, Ext.refl _, rfl⟩ ?_
      rintro j ρ ds w2 ⟨i, rfl, hi, e1, e2, e5, rfl, hE, htk⟩
      have q1 := x1.ext hE
      by_cases hlt : i < ks.length
      · have hlt1 : i < l.length := by omega
        simp [e1, e5, len2, hlt]
        refine WC_drawC 11 (.F 0 <| .F 1 <| .F 2 <| .F 3 <| .F 4 <| .F 5 <| .F 6 <| .F 7 <| .F 8 <| .F 9 <| .F 10 <| .Z) (fun _ => false) rfl (by kernel_rfl) fun W hW => ?_
        have hWE : Ext w2 W := hW ▸ Ext.drew _
        have hEW := hE1.trans (hE.trans hWE)
        obtain ⟨k1, n1, b1, s1, v1, g1, y1, r1⟩ := itRow (hl.ext hEW) (hc.ext hEW) hlt1
        have hk1 : (l[i]).k = k1 := by
          obtain ⟨a1, a2, a3, a4, a5, a6, h6⟩ := itC_form y1
          simp at h6
          exact h6.1.symm
        have i1 := fun W => hl.index (P := Tryd.prog) (t := 29) (by simp) .i64 i (by omega) (by omega) W
        have i2 := fun W => (hv.ext hEW).index (P := Tryd.prog) (t := 68) (by simp) .i64 i (by omega) (by omega) W
        have c2 := (hv.ext hEW).at_ i (i64 ks[i]) (by simp [hlt])
        simp at i1 i2
        have s1' := q1.ext hWE
        have t1 : (l.map It.k).take (i + 1) = (l.map It.k).take i ++ [k1] := by rw [List.take_add_one, List.getElem?_map, List.getElem?_eq_getElem hlt1, Option.map_some, hk1]; rfl
        have t2 : ks.take (i + 1) = ks.take i ++ [ks[i]] := by rw [List.take_add_one, List.getElem?_eq_getElem hlt]; rfl
        by_cases he : k1 = ks[i]
        · simp [e1, e2, e5, s1'.c4, i1, i2, r1.c0, c2, he]
          exact ⟨ks.length - (i + 1), by omega, i + 1, by omega, by omega, by rw [wrap64 _ (by omega) (by omega)]; rfl, hE.trans hWE, by rw [t1, t2, htk, he]⟩
        · simp [e1, e2, e5, s1'.c4, i1, i2, r1.c0, c2, he]
          refine ⟨fun h => he ?_, hEW⟩
          rw [← hk1]
          have := h.2
          simp only [It.l] at this
          simp [← this]
      · have : i = ks.length := by omega
        subst this
        simp [e1, e5, len2]
        refine ⟨⟨rfl, ?_⟩, hE1.trans hE⟩
        rw [List.take_length, ← hll, ← List.length_map (f := It.k), List.take_length] at htk
        exact htk
    · have hl2 : ¬ ((l.length : Int) = (ks.length : Int)) := by omega
      have hn2 : ¬ shB (.mk 4 n b s l) ks := fun e => hll (by rw [← e.2, List.length_map]; rfl)
      simp [len1, len2, hl2, hn2]
      exact hE1
  · have hn2 : ¬ shB (.mk k n b s l) ks := fun e => hk e.1
    simp [hk, hn2]
    exact hE1
end Go.Proofs
