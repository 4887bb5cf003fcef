/-
  Contracts of the functions that the law reaches, step by step.
-/
import Derived.Test.YtigdaggjbnnjgaaSpZ
namespace Go.Proofs
open Pk
set_option maxRecDepth 10000
theorem actL_len (l : List St) (q : Ac) : (actL l q).length ≤ l.length + 1 := by
  unfold actL
  split
  · exact rsetL_len _ _
  · split
    · exact rdropL_len _ _ _ _
    · omega
def actsL (l : List Ac) : List St := l.foldl actL []
theorem actsL_succ {l : List Ac} {i : Nat} (hi : i < l.length) : actsL (l.take (i + 1)) = actL (actsL (l.take i)) l[i] := by
  unfold actsL
  rw [List.take_add_one, List.getElem?_eq_getElem hi, List.foldl_append]
  rfl
structure AcR (W : World) (v : Value) (i : Nat) (q : Ac) : Prop where
  c0 : W.cell? ⟨slB v, slO v + i * 7, none⟩ = some (i64 q.what)
  c1 : W.cell? ⟨slB v, slO v + i * 7 + 1, none⟩ = some (u32 q.s.f)
  c2 : W.cell? ⟨slB v, slO v + i * 7 + 2, none⟩ = some (u32 q.s.t)
  c3 : W.cell? ⟨slB v, slO v + i * 7 + 3, none⟩ = some (u64 q.s.a)
  c4 : W.cell? ⟨slB v, slO v + i * 7 + 4, none⟩ = some (u64 q.s.k)
  c5 : W.cell? ⟨slB v, slO v + i * 7 + 5, none⟩ = some (u64 q.sp.from')
  c6 : W.cell? ⟨slB v, slO v + i * 7 + 6, none⟩ = some (u64 q.sp.til)
theorem acs_row {w : World} {v : Value} {l : List Ac} (h : SlA w 7 v l.length (l.flatMap acC)) {i : Nat} {x : Ac} (hi : l[i]? = some x) : AcR w v i x := by
  have d := fun (j : Nat) (u : Value) (hj : j < 7) (e : (acC x)[j]? = some u) => h.at_ (i * 7 + j) u ((Pk.flat_at acC (fun _ => rfl) l i j x hi hj).trans e)
  simp only [← Nat.add_assoc] at d
  exact ⟨d 0 _ (by omega) rfl, d 1 _ (by omega) rfl, d 2 _ (by omega) rfl, d 3 _ (by omega) rfl, d 4 _ (by omega) rfl, d 5 _ (by omega) rfl, d 6 _ (by omega) rfl⟩
theorem Both.set {w : World} {t R b : Nat} {M : ME} {v x : Value} {l : List St} (h : Both w t R M v l) (h1 : ¬ Foot t R M b) (h2 : l ≠ [] → slB v ≠ b) : Both (w.setCell ⟨b, 0, none⟩ x) t R M v l := by
  have hM : Mod (fun k => k = b) w (w.setCell ⟨b, 0, none⟩ x) := (Mod.refl _ _).setC _ _
  exact ⟨h.tab.mod hM fun k hk e => h1 (e ▸ hk), sl_mod h.row hM fun hne => h2 (flat_ne hne), h.rel, h.off⟩
theorem Both.ext {w w' : World} {t R : Nat} {M : ME} {v : Value} {l : List St} (h : Both w t R M v l) (hE : Ext w w') : Both w' t R M v l :=
  ⟨h.tab.ext hE, h.row.ext hE, h.rel, h.off⟩
theorem Both.mod {w w' : World} {t R : Nat} {M : ME} {v : Value} {l : List St} {S : Nat → Prop} (h : Both w t R M v l) (hM : Mod S w w') (h1 : ∀ k, Foot t R M k → ¬ S k) (h2 : l ≠ [] → ¬ S (slB v)) : Both w' t R M v l :=
  ⟨h.tab.mod hM h1, sl_mod h.row hM fun hne => h2 (flat_ne hne), h.rel, h.off⟩
theorem Both.lt {w : World} {t R : Nat} {M : ME} {v : Value} {l : List St} (h : Both w t R M v l) (hne : l ≠ []) : slB v < w.heap.size :=
  Sl.lt h.row (by rw [flat_len stCells (fun _ => rfl) (s := 4)]; have := List.length_pos_iff.2 hne; omega)
set_option maxHeartbeats 4000000 in
theorem SpanCopies_c {w : World} {v : Value} {l : List Ac} {q1 q2 : Ac} (hl : SlA w 7 v l.length (l.flatMap acC)) (hp : ∀ q ∈ l, AcOk q) (h1 : AcOk q1) (h2 : AcOk q2) :
    FN Try.prog 5 [v, .agg (acC q1 ++ acC q2).toArray] w fun e w' => e = .returned (.bool true) ∧ Ext w w' := by
  refine FN_enter Try.func5 rfl rfl (by kernel_rfl) ?_
  have hlen := fun ty W => hl.isLen (P := Try.prog) (t := 46) (by simp) ty W
  have ixl := fun (i : Nat) (hi : i < l.length) (W : World) => hl.index (P := Try.prog) (t := 46) (by simp) .i64 i (by omega) (by omega) W
  by_cases h30 : (30 : Int) < l.length
  · simp [hlen, h30]
    refine FN.mono (works_c _) ?_
    rintro _ w2 ⟨rfl, hE2⟩
    simp
    exact ((Ext.refl w).alloc _).trans hE2
  · simp [hlen, h30]
    have hE1 : Ext w ((w.alloc (.cells (acC q1 ++ acC q2).toArray 49))) := (Ext.refl w).alloc _
    have o3 : Blk ((w.alloc (.cells (acC q1 ++ acC q2).toArray 49))) w.heap.size (acC q1 ++ acC q2) := Blk.new w _ _
    have z1 : ((w.alloc (.cells (acC q1 ++ acC q2).toArray 49))).heap.size = w.heap.size + 1 := by simp
    generalize ((w.alloc (.cells (acC q1 ++ acC q2).toArray 49))) = w1 at *
    refine FN.mono (new_c w1) ?_
    rintro _ w2 ⟨t, R, rfl, hT, hE2, ht, hRr⟩
    have v6 : Var (w2.alloc (.cells #[.slice none 0 0] 51)) w2.heap.size (.slice none 0 0) := Var.new w2 _ _
    have hE3 : Ext w2 (w2.alloc (.cells #[.slice none 0 0] 51)) := (Ext.refl _).alloc _
    have z3 : (w2.alloc (.cells #[.slice none 0 0] 51)).heap.size = w2.heap.size + 1 := by simp
    simp
    obtain ⟨b6, hb6⟩ : ∃ b6, b6 = w2.heap.size := ⟨_, rfl⟩
    rw [← hb6] at v6 z3 ⊢
    generalize (w2.alloc (.cells #[.slice none 0 0] 51)) = w3 at *
    have hT3 := hT.ext hE3
    have hlt2 := hT.lt
    have s2 := hE2.size
    have hown0 : ∀ k, Foot t R [] k → w1.heap.size ≤ k := by
      rintro k (rfl | rfl | ⟨x, hx, -⟩)
      · exact ht
      · exact hRr
      · cases hx
    have hB3 : Both w3 t R [] (.slice none 0 0) (actsL (l.take 0)) := ⟨hT3, Sl.nil _ _ _, RelT.nil, fun h => absurd rfl h⟩
    refine WC_loop (fun k ρ ds w' => ∃ (i : Nat) (M : ME) (vv : Value), k = l.length - i ∧ i ≤ l.length ∧ ρ 0 = v ∧ ρ 3 = ptr w.heap.size ∧ ρ 5 = ptr t ∧ ρ 6 = ptr b6 ∧ ρ 7 = i64 i ∧ ds = [] ∧ Ext w1 w' ∧ Both w' t R M vv (actsL (l.take i)) ∧ Var w' b6 vv ∧ ¬ Foot t R M b6 ∧
      (actsL (l.take i) ≠ [] → slB vv ≠ b6) ∧ (∀ k, Foot t R M k → w1.heap.size ≤ k) ∧ (actsL (l.take i)).length ≤ i) l.length
      ⟨0, [], .slice none 0 0, by simp, by simp, by simp, by simp, by simp, by simp, by simp, rfl, hE2.trans hE3, hB3, v6, fun h => by have := hlt2 _ h; omega, fun h => absurd rfl h, hown0, by simp [actsL]⟩ ?_
    rintro k ρ ds w4 ⟨i, M, vv, rfl, hi, e0, e3, e5, e6, e7, rfl, hE, hB, vb, hF6, hv6, hown, hln⟩
    have s4 := hE.size
    by_cases hlt : i < l.length
    · simp [e0, e7, hlen, hlt]
      have hq := List.getElem?_eq_getElem hlt
      have hltv : slB v < w.heap.size := by
        have r := acs_row hl hq
        exact World.block_lt_of_cell? _ _ r.c0
      have nF : ∀ k, k < w1.heap.size → ¬ Foot t R M k := fun k hk hf => by have := hown k hf; omega
      refine WC_drawL 11 (.F 0 <| .F 1 <| .F 2 <| .F 3 <| .F 4 <| .F 5 <| .C 6 <| .F 7 <| .F 8 <| .F 9 <| .S 10 <| .Z) (Xf (Foot t R M)) (Xf (Foot t R M)) (fun _ _ _ => True) rfl (by kernel_rfl) (fun _ h => h) (fun _ _ _ _ _ _ => trivial) fun W hW => ?_
      have hWE : Ext w4 W := hW ▸ Ext.drew w4
      have rr := acs_row (hl.ext (hE1.trans (hE.trans hWE))) hq
      have vbW := vb.ext hWE
      have X6 := Xf_f hF6
      have Xv := Xf_f (nF (slB v) (by omega))
      obtain ⟨va, vc, hvv⟩ := hB.row.isSlice
      have ix := ixl i hlt
      simp [e0, e5, e6, e7, ix, rr.c0, rr.c1, rr.c2, rr.c3, rr.c4, rr.c5, rr.c6, vbW.cell, X6, Xv]
      refine FN.mono (act_c (hB.ext hWE) l[i] (hp _ (by simp)) (by omega)) ?_
      rintro _ w5 ⟨M5, v5, rfl, hB5, hM5, hF5, hf5⟩
      obtain ⟨a5, c5, hv5⟩ := hB5.row.isSlice
      have sW := hWE.size
      have lb := vb.lt
      have vb5 := vbW.mod hM5 hF6
      rw [← actsL_succ hlt] at hB5 hf5 hv5
      subst hv5
      have hF6' : ¬ Foot t R M5 b6 := fun h => by
        rcases hF5 _ h with h | h
        · exact hF6 h
        · omega
      have hv6' : actsL (l.take (i + 1)) ≠ [] → slB (.slice a5 (actsL (l.take (i + 1))).length c5) ≠ b6 := fun hne => by
        rcases hf5 hne with h | h
        · rw [h]
          refine hv6 fun e => hne ?_
          rw [hvv] at h
          simp only [Value.slice.injEq] at h
          exact List.eq_nil_of_length_eq_zero (by rw [h.2.1, e]; rfl)
        · omega
      simp
      refine KR_mk (Xf_agr hM5) ?_
      simp [e6, vb5.cell, vb5.thaw]
      refine KR_set ?_
      simp [e7]
      have hM6 : Mod (fun k => k = b6) w5 (w5.setCell ⟨b6, 0, none⟩ (.slice a5 (actsL (l.take (i + 1))).length c5)) := (Mod.refl _ _).setC _ _
      have hb6' : w1.heap.size ≤ b6 := by omega
      refine ⟨l.length - (i + 1), by omega, i + 1, rfl, by omega, e0, e3, e5, e6, by rw [wrap64 _ (by omega) (by omega)]; rfl, ?_, M5, _, hB5.set hF6' hv6', vb5.set _, hF6', hv6', ?_, ?_⟩
      · exact ((((hE.trans hWE).mod (S := fun k => w1.heap.size ≤ k)).trans (hM5.weaken fun k hk => hown k hk)).trans (hM6.weaken fun k hk => by omega)).ext fun _ h => h
      · intro k hk
        rcases hF5 k hk with h | h
        · exact hown k h
        · omega
      · rw [actsL_succ hlt]
        have := actL_len (actsL (l.take i)) l[i]
        omega
    · have : i = l.length := by omega
      subst this
      rw [List.take_length] at hB hv6 hln
      obtain ⟨L, hL⟩ : ∃ L, L = actsL l := ⟨_, rfl⟩
      rw [← hL] at hB hv6 hln
      simp [e0, e5, e7, hlen]
      refine FN.mono (copy_c hB.tab) ?_
      rintro _ wA ⟨t2, R2, M2, rfl, hT2, hs2, ht2, hEA, hfoot2⟩
      have sA := hEA.size
      have hlt2' := hT2.lt
      have hltB := hB.tab.lt
      have hBc : Both wA t2 R2 M2 vv L := ⟨hT2, hB.row.ext hEA, hB.rel.of_sps hs2 ht2, fun hne hf => by have := hfoot2 _ hf; have := hB.lt hne; omega⟩
      have vbA := vb.ext hEA
      have oA := o3.ext (hE.trans hEA)
      simp [e3, e5, e6, vbA.cell, oA.cell 0 _ rfl, oA.cell 1 _ rfl, oA.cell 2 _ rfl, oA.cell 3 _ rfl, oA.cell 4 _ rfl, oA.cell 5 _ rfl, oA.cell 6 _ rfl]
      refine FN.mono (act_c (hB.ext hEA) q1 h1 (by omega)) ?_
      rintro _ wB ⟨M3, v3, rfl, hB3', hM3, hF3, hf3⟩
      obtain ⟨L1, hL1⟩ : ∃ L1, L1 = actL L q1 := ⟨_, rfl⟩
      rw [← hL1] at hB3' hf3
      have hl1 : L1.length ≤ L.length + 1 := by rw [hL1]; exact actL_len _ _
      obtain ⟨a3, c3, hv3⟩ := hB3'.row.isSlice
      have lb := vb.lt
      have sB := hM3.size
      have nF3 : ∀ k, Foot t R M3 k → Foot t R M k ∨ wA.heap.size ≤ k := hF3
      have d12 : ∀ k, Foot t2 R2 M2 k → ¬ Foot t R M k := fun k h1 h2 => by have := hfoot2 k h1; have := hltB k h2; omega
      have vbB := vbA.mod hM3 hF6
      have oB := oA.mod hM3 fun hf => by have := hown _ hf; omega
      have hBcB := hBc.mod hM3 d12 (hB.off)
      subst hv3
      have hE9 : Ext wB (wB.alloc (.cells #[.slice a3 L1.length c3] 51)) := (Ext.refl _).alloc _
      have v9 : Var (wB.alloc (.cells #[.slice a3 L1.length c3] 51)) wB.heap.size (.slice a3 L1.length c3) := Var.new _ _ _
      have z9 : (wB.alloc (.cells #[.slice a3 L1.length c3] 51)).heap.size = wB.heap.size + 1 := by simp
      have vbC := vbB.ext hE9
      have oC := oB.ext hE9
      simp [e3, e6, (vbB).cell, oB.cell 7 _ rfl, oB.cell 8 _ rfl, oB.cell 9 _ rfl, oB.cell 10 _ rfl, oB.cell 11 _ rfl, oB.cell 12 _ rfl, oB.cell 13 _ rfl]
      obtain ⟨b9, hb9⟩ : ∃ b9, b9 = wB.heap.size := ⟨_, rfl⟩
      rw [← hb9] at v9 ⊢
      generalize (wB.alloc (.cells #[.slice a3 L1.length c3] 51)) = wC at *
      refine FN.mono (act_c (hBcB.ext hE9) q2 h2 (by omega)) ?_
      rintro _ wD ⟨M4, v4, rfl, hB4, hM4, hF4, hf4⟩
      obtain ⟨L2, hL2⟩ : ∃ L2, L2 = actL L q2 := ⟨_, rfl⟩
      rw [← hL2] at hB4 hf4
      have hl2 : L2.length ≤ L.length + 1 := by rw [hL2]; exact actL_len _ _
      obtain ⟨a4, c4, hv4⟩ := hB4.row.isSlice
      subst hv4
      have sD := hM4.size
      have d3 : ∀ k, Foot t R M3 k → ¬ Foot t2 R2 M2 k := fun k h1 h2 => by
        rcases hF3 k h1 with h3 | h3
        · exact d12 k h2 h3
        · have := hlt2' k h2; omega
      have dv3 : L1 ≠ [] → ¬ Foot t2 R2 M2 (slB (.slice a3 L1.length c3)) := fun hne hf => by
        rcases hf3 hne with h3 | h3
        · obtain ⟨av, cv, hvv⟩ := hB.row.isSlice
          have hne' : L ≠ [] := fun e => hne (by
            rw [hvv] at h3
            simp only [Value.slice.injEq] at h3
            exact List.eq_nil_of_length_eq_zero (by rw [h3.2.1, e]; rfl))
          have h5 := hB.lt hne'
          have h6 := hfoot2 _ hf
          rw [h3] at h6
          omega
        · have := hlt2' _ hf; omega
      have hB3D := (hB3'.ext hE9).mod hM4 d3 dv3
      have v9D := v9.mod hM4 fun hf => by have := hlt2' _ hf; omega
      have oD := oC.mod hM4 fun hf => by have := hfoot2 _ hf; omega
      have hEb : Ext wD (wD.alloc (.cells #[.slice a4 L2.length c4] 51)) := (Ext.refl _).alloc _
      have v11 : Var (wD.alloc (.cells #[.slice a4 L2.length c4] 51)) wD.heap.size (.slice a4 L2.length c4) := Var.new _ _ _
      simp [v9D.cell]
      obtain ⟨b11, hb11⟩ : ∃ b11, b11 = wD.heap.size := ⟨_, rfl⟩
      rw [← hb11] at v11 ⊢
      generalize (wD.alloc (.cells #[.slice a4 L2.length c4] 51)) = w6 at *
      have hB3E := hB3D.ext hEb
      have hB4E := hB4.ext hEb
      have v9E := v9D.ext hEb
      have oE := oD.ext hEb
      have hEw6 : Ext w w6 := by
        have m1 : Mod (fun k => w.heap.size ≤ k) w wA := (hE1.trans (hE.trans hEA)).mod
        have s1 := hE1.size
        have m2 := (m1.trans (hM3.weaken fun k hk => by have := hown k hk; omega)).trans (hE9.mod (S := fun k => w.heap.size ≤ k))
        have m3 := (m2.trans (hM4.weaken fun k hk => by have := hfoot2 k hk; omega)).trans (hEb.mod (S := fun k => w.heap.size ≤ k))
        exact m3.ext fun _ h => h
      refine FN.mono (rsame_c hB3E.row hB4E.row (by omega) (by omega)) ?_
      rintro _ w7 ⟨rfl, hE7⟩
      have heq := hB3E.rel.same hB4E.rel hB3E.tab hB4E.tab
      have heq2 := eqT_comm hB3E.tab hB4E.tab
      have hB3F := hB3E.ext hE7
      have hB4F := hB4E.ext hE7
      have v9F := v9E.ext hE7
      have v11F := v11.ext hE7
      have oF := oE.ext hE7
      simp [e3, e5, v9F.cell, oF.cell 1 _ rfl, oF.cell 2 _ rfl, oF.cell 3 _ rfl, oF.cell 4 _ rfl]
      refine FN.mono (is_c hB3F.tab hB3F.row hB3F.rel q1.s 1 (by omega)) ?_
      rintro _ w8 ⟨rfl, hE8⟩
      have oG := oF.ext hE8
      simp [e3, (v11F.ext hE8).cell, oG.cell 8 _ rfl, oG.cell 9 _ rfl, oG.cell 10 _ rfl, oG.cell 11 _ rfl]
      refine FN.mono (is_c (hB4F.ext hE8).tab (hB4F.ext hE8).row hB4F.rel q2.s 2 (by omega)) ?_
      rintro _ w9 ⟨rfl, hE9'⟩
      have hE79 := hE8.trans hE9'
      have oH := oG.ext hE9'
      simp [e3, e5, (v9F.ext hE79).cell, oH.cell 8 _ rfl, oH.cell 9 _ rfl, oH.cell 10 _ rfl, oH.cell 11 _ rfl]
      refine FN.mono (is_c (hB3F.ext hE79).tab (hB3F.ext hE79).row hB3F.rel q2.s 1 (by omega)) ?_
      rintro _ w10 ⟨rfl, hE10⟩
      have hE710 := hE79.trans hE10
      simp [e5]
      refine FN.mono (same_c (hB3F.ext hE710).tab (hB4F.ext hE710).tab) ?_
      rintro _ w11 ⟨rfl, hE11⟩
      have hE711 := hE710.trans hE11
      rw [heq]
      simp [e5]
      refine FN.mono (same_c (hB4F.ext hE711).tab (hB3F.ext hE711).tab) ?_
      rintro _ w12 ⟨rfl, hE12⟩
      have hE712 := hE711.trans hE12
      rw [heq2, heq]
      simp [e5]
      refine FN.mono (same_nil (hB3F.ext hE712).tab) ?_
      rintro _ w13 ⟨rfl, h13⟩
      subst h13
      simp
      refine FN.mono (works_c _) ?_
      rintro _ w14 ⟨rfl, hE14⟩
      simp
      exact hEw6.trans (hE7.trans (hE712.trans hE14))
end Go.Proofs
