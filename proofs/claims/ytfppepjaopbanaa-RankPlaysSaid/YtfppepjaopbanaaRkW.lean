/-
  Contracts of the functions that the law reaches, step by step.
-/
import Derived.Test.YtfppepjaopbanaaRkS
namespace Go.Proofs
open Pk
set_option maxRecDepth 10000
theorem ext_set7 {w W : World} (hW : Ext w W) (b : Nat) (h : w.heap.size ≤ b) (v0 v1 v2 v3 v4 v5 v6 : Value) :
    Ext w (((((((W.setCell ⟨b, 0, none⟩ v0).setCell ⟨b, 1, none⟩ v1).setCell ⟨b, 2, none⟩ v2).setCell ⟨b, 3, none⟩ v3).setCell ⟨b, 4, none⟩ v4).setCell ⟨b, 5, none⟩ v5).setCell ⟨b, 6, none⟩ v6) :=
  ((((((hW.setCell _ _ h).setCell _ _ h).setCell _ _ h).setCell _ _ h).setCell _ _ h).setCell _ _ h).setCell _ _ h
set_option maxHeartbeats 1000000 in
theorem rget_c {w : World} {v : Value} {s : List Wt} (h : WSl w v s) (most : Int) (n : Nm) (hn0 : 0 ≤ n.1) (hb : s.length ≤ 1000) (hrk : ranked s) :
    FN Try.prog 43 [rlV v most, nmV n] w fun e w' => e = .returned (.tuple #[wtV (dropV s n), i64 (if dropE s n = 0 then (getI s n : Int) else 0), i64 (dropE s n)]) ∧ Ext w w' := by
  refine FN_enter Try.func43 rfl rfl (by kernel_rfl) ?_
  simp
  have hE1 : Ext w (((w.alloc (.cells #[v, i64 most] 46)).alloc (.cells #[u32 n.1, u32 n.2.1, u64 n.2.2.1, u32 n.2.2.2] 28)).alloc (.cells #[u32 0, u32 0, u64 0, u32 0, u32 0, i64 0, i64 0] 30)) := (((Ext.refl w).alloc _).alloc _).alloc _
  have hbx : RAt (((w.alloc (.cells #[v, i64 most] 46)).alloc (.cells #[u32 n.1, u32 n.2.1, u64 n.2.2.1, u32 n.2.2.2] 28)).alloc (.cells #[u32 0, u32 0, u64 0, u32 0, u32 0, i64 0, i64 0] 30)) w.heap.size v most := (RAt.new w v most).ext (((Ext.refl _).alloc _).alloc _)
  have hna : NmAt (((w.alloc (.cells #[v, i64 most] 46)).alloc (.cells #[u32 n.1, u32 n.2.1, u64 n.2.2.1, u32 n.2.2.2] 28)).alloc (.cells #[u32 0, u32 0, u64 0, u32 0, u32 0, i64 0, i64 0] 30)) (w.heap.size + 1) n := by
    have := (NmAt.new (w.alloc (.cells #[v, i64 most] 46)) n 28).ext ((Ext.refl _).alloc (.cells #[u32 0, u32 0, u64 0, u32 0, u32 0, i64 0, i64 0] 30))
    simpa using this
  have hox : WAt (((w.alloc (.cells #[v, i64 most] 46)).alloc (.cells #[u32 n.1, u32 n.2.1, u64 n.2.2.1, u32 n.2.2.2] 28)).alloc (.cells #[u32 0, u32 0, u64 0, u32 0, u32 0, i64 0, i64 0] 30)) (w.heap.size + 1 + 1) zW := by
    have := WAt.new ((w.alloc (.cells #[v, i64 most] 46)).alloc (.cells #[u32 n.1, u32 n.2.1, u64 n.2.2.1, u32 n.2.2.2] 28)) zW
    simpa [zW] using this
  have hsz : (((w.alloc (.cells #[v, i64 most] 46)).alloc (.cells #[u32 n.1, u32 n.2.1, u64 n.2.2.1, u32 n.2.2.2] 28)).alloc (.cells #[u32 0, u32 0, u64 0, u32 0, u32 0, i64 0, i64 0] 30)).heap.size = w.heap.size + 1 + 1 + 1 := by simp
  generalize (((w.alloc (.cells #[v, i64 most] 46)).alloc (.cells #[u32 n.1, u32 n.2.1, u64 n.2.2.1, u32 n.2.2.2] 28)).alloc (.cells #[u32 0, u32 0, u64 0, u32 0, u32 0, i64 0, i64 0] 30)) = w1 at *
  refine FN.mono (rname_c n hn0 w1) ?_
  rintro _ w2 ⟨rfl, hE2⟩
  have hEa := hE1.trans hE2
  have hn2 := hna.ext hE2
  have bx2 := hbx.ext hE2
  have ox2 := hox.ext hE2
  have s2 := hE2.size
  unfold dropV dropE
  cases hw : badN n with
  | true =>
    have oc := ox2.1
    have of := ox2.fz
    simp [cell_setCell, oc.c0, oc.c1, oc.c2, oc.c3, oc.c4, oc.c5, oc.c6, of, zW]
    exact ext_set7 hEa _ (by omega) _ _ _ _ _ _ _
  | false =>
    simp [bx2.c0, bx2.c1, hn2.c0, hn2.c1, hn2.c2, hn2.c3]
    refine FN.mono (at_c (h.ext hEa) most n hb) ?_
    rintro _ w3 ⟨rfl, hE3⟩
    have hEb := hEa.trans hE3
    have bx3 := bx2.ext hE3
    have ox3 := ox2.ext hE3
    have hn3 := hn2.ext hE3
    have s3 := hE3.size
    cases hf : s.findIdx? (fun y => decide (y.1 = n)) with
    | none =>
      have hs : findN s n = none := at_none.1 hf
      have oc := ox3.1
      have of := ox3.fz
      simp [hs, cell_setCell, oc.c0, oc.c1, oc.c2, oc.c3, oc.c4, oc.c5, oc.c6, of, zW]
      exact ext_set7 hEb _ (by omega) _ _ _ _ _ _ _
    | some i =>
      obtain ⟨hi, hs, hyn, -⟩ := find_at hf
      have hq := List.getElem?_eq_getElem hi
      obtain ⟨y, hy⟩ : ∃ y, y = s[i] := ⟨_, rfl⟩
      rw [← hy] at hs hyn hq
      have hys : y ∈ s := by rw [hy]; simp
      have ix := fun W => WSl.index h i hi W
      have nn : ¬ ((i : Int) < 0) := by omega
      simp [hs, nn]
      refine WC_drawC 7 (.F 0 <| .F 1 <| .F 2 <| .F 3 <| .F 4 <| .F 5 <| .F 6 <| .Z) (fun _ => false) rfl (by kernel_rfl) fun W hW => ?_
      have hWE : Ext w3 W := hW ▸ Ext.drew w3
      have bx4 := bx3.ext hWE
      have r := (WSl.row h hq).ext (hEb.trans hWE)
      simp [bx4.c0, bx4.c1, ix, r.c4]
      refine FN.mono (rall_c (h.ext (hEb.trans hWE)) most y.2.1 hb) ?_
      rintro _ w5 ⟨u, rfl, hu, hE5⟩
      simp
      have hEc := (hEb.trans hWE).trans hE5
      have hn5 := (hn3.ext hWE).ext hE5
      have bx5 := bx4.ext hE5
      have ox5 := (ox3.ext hWE).ext hE5
      have hyA : y ∈ allOf s y.2.1 := mem_allOf.2 ⟨hys, rfl, hrk y hys⟩
      obtain ⟨m, hm⟩ : ∃ m, (allOf s y.2.1).findIdx? (fun z => decide (z.1 = n)) = some m := by
        cases hc : (allOf s y.2.1).findIdx? (fun z => decide (z.1 = n)) with
        | some m => exact ⟨m, rfl⟩
        | none =>
          have := List.findIdx?_eq_none_iff.1 hc y hyA
          simp [hyn] at this
      obtain ⟨hml, hm1, hm2⟩ := List.findIdx?_eq_some_iff_getElem.1 hm
      have hg : getI s n = m := by unfold getI; rw [hs]; simp only [Option.getD_some]; rw [hm]; rfl
      rw [hg]
      have hal : (allOf s y.2.1).length ≤ 3 * s.length := acc_len s y.2.1 3
      have hus : WSl w5 u (allOf s y.2.1) := sl_of_own hu
      refine WC_loop (fun k ρ ds w' => ∃ j : Nat, k = m - j ∧ j ≤ m ∧ ρ 2 = ptr w.heap.size ∧ ρ 3 = ptr (w.heap.size + 1) ∧ ρ 4 = ptr (w.heap.size + 1 + 1) ∧ ρ 7 = i64 i ∧ ρ 8 = u ∧ ρ 9 = i64 j ∧ ds = [] ∧ Ext w5 w') m
        ⟨0, by simp, by simp, by simp, by simp, by simp, by simp, by simp, by simp, rfl, Ext.refl _⟩ ?_
      rintro k ρ ds w6 ⟨j, rfl, hj, e2, e3, e4, e7, e8, e9, rfl, hE6⟩
      have hjl : j < (allOf s y.2.1).length := by omega
      have hd := Ext.drew w6
      have hE7 := hE6.trans hd
      have rr := (WSl.row hus (List.getElem?_eq_getElem hjl)).ext hE7
      have ixu := WSl.index hus j hjl w6.drew
      have hn7 := hn5.ext hE7
      refine WC_drawQ 7 rfl (by kernel_rfl) ?_
      simp [e3, e8, e9, ixu, rr.c0, rr.c1, rr.c2, rr.c3, hn7.c0, hn7.c1, hn7.c2, hn7.c3]
      by_cases hh : ((allOf s y.2.1)[j]).1 = n
      · have hjm : j = m := by
          rcases Nat.lt_or_ge j m with h | h
          · exact absurd (by simpa using hh) (hm2 j h)
          · omega
        subst hjm
        have bx7 := bx5.ext hE7
        have ox7 := ox5.ext hE7
        have oc := ox7.1
        have of := ox7.fz
        have r7 := ((WSl.row h hq).ext hEc).ext hE7
        simp [nmB_t hh, e2, e4, e7, e9, bx7.c0, ix, r7.c0, r7.c1, r7.c2, r7.c3, r7.c4, r7.c5, r7.c6, oc.c0, oc.c1, oc.c2, oc.c3, oc.c4, oc.c5, oc.c6, of, cell_setCell]
        exact ext_set7 (hEc.trans hE7) _ (by omega) _ _ _ _ _ _ _
      · have hjm : j < m := by
          rcases Nat.lt_or_ge j m with h | h
          · exact h
          · have : j = m := by omega
            subst this
            exact absurd (by simpa using hm1) hh
        simp [nmB_f hh, e2, e3, e4, e7, e8, e9]
        exact ⟨m - (j + 1), by omega, j + 1, rfl, by omega, by rw [wrap64 _ (by omega) (by omega)]; rfl, hE7⟩
end Go.Proofs
namespace Go.Proofs
open Pk
set_option maxRecDepth 10000
set_option maxHeartbeats 1000000 in
theorem rmove_c {w : World} {v : Value} {s : List Wt} (h : WSl w v s) (most : Int) (n : Nm) (tn : Int) (hn0 : 0 ≤ n.1) (hb : s.length ≤ 1000) (hnd : (s.map (·.1)).Nodup) :
    FN Try.prog 45 [rlV v most, nmV n, u32 tn] w fun e w' => ∃ v', e = .returned (.tuple #[rlV v' most, i64 (moveE s n tn)]) ∧ WSl w' v' (moved s n tn) ∧ Fresh w w' v v' ∧ Ext w w' := by
  obtain ⟨va, vc, hvs⟩ := h.isSlice
  subst hvs
  have h' : WSl w (.slice va s.length vc) s := h
  obtain ⟨v, hvd⟩ : ∃ v, v = Value.slice va s.length vc := ⟨_, rfl⟩
  rw [← hvd] at h ⊢
  refine FN_enter Try.func45 rfl rfl (by kernel_rfl) ?_
  simp
  have hE1 : Ext w (((w.alloc (.cells #[v, i64 most] 46)).alloc (.cells #[u32 n.1, u32 n.2.1, u64 n.2.2.1, u32 n.2.2.2] 28)).alloc (.cells #[.slice none 0 0, i64 0] 46)) := (((Ext.refl w).alloc _).alloc _).alloc _
  have hbx : RAt (((w.alloc (.cells #[v, i64 most] 46)).alloc (.cells #[u32 n.1, u32 n.2.1, u64 n.2.2.1, u32 n.2.2.2] 28)).alloc (.cells #[.slice none 0 0, i64 0] 46)) w.heap.size v most := (RAt.new w v most).ext (((Ext.refl _).alloc _).alloc _)
  have hna : NmAt (((w.alloc (.cells #[v, i64 most] 46)).alloc (.cells #[u32 n.1, u32 n.2.1, u64 n.2.2.1, u32 n.2.2.2] 28)).alloc (.cells #[.slice none 0 0, i64 0] 46)) (w.heap.size + 1) n := by
    have := (NmAt.new (w.alloc (.cells #[v, i64 most] 46)) n 28).ext ((Ext.refl _).alloc (.cells #[.slice none 0 0, i64 0] 46))
    simpa using this
  have hob : RAt (((w.alloc (.cells #[v, i64 most] 46)).alloc (.cells #[u32 n.1, u32 n.2.1, u64 n.2.2.1, u32 n.2.2.2] 28)).alloc (.cells #[.slice none 0 0, i64 0] 46)) (w.heap.size + 1 + 1) (.slice none 0 0) 0 := by
    have := RAt.new ((w.alloc (.cells #[v, i64 most] 46)).alloc (.cells #[u32 n.1, u32 n.2.1, u64 n.2.2.1, u32 n.2.2.2] 28)) (.slice none 0 0) 0
    simpa using this
  have hsz : (((w.alloc (.cells #[v, i64 most] 46)).alloc (.cells #[u32 n.1, u32 n.2.1, u64 n.2.2.1, u32 n.2.2.2] 28)).alloc (.cells #[.slice none 0 0, i64 0] 46)).heap.size = w.heap.size + 1 + 1 + 1 := by simp
  have hbad : badN n = true → moveE s n tn = 2 := fun e => by unfold moveE; rw [if_pos e]
  have fin : ∀ (W : World) (a b : Value), Ext w W → Ext w ((W.setCell ⟨w.heap.size + 1 + 1, 0, none⟩ a).setCell ⟨w.heap.size + 1 + 1, 1, none⟩ b) := fun W a b hW => (hW.setCell _ _ (by simp only; omega)).setCell _ _ (by simp only; omega)
  by_cases h0 : tn = 0
  · have hm : moveE s n tn = 2 := by unfold moveE; simp [h0]
    have hmv : moved s n tn = s := by unfold moved; rw [hm]; rfl
    rw [hm, hmv]
    simp [h0]
    generalize (((w.alloc (.cells #[v, i64 most] 46)).alloc (.cells #[u32 n.1, u32 n.2.1, u64 n.2.2.1, u32 n.2.2.2] 28)).alloc (.cells #[.slice none 0 0, i64 0] 46)) = w1 at *
    simp [hvd, hob.c0, hob.c1, hob.f0, hob.f1, cell_setCell]
    exact ⟨Sl.ext h' (fin _ _ _ hE1), .inl rfl, fin _ _ _ hE1⟩
  · simp [h0]
    generalize (((w.alloc (.cells #[v, i64 most] 46)).alloc (.cells #[u32 n.1, u32 n.2.1, u64 n.2.2.1, u32 n.2.2.2] 28)).alloc (.cells #[.slice none 0 0, i64 0] 46)) = w1 at *
    refine FN.mono (rdrop_c (h.ext hE1) most n hn0 hb hnd) ?_
    rintro _ w2 ⟨v2, rfl, h2, o2, -, hE2⟩
    have hEa := hE1.trans hE2
    have s2 := hE2.size
    have bx2 := hbx.ext hE2
    have ob2 := hob.ext hE2
    have he : moveE s n tn = dropE s n := by unfold moveE dropE; simp [h0]
    obtain ⟨a', c', hv2⟩ := h2.isSlice
    by_cases hd : dropE s n = 0
    · rw [he, hd]
      rw [if_pos hd] at h2 hv2
      have o2 := o2 hd
      have hmv : moved s n tn = mdel s n ++ [((dropV s n).1, tn, (dropV s n).2.2)] := by
        obtain ⟨x, hx⟩ := dropped hd
        unfold moved dropV
        rw [if_pos (he.trans hd), if_pos hd, hx]
        simp only [Option.getD_some]
        rw [(findN_some hx).2]
      rw [hmv]
      generalize dropV s n = q
      have hml : (mdel s n).length ≤ s.length := List.length_filter_le _ _
      have a3 : Ext w2 (((w2.alloc (.cells #[v2, i64 most] 46)).alloc (.cells #[u32 (q.1, tn, q.2.2).1.1, u32 (q.1, tn, q.2.2).1.2.1, u64 (q.1, tn, q.2.2).1.2.2.1, u32 (q.1, tn, q.2.2).1.2.2.2, u32 (q.1, tn, q.2.2).2.1, i64 (q.1, tn, q.2.2).2.2.1, i64 (q.1, tn, q.2.2).2.2.2] 30)).alloc (.cells #[u32 (q.1, tn, q.2.2).1.1, u32 (q.1, tn, q.2.2).1.2.1, u64 (q.1, tn, q.2.2).1.2.2.1, u32 (q.1, tn, q.2.2).1.2.2.2, u32 (q.1, tn, q.2.2).2.1, i64 (q.1, tn, q.2.2).2.2.1, i64 (q.1, tn, q.2.2).2.2.2] 30)) := (((Ext.refl w2).alloc _).alloc _).alloc _
      have r3 : RAt (((w2.alloc (.cells #[v2, i64 most] 46)).alloc (.cells #[u32 (q.1, tn, q.2.2).1.1, u32 (q.1, tn, q.2.2).1.2.1, u64 (q.1, tn, q.2.2).1.2.2.1, u32 (q.1, tn, q.2.2).1.2.2.2, u32 (q.1, tn, q.2.2).2.1, i64 (q.1, tn, q.2.2).2.2.1, i64 (q.1, tn, q.2.2).2.2.2] 30)).alloc (.cells #[u32 (q.1, tn, q.2.2).1.1, u32 (q.1, tn, q.2.2).1.2.1, u64 (q.1, tn, q.2.2).1.2.2.1, u32 (q.1, tn, q.2.2).1.2.2.2, u32 (q.1, tn, q.2.2).2.1, i64 (q.1, tn, q.2.2).2.2.1, i64 (q.1, tn, q.2.2).2.2.2] 30)) w2.heap.size v2 most := (RAt.new w2 v2 most).ext (((Ext.refl _).alloc _).alloc _)
      have hsl : WSl (((w2.alloc (.cells #[v2, i64 most] 46)).alloc (.cells #[u32 (q.1, tn, q.2.2).1.1, u32 (q.1, tn, q.2.2).1.2.1, u64 (q.1, tn, q.2.2).1.2.2.1, u32 (q.1, tn, q.2.2).1.2.2.2, u32 (q.1, tn, q.2.2).2.1, i64 (q.1, tn, q.2.2).2.2.1, i64 (q.1, tn, q.2.2).2.2.2] 30)).alloc (.cells #[u32 (q.1, tn, q.2.2).1.1, u32 (q.1, tn, q.2.2).1.2.1, u64 (q.1, tn, q.2.2).1.2.2.1, u32 (q.1, tn, q.2.2).1.2.2.2, u32 (q.1, tn, q.2.2).2.1, i64 (q.1, tn, q.2.2).2.2.1, i64 (q.1, tn, q.2.2).2.2.2] 30)) (.slice (some ⟨w2.heap.size + 1 + 1, 0, none⟩) 1 1) [(q.1, tn, q.2.2)] := by
        have := Sl.made ((w2.alloc (.cells #[v2, i64 most] 46)).alloc (.cells #[u32 (q.1, tn, q.2.2).1.1, u32 (q.1, tn, q.2.2).1.2.1, u64 (q.1, tn, q.2.2).1.2.2.1, u32 (q.1, tn, q.2.2).1.2.2.2, u32 (q.1, tn, q.2.2).2.1, i64 (q.1, tn, q.2.2).2.2.1, i64 (q.1, tn, q.2.2).2.2.2] 30)) (wtC (q.1, tn, q.2.2)) 30 7 1 rfl
        have hb : ((w2.alloc (.cells #[v2, i64 most] 46)).alloc (.cells #[u32 (q.1, tn, q.2.2).1.1, u32 (q.1, tn, q.2.2).1.2.1, u64 (q.1, tn, q.2.2).1.2.2.1, u32 (q.1, tn, q.2.2).1.2.2.2, u32 (q.1, tn, q.2.2).2.1, i64 (q.1, tn, q.2.2).2.2.1, i64 (q.1, tn, q.2.2).2.2.2] 30)).heap.size = w2.heap.size + 1 + 1 := by simp
        rw [hb] at this
        have e : [((q.1, tn, q.2.2) : Wt)].flatMap wtC = wtC (q.1, tn, q.2.2) := by simp
        show Sl _ 7 _ _ _
        rw [e]
        exact this
      have z3 : (((w2.alloc (.cells #[v2, i64 most] 46)).alloc (.cells #[u32 (q.1, tn, q.2.2).1.1, u32 (q.1, tn, q.2.2).1.2.1, u64 (q.1, tn, q.2.2).1.2.2.1, u32 (q.1, tn, q.2.2).1.2.2.2, u32 (q.1, tn, q.2.2).2.1, i64 (q.1, tn, q.2.2).2.2.1, i64 (q.1, tn, q.2.2).2.2.2] 30)).alloc (.cells #[u32 (q.1, tn, q.2.2).1.1, u32 (q.1, tn, q.2.2).1.2.1, u64 (q.1, tn, q.2.2).1.2.2.1, u32 (q.1, tn, q.2.2).1.2.2.2, u32 (q.1, tn, q.2.2).2.1, i64 (q.1, tn, q.2.2).2.2.1, i64 (q.1, tn, q.2.2).2.2.2] 30)).heap.size = w2.heap.size + 1 + 1 + 1 := by simp
      simp only [hv2] at a3 r3 hsl z3
      simp [hv2]
      generalize (((w2.alloc (.cells #[.slice a' (mdel s n).length c', i64 most] 46)).alloc (.cells #[u32 (q.1, tn, q.2.2).1.1, u32 (q.1, tn, q.2.2).1.2.1, u64 (q.1, tn, q.2.2).1.2.2.1, u32 (q.1, tn, q.2.2).1.2.2.2, u32 (q.1, tn, q.2.2).2.1, i64 (q.1, tn, q.2.2).2.2.1, i64 (q.1, tn, q.2.2).2.2.2] 30)).alloc (.cells #[u32 (q.1, tn, q.2.2).1.1, u32 (q.1, tn, q.2.2).1.2.1, u64 (q.1, tn, q.2.2).1.2.2.1, u32 (q.1, tn, q.2.2).1.2.2.2, u32 (q.1, tn, q.2.2).2.1, i64 (q.1, tn, q.2.2).2.2.1, i64 (q.1, tn, q.2.2).2.2.2] 30)) = w3 at *
      have hlt2 : slN v2 = false → slB v2 < w2.heap.size := fun hn => by
        obtain ⟨c, hc⟩ := own_obj o2 hn
        exact (Array.getElem?_eq_some_iff.1 hc).1
      obtain ⟨v4, W4, hr4, ho4, hM4, hb4⟩ := append_own (P := Try.prog) (t := 22) (ty := 22) (e := 30) (s := 7) (by simp) (by simp) (by kernel_rfl) (own_ext o2 a3) hsl (wone _) (by simp; omega) (by have := a3.size; omega)
      have hge : slN v2 = false → w1.heap.size ≤ slB v2 := fun hn => own_ge o2 hn
      have nS : ∀ k, k < w1.heap.size ∨ k = w2.heap.size → ¬ (slN v2 = false ∧ k = slB v2) := fun k hk ⟨e1, e2⟩ => by have := hge e1; have := hlt2 e1; omega
      have hb4' : slN v4 = false → w1.heap.size ≤ slB v4 ∧ slB v4 ≠ w2.heap.size := fun hn => by
        rcases hb4 hn with ⟨e1, e2⟩ | hb
        · have := hge e1; have := hlt2 e1; omega
        · omega
      obtain ⟨a4, c4, rfl⟩ := own_val ho4
      have r4 := r3.mod hM4 (nS _ (.inr rfl))
      have ob4 := (ob2.ext a3).mod hM4 (nS _ (.inl (by omega)))
      have hr4' := hr4
      rw [hv2] at hr4'
      have ne : ¬ (w.heap.size + 1 + 1 = w2.heap.size) := by omega
      simp [hr4', r4.c0, r4.c1, r4.f0, ob4.c0, ob4.c1, ob4.f0, ob4.f1, cell_setCell, ne]
      have mAll : Mod (fun k => k = w2.heap.size ∨ k = w.heap.size + 1 + 1) W4 (((W4.setCell ⟨w2.heap.size, 0, none⟩ (.slice a4 ((mdel s n).length + 1) c4)).setCell ⟨w.heap.size + 1 + 1, 0, none⟩ (.slice a4 ((mdel s n).length + 1) c4)).setCell ⟨w.heap.size + 1 + 1, 1, none⟩ (i64 most)) :=
        (((Mod.refl (fun k => k = w2.heap.size ∨ k = w.heap.size + 1 + 1) W4).setCell ⟨w2.heap.size, 0, none⟩ _ (.inl (.inl rfl))).setCell ⟨w.heap.size + 1 + 1, 0, none⟩ _ (.inl (.inr rfl))).setCell ⟨w.heap.size + 1 + 1, 1, none⟩ _ (.inl (.inr rfl))
      refine ⟨?_, ?_, ?_⟩
      · have := sl_of_own (own_keep ho4 fun hn hl => mAll.blk _ hl (by have := hb4' hn; omega))
        show Sl _ 7 _ _ _
        simpa using this
      · refine .inr fun hn => ?_
        obtain ⟨cc, hc⟩ := own_obj ho4 hn
        have h1 := (Array.getElem?_eq_some_iff.1 hc).1
        have h2 := (hb4' hn).1
        have e : slB (Value.slice a4 ((mdel s n).length + 1) c4) = slB (Value.slice a4 ((mdel s n).length + [((q.1, tn, q.2.2) : Wt)].length) c4) := rfl
        have hz : ((((W4.setCell ⟨w2.heap.size, 0, none⟩ (.slice a4 ((mdel s n).length + 1) c4)).setCell ⟨w.heap.size + 1 + 1, 0, none⟩ (.slice a4 ((mdel s n).length + 1) c4)).setCell ⟨w.heap.size + 1 + 1, 1, none⟩ (i64 most))).heap.size = W4.heap.size := by simp
        rw [hz, e]
        exact ⟨by omega, h1⟩
      · exact (((hEa.trans a3).mod (S := fun k => w.heap.size ≤ k)).trans ((hM4.weaken fun k hk => by have := hge hk.1; omega).trans (mAll.weaken fun k hk => by omega))).ext fun _ h => h
    · rw [he]
      have hmv : moved s n tn = s := by unfold moved; rw [if_neg (by rw [he]; exact hd)]
      rw [hmv]
      rw [if_neg hd] at h2 hv2
      simp [hd, hv2, hvd, bx2.c0, bx2.c1, ob2.c0, ob2.c1, ob2.f0, ob2.f1, cell_setCell]
      have a2 := hEa.trans (((Ext.refl w2).alloc (.cells #[.slice a' s.length c', i64 most] 46)).alloc (.cells #[u32 (dropV s n).1.1, u32 (dropV s n).1.2.1, u64 (dropV s n).1.2.2.1, u32 (dropV s n).1.2.2.2, u32 (dropV s n).2.1, i64 (dropV s n).2.2.1, i64 (dropV s n).2.2.2] 30))
      exact ⟨Sl.ext h' (fin _ _ _ a2), .inl rfl, fin _ _ _ a2⟩
end Go.Proofs
namespace Go.Proofs
open Pk
set_option maxRecDepth 10000
theorem all_c2 {w : World} {l Rq Rw : Nat} {M : MQ} {N : MN} {s : List Wt} {most : Int} (h : LineAt w l Rq Rw M N s most) (hbd : s.length ≤ 300000) (nd : Int) :
    FN Try.prog 21 [ptr l, u32 nd] w fun e w' => ∃ b v, e = .returned (.func (.func 54) #[] #[ptr b]) ∧ Var w' b v ∧ WSl w' v (allOf s nd) ∧ Ext w w' ∧ w.heap.size ≤ b ∧ (slN v = false → w.heap.size ≤ slB v ∧ slB v < w'.heap.size) := by
  refine FN_enter Try.func21 rfl rfl (by kernel_rfl) ?_
  simp
  refine FN.mono (list_c h hbd nd) ?_
  rintro _ w1 ⟨v, rfl, ho, hE⟩
  simp
  obtain ⟨a, c, rfl⟩ := own_val ho
  simp
  have hE1 := (Ext.refl w1).alloc (.cells #[.slice a (allOf s nd).length c] 22)
  refine ⟨_, Var.new w1 _ _, (sl_of_own ho).ext hE1, hE.trans hE1, hE.size, fun hn => ⟨own_ge ho hn, ?_⟩⟩
  obtain ⟨cc, hc⟩ := own_obj ho hn
  have := (Array.getElem?_eq_some_iff.1 hc).1
  have := hE1.size
  omega
set_option maxHeartbeats 2000000 in
theorem lall_c {w : World} {l Rq Rw : Nat} {M : MQ} {N : MN} {s : List Wt} {most : Int} {v : Value} (h : LineAt w l Rq Rw M N s most) (hs : WSl w v s) (mo node many : Int) (hb : s.length ≤ 1000) :
    FN Try.prog 46 [ptr l, rlV v mo, u32 node, i64 many] w fun e w' => e = .returned (.bool true) ∧ Ext w w' := by
  refine FN_enter Try.func46 rfl rfl (by kernel_rfl) ?_
  simp
  have hE1 : Ext w (((w.alloc (.cells #[v, i64 mo] 46)).alloc (.cells #[i64 many] 3)).alloc (.cells #[.bool false] 4)) := (((Ext.refl w).alloc _).alloc _).alloc _
  have hbx : RAt (((w.alloc (.cells #[v, i64 mo] 46)).alloc (.cells #[i64 many] 3)).alloc (.cells #[.bool false] 4)) w.heap.size v mo := (RAt.new w v mo).ext (((Ext.refl _).alloc _).alloc _)
  have vm : Var (((w.alloc (.cells #[v, i64 mo] 46)).alloc (.cells #[i64 many] 3)).alloc (.cells #[.bool false] 4)) (w.heap.size + 1) (i64 many) := by
    have := (Var.new (w.alloc (.cells #[v, i64 mo] 46)) (i64 many) 3).ext ((Ext.refl _).alloc (.cells #[.bool false] 4))
    simpa using this
  have vr : Var (((w.alloc (.cells #[v, i64 mo] 46)).alloc (.cells #[i64 many] 3)).alloc (.cells #[.bool false] 4)) (w.heap.size + 1 + 1) (.bool false) := by
    have := Var.new ((w.alloc (.cells #[v, i64 mo] 46)).alloc (.cells #[i64 many] 3)) (.bool false) 4
    simpa using this
  have z1 : (((w.alloc (.cells #[v, i64 mo] 46)).alloc (.cells #[i64 many] 3)).alloc (.cells #[.bool false] 4)).heap.size = w.heap.size + 1 + 1 + 1 := by simp
  generalize (((w.alloc (.cells #[v, i64 mo] 46)).alloc (.cells #[i64 many] 3)).alloc (.cells #[.bool false] 4)) = w1 at *
  refine FN.mono (rall_c (hs.ext hE1) mo node hb) ?_
  rintro _ w2 ⟨u, rfl, hu, hE2⟩
  obtain ⟨ua, uc, rfl⟩ := own_val hu
  have husl := sl_of_own hu
  simp
  have a2 : Ext w2 ((w2.alloc (.cells #[.slice ua (allOf s node).length uc] 22)).alloc (.cells #[i64 0] 3)) := ((Ext.refl w2).alloc _).alloc _
  have vu : Var ((w2.alloc (.cells #[.slice ua (allOf s node).length uc] 22)).alloc (.cells #[i64 0] 3)) w2.heap.size (.slice ua (allOf s node).length uc) := (Var.new w2 _ _).ext ((Ext.refl _).alloc _)
  have vn : Var ((w2.alloc (.cells #[.slice ua (allOf s node).length uc] 22)).alloc (.cells #[i64 0] 3)) (w2.heap.size + 1) (i64 0) := by
    have := Var.new (w2.alloc (.cells #[.slice ua (allOf s node).length uc] 22)) (i64 0) 3
    simpa using this
  have z2 : ((w2.alloc (.cells #[.slice ua (allOf s node).length uc] 22)).alloc (.cells #[i64 0] 3)).heap.size = w2.heap.size + 1 + 1 := by simp
  generalize ((w2.alloc (.cells #[.slice ua (allOf s node).length uc] 22)).alloc (.cells #[i64 0] 3)) = w3 at *
  have hE13 := hE2.trans a2
  refine FN.mono (all_c (h.ext (hE1.trans hE13)) (by omega) node) ?_
  rintro _ w4 ⟨ab0, av0, rfl, -, -, hE4, -, -⟩
  simp
  have hE14 := hE13.trans hE4
  refine FN.mono (all_c2 (h.ext (hE1.trans hE14)) (by omega) node) ?_
  rintro _ w5 ⟨ab, av, rfl, hvA, hsA, hE5, hab, hav⟩
  simp
  have hE35 := hE4.trans hE5
  have hE15 := hE13.trans hE35
  have us5 := husl.ext (a2.trans hE35)
  have vu5 := vu.ext hE35
  have vn5 := vn.ext hE35
  have vm5 := vm.ext hE15
  have vr5 := vr.ext hE15
  have s2 := hE2.size
  have s4 := hE4.size
  have s5 := hE5.size
  obtain ⟨bn, hbn⟩ : ∃ bn, bn = w2.heap.size + 1 := ⟨_, rfl⟩
  rw [← hbn] at vn5 ⊢
  have hal : (allOf s node).length ≤ 3 * s.length := acc_len s node 3
  have fin : ∀ (C : Nat → Prop) (W : World) (k : Nat), Mod (fun k => k = bn) w5 W → Ext w W := fun C W k hM => ((((hE1.trans hE15).mod (S := fun k => w.heap.size ≤ k)).trans (hM.weaken fun k hk => by omega))).ext fun _ h => h
  refine WC_rangeFuncA (gf := 54) (first := #[]) (caps := #[ptr ab]) (enc := fun x => [wtV x]) (by simp) (fun _ _ => callFunc_enter Try.func54 rfl rfl _ _) (all_it hvA hsA (by omega)) (fun x => rfl) (fun k => k = bn)
    (fun C pre W => Var W bn (i64 pre.length) ∧ (∀ k, C k ↔ k = bn) ∧ Mod (fun k => k = bn) w5 W ∧ (pre ≠ [] → (pre.length : Int) < many))
    (fun c C pre W => c = .exit 0 ∧ Var W bn (i64 pre.length) ∧ many ≤ pre.length ∧ ((pre.length : Int) - 1 < many ∨ pre.length = 1) ∧ Mod (fun k => k = bn) w5 W ∧ (∀ k, C k ↔ k = bn))
    (fun k hk => ?_) (fun k hk => by omega) ?_ ?_ ⟨vn5, fun _ => Iff.rfl, Mod.refl _ _, fun h => (h rfl).elim⟩ (fun x B ρ' W' => ∃ b, ρ' 11 = ptr b ∧ B ≤ b ∧ WtAt W' b x ∧ ρ' 7 = ptr (w.heap.size + 1) ∧ ρ' 8 = ptr (w.heap.size + 1 + 1) ∧ ρ' 9 = ptr w2.heap.size ∧ ρ' 10 = ptr bn)
    ?_ ?_ ?_ ?_ ?_
  · rcases hk with rfl | ⟨hn, rfl⟩
    · exact ⟨hvA.lt, by omega⟩
    · have h1 := hav hn
      exact ⟨h1.2, by omega⟩
  · rintro C pre W W' ⟨h1, h2, h3, h4⟩ hag
    exact ⟨h1.agr hag (.inr ((h2 _).2 rfl)), h2, h3.agr_old hag, h4⟩
  · rintro c C pre W W' ⟨h0, h1, h2, h3, h4, h5⟩ hag
    exact ⟨h0, h1.agr hag (.inr ((h5 _).2 rfl)), h2, h3, h4.agr_old hag, h5⟩
  · rintro x B ρ' W W' ⟨b, h1, h2, h3, h4⟩ hag
    exact ⟨b, h1, h2, h3.agr hag h2, h4⟩
  · intro lp x W
    simp [hbn]
    exact ⟨(Ext.refl W).alloc _, WtAt.new W x 30⟩
  · rintro lp C pre y B ρ' W hsp ⟨h1, h2, h3, h4⟩ hl1 hl2 - hBW ⟨b, e11, hB, hy, e7, e8, e9, e10⟩
    obtain ⟨_, suf, hsuf⟩ := hsp
    have hql : pre.length < (allOf s node).length := by rw [hsuf]; simp
    have hxq : (allOf s node)[pre.length]? = some y := by rw [hsuf]; simp
    have usW : WSl W (.slice ua (allOf s node).length uc) (allOf s node) := us5.mod h3 (by
      have hn := own_nil hu (by omega)
      obtain ⟨cc, hc⟩ := own_obj hu hn
      have := (Array.getElem?_eq_some_iff.1 hc).1
      omega)
    have hd := Ext.drew W
    have rr := (WSl.row usW hxq).ext hd
    have ixu := WSl.index usW pre.length hql W.drew
    have lenu := fun ty W' => usW.isLen (P := Try.prog) (t := 22) (by simp) ty W'
    have hyd := hy.ext hd
    have vud := (vu5.mod h3 (by omega)).ext hd
    have vnd := h1.ext hd
    refine WC_drawQ 12 rfl (by kernel_rfl) ?_
    have hnl : ¬ (allOf s node).length ≤ pre.length := by omega
    have hyy : wtB y y = true := wtB_t rfl
    simp [e9, e10, e11, vud.cell, vnd.cell, lenu, hnl, ixu, rr.c0, rr.c1, rr.c2, rr.c3, rr.c4, rr.c5, rr.c6, hyd.c0, hyd.c1, hyd.c2, hyd.c3, hyd.c4, hyd.c5, hyd.c6, hyy]
    have q1 : IntKind.i64.wrap ((pre.length : Int) + 1) = (pre.length : Int) + 1 := wrap64 _ (by omega) (by omega)
    rw [q1]
    have hset := vnd.set (i64 ((pre.length : Int) + 1))
    have m1 := (Mod.refl (fun k => k = bn) W.drew).setC 0 (i64 ((pre.length : Int) + 1))
    have vmd := ((vm5.mod h3 (by omega)).ext hd).mod m1 (by omega)
    have ht := vnd.thaw
    simp at ht
    obtain ⟨W3, hW3⟩ : ∃ W3, W3 = W.drew.setCell ⟨bn, 0, none⟩ (i64 ((pre.length : Int) + 1)) := ⟨_, rfl⟩
    rw [← hW3] at hset m1 vmd
    have hMW := hd.mod.trans m1
    have hl1 : (((pre ++ [y]).length : Nat) : Int) = (pre.length : Int) + 1 := by simp
    by_cases hz : many ≤ (pre.length : Int) + 1
    · simp [ht, ← hW3, e7, e10, hset.cell, vmd.cell, hz]
      refine ⟨C, ⟨hset, ?_, h3.trans hMW, h2⟩, Own.of_mod (hMW.weaken fun k hk => (h2 k).2 hk)⟩
      by_cases hp : pre = []
      · right; exact hp
      · left; exact h4 hp
    · simp [ht, ← hW3, e7, e10, hset.cell, vmd.cell, hz]
      exact ⟨C, ⟨hset, h2, h3.trans hMW, by omega⟩, Own.of_mod (hMW.weaken fun k hk => (h2 k).2 hk)⟩
  · rintro C xs W rfl ⟨h1, h2, h3, h4⟩ hD
    have vuW := vu5.mod h3 (by omega)
    have vmW := vm5.mod h3 (by omega)
    have vrW := vr5.mod h3 (by omega)
    have hmn : ((allOf s node).length : Int) = min ((allOf s node).length : Int) (max 1 many) := by
      by_cases h0 : allOf s node = []
      · rw [h0]; simp; omega
      · have := h4 h0; omega
    have lenu := fun ty W' => us5.isLen (P := Try.prog) (t := 22) (by simp) ty W'
    simp [h1.cell, vuW.cell, vmW.cell, lenu, ← hmn, vrW.cell, vrW.thaw]
    have vrS := vrW.set (.bool true)
    have mS := (Mod.refl (fun k => k = w.heap.size + 1 + 1) W).setC 0 (.bool true)
    refine LV_mark (mS.obj hD (by omega)) (by simp) ?_
    have hP := Mod.putObj (w := W.setCell ⟨w.heap.size + 1 + 1, 0, none⟩ (.bool true)) w5.heap.size (.deferred none)
    have vf := vrS.mod hP (by omega)
    simp [vf.cell]
    exact (((((hE1.trans hE15).mod (S := fun k => w.heap.size ≤ k)).trans (h3.weaken fun k hk => by omega)).trans (mS.weaken fun k hk => by omega)).trans (hP.weaken fun k hk => by omega)).ext fun _ h => h
  · rintro c C pre W hsp ⟨rfl, h1, h2, h3, h4, h5⟩ hD
    have vuW := vu5.mod h4 (by omega)
    have vmW := vm5.mod h4 (by omega)
    have vrW := vr5.mod h4 (by omega)
    obtain ⟨hne, suf, hsuf⟩ := hsp
    have hql : pre.length ≤ (allOf s node).length := by rw [hsuf]; simp
    have hq0 : 0 < pre.length := List.length_pos_iff.2 hne
    have hmn : (pre.length : Int) = min ((allOf s node).length : Int) (max 1 many) := by omega
    have lenu := fun ty W' => us5.isLen (P := Try.prog) (t := 22) (by simp) ty W'
    simp [h1.cell, vuW.cell, vmW.cell, lenu, ← hmn, vrW.cell, vrW.thaw]
    have vrS := vrW.set (.bool true)
    have mS := (Mod.refl (fun k => k = w.heap.size + 1 + 1) W).setC 0 (.bool true)
    refine LV_mark (mS.obj hD (by omega)) (by simp) ?_
    have hP := Mod.putObj (w := W.setCell ⟨w.heap.size + 1 + 1, 0, none⟩ (.bool true)) w5.heap.size (.deferred none)
    have vf := vrS.mod hP (by omega)
    simp [vf.cell]
    exact (((((hE1.trans hE15).mod (S := fun k => w.heap.size ≤ k)).trans (h4.weaken fun k hk => by omega)).trans (mS.weaken fun k hk => by omega)).trans (hP.weaken fun k hk => by omega)).ext fun _ h => h
end Go.Proofs
