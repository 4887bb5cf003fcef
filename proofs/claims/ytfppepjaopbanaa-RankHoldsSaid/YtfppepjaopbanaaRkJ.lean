/-
  Contracts of the functions that the law reaches, step by step.
-/
import Derived.Test.YtfppepjaopbanaaRkI
import Derived.Test.YtfppepjaopbanaaEngT
namespace Go.Proofs
open Pk
set_option maxRecDepth 10000
theorem fld0 (a b : Int) (W : World) : (Instr.field 80 (.agg #[.int .u32 a, .int .i64 b]) 0).run Try.prog W = .ok (u32 a) W := by
  simp [Instr.field]
  have h1 := run_part_flat (P := Try.prog) W (n := 3) (e := 23) (l := [.int .u32]) (by kernel_rfl) (by kernel_rfl) #[.int .u32 a, .int .i64 b] 0 (by simp)
  have h2 : aggT Try.prog 23 = false := by kernel_rfl
  rw [h1]
  simp [mkV, h2]
theorem WtAt.agr {w w' : World} {b : Nat} {x : Wt} {S : Nat → Prop} (h : WtAt w b x) (hA : Agr S w w') (hs : S b) : WtAt w' b x := ⟨hA.cell h.c0 hs, hA.cell h.c1 hs, hA.cell h.c2 hs, hA.cell h.c3 hs, hA.cell h.c4 hs, hA.cell h.c5 hs, hA.cell h.c6 hs⟩
theorem idx_at {pre suf : List Wt} {y : Wt} {n : Nm} (h : noNm pre n) (hy : y.1 = n) : (pre ++ y :: suf).findIdx? (fun z => decide (z.1 = n)) = some pre.length := by
  rw [List.findIdx?_eq_some_iff_getElem]
  refine ⟨by simp, by simp [hy], fun j hj => ?_⟩
  rw [List.getElem_append_left hj]
  simpa using h _ (List.getElem_mem hj)
def getI (s : List Wt) (n : Nm) : Nat := ((allOf s ((findN s n).getD zW).2.1).findIdx? (fun y => decide (y.1 = n))).getD 0
theorem mem_allOf {s : List Wt} {nd : Int} {y : Wt} : y ∈ allOf s nd ↔ y ∈ s ∧ y.2.1 = nd ∧ (y.2.2.1 = 2 ∨ y.2.2.1 = 1 ∨ y.2.2.1 = 0) := by
  simp only [allOf, qof, quOf, List.mem_append, List.mem_filter, decide_eq_true_eq, Prod.mk.injEq]
  constructor
  · rintro ((h | h) | h)
    · exact ⟨h.1, h.2.1, .inl h.2.2⟩
    · exact ⟨h.1, h.2.1, .inr (.inl h.2.2)⟩
    · exact ⟨h.1, h.2.1, .inr (.inr h.2.2)⟩
  · rintro ⟨h1, h2, h | h | h⟩
    · exact .inl (.inl ⟨h1, h2, h⟩)
    · exact .inl (.inr ⟨h1, h2, h⟩)
    · exact .inr ⟨h1, h2, h⟩
def ranked (s : List Wt) : Prop := ∀ y ∈ s, y.2.2.1 = 2 ∨ y.2.2.1 = 1 ∨ y.2.2.1 = 0
theorem setZ7 {W : World} {b : Nat} (h : W.heap[b]? = some (.cells #[u32 0, u32 0, u64 0, u32 0, u32 0, i64 0, i64 0] 30 (0, 0))) : (∀ j u, (#[u32 0, u32 0, u64 0, u32 0, u32 0, i64 0, i64 0] : Array Value)[j]? = some u → W.cell? ⟨b, j, none⟩ = some u) ∧ ∀ j, W.frozen? ⟨b, j, none⟩ = false :=
  ⟨fun j u hj => by simpa [World.cell?, h] using hj, fun j => by simp [World.frozen?, h]⟩
set_option maxHeartbeats 2000000 in
theorem get_c {w : World} {l Rq Rw : Nat} {M : MQ} {N : MN} {s : List Wt} {most : Int} (h : LineAt w l Rq Rw M N s most) (hbd : s.length ≤ 300000) (hrk : ranked s) (n : Nm) :
    FN Try.prog 18 [ptr l, nmV n] w fun e w' => e = .returned (.tuple #[wtV (dropV s n), i64 (if dropE s n = 0 then (getI s n : Int) else 0), i64 (dropE s n)]) ∧ Ext w w' := by
  refine FN_enter Try.func18 rfl rfl (by kernel_rfl) ?_
  simp
  have hE1 : Ext w ((((w.alloc (.cells #[u32 n.1, u32 n.2.1, u64 n.2.2.1, u32 n.2.2.2] 28)).alloc (.cells #[u32 0, u32 0, u64 0, u32 0, u32 0, i64 0, i64 0] 30)).alloc (.cells #[i64 0] 3)).alloc (.cells #[i64 0] 33)) := ((((Ext.refl w).alloc _).alloc _).alloc _).alloc _
  have hn1 : NmAt ((((w.alloc (.cells #[u32 n.1, u32 n.2.1, u64 n.2.2.1, u32 n.2.2.2] 28)).alloc (.cells #[u32 0, u32 0, u64 0, u32 0, u32 0, i64 0, i64 0] 30)).alloc (.cells #[i64 0] 3)).alloc (.cells #[i64 0] 33)) w.heap.size n := (NmAt.new w n 28).ext ((((Ext.refl _).alloc _).alloc _).alloc _)
  have hob : ((((w.alloc (.cells #[u32 n.1, u32 n.2.1, u64 n.2.2.1, u32 n.2.2.2] 28)).alloc (.cells #[u32 0, u32 0, u64 0, u32 0, u32 0, i64 0, i64 0] 30)).alloc (.cells #[i64 0] 3)).alloc (.cells #[i64 0] 33)).heap[w.heap.size + 1]? = some (.cells #[u32 0, u32 0, u64 0, u32 0, u32 0, i64 0, i64 0] 30 (0, 0)) := by
    have := (((Ext.refl _).alloc (.cells #[i64 0] 3)).alloc (.cells #[i64 0] 33)).obj (World.alloc_heap_new (w.alloc (.cells #[u32 n.1, u32 n.2.1, u64 n.2.2.1, u32 n.2.2.2] 28)) (.cells #[u32 0, u32 0, u64 0, u32 0, u32 0, i64 0, i64 0] 30 (0, 0)))
    simpa using this
  have v5 : Var ((((w.alloc (.cells #[u32 n.1, u32 n.2.1, u64 n.2.2.1, u32 n.2.2.2] 28)).alloc (.cells #[u32 0, u32 0, u64 0, u32 0, u32 0, i64 0, i64 0] 30)).alloc (.cells #[i64 0] 3)).alloc (.cells #[i64 0] 33)) (w.heap.size + 1 + 1) (i64 0) := by
    have := (Var.new ((w.alloc (.cells #[u32 n.1, u32 n.2.1, u64 n.2.2.1, u32 n.2.2.2] 28)).alloc (.cells #[u32 0, u32 0, u64 0, u32 0, u32 0, i64 0, i64 0] 30)) (i64 0) 3).ext ((Ext.refl _).alloc (.cells #[i64 0] 33))
    simpa using this
  have v6 : Var ((((w.alloc (.cells #[u32 n.1, u32 n.2.1, u64 n.2.2.1, u32 n.2.2.2] 28)).alloc (.cells #[u32 0, u32 0, u64 0, u32 0, u32 0, i64 0, i64 0] 30)).alloc (.cells #[i64 0] 3)).alloc (.cells #[i64 0] 33)) (w.heap.size + 1 + 1 + 1) (i64 0) := by
    have := Var.new (((w.alloc (.cells #[u32 n.1, u32 n.2.1, u64 n.2.2.1, u32 n.2.2.2] 28)).alloc (.cells #[u32 0, u32 0, u64 0, u32 0, u32 0, i64 0, i64 0] 30)).alloc (.cells #[i64 0] 3)) (i64 0) 33
    simpa using this
  have hsz : ((((w.alloc (.cells #[u32 n.1, u32 n.2.1, u64 n.2.2.1, u32 n.2.2.2] 28)).alloc (.cells #[u32 0, u32 0, u64 0, u32 0, u32 0, i64 0, i64 0] 30)).alloc (.cells #[i64 0] 3)).alloc (.cells #[i64 0] 33)).heap.size = w.heap.size + 1 + 1 + 1 + 1 := by simp
  generalize ((((w.alloc (.cells #[u32 n.1, u32 n.2.1, u64 n.2.2.1, u32 n.2.2.2] 28)).alloc (.cells #[u32 0, u32 0, u64 0, u32 0, u32 0, i64 0, i64 0] 30)).alloc (.cells #[i64 0] 3)).alloc (.cells #[i64 0] 33)) = w1 at *
  refine WC_drawC 6 (.F 0 <| .F 2 <| .F 4 <| .F 5 <| .C 1 <| .C 3 <| .Z) (fun _ => false) rfl (by kernel_rfl) fun W hW => ?_
  have hWE : Ext w1 W := hW ▸ Ext.drew _
  have hn2 := hn1.ext hWE
  simp [hn2.c0, hn2.c1, hn2.c2, hn2.c3]
  refine FN.mono (is_c l W) ?_
  rintro _ W1 ⟨rfl, hE2⟩
  simp
  refine KR_ext hE2 ?_
  simp
  refine FN.mono (right_c n W1) ?_
  rintro _ W2 ⟨rb, rfl, hr, hE3⟩
  simp
  refine KR_ext hE3 ?_
  simp
  refine FN.mono (waits_c l n W2) ?_
  rintro _ W3 ⟨b0, b1, rfl, hv0, hnb, hE4⟩
  simp
  have hE41 := ((hWE.trans hE2).trans hE3).trans hE4
  let qs : List Qn := [⟨.func (.func 32) #[ptr l] #[], 1, false⟩, ⟨.func (.func 55) #[] #[ptr rb], 2, badN n⟩, ⟨.func (.func 60) #[] #[ptr b0, ptr b1], 5, (findN s n).isNone⟩]
  have hsl := Sl.made W3 (askCells qs) 73 2 3 rfl
  have hE5 := (Ext.refl W3).alloc (.cells (askCells qs).toArray 73)
  refine asked_go (w0 := W3) qs hsl (by simp [qs]) ?_ hE5 ?_ ?_
  · intro q hq
    simp [qs] at hq
    rcases hq with rfl | rfl | rfl <;> exact ⟨_, _, _, rfl⟩
  · intro i q hq hno w' hw'
    have hx := hE41.trans hw'
    match i, hq with
    | 0, hq =>
      simp [qs] at hq; subst hq
      exact FN.mono (none_c (h.ext (hE1.trans hx))) fun _ _ h => ⟨h.1, h.2 ▸ Ext.refl _⟩
    | 1, hq =>
      simp [qs] at hq; subst hq
      exact rightF_c (hr.ext (hE4.trans hw'))
    | 2, hq =>
      simp [qs] at hq; subst hq
      exact waitsF_c (h.ext (hE1.trans hx)) (hv0.ext hw') (hnb.ext hw')
    | i + 3, hq => simp [qs] at hq
  · intro w4 hw4
    have hX := hE41.trans hw4
    have hE : askE qs = dropE s n := by
      simp [qs, askE, dropE]
    rw [hE]
    have h4 := h.ext (hE1.trans hX)
    have hn4 := hn1.ext hX
    have ho4 := hX.obj hob
    have v54 := v5.ext hX
    have v64 := v6.ext hX
    have hlt := h.lt
    have hs1 := hX.size
    by_cases h0 : dropE s n = 0
    · obtain ⟨x, hx⟩ := dropped h0
      have hxs := findN_some hx
      simp [h0]
      have hE6 := (Ext.refl w4).alloc (.cells #[i64 0] 3)
      have v8 := Var.new w4 (i64 0) 3
      obtain ⟨b8, hb8⟩ : ∃ b8, b8 = w4.heap.size := ⟨_, rfl⟩
      obtain ⟨w5, hw5⟩ : ∃ w5, w5 = w4.alloc (.cells #[i64 0] 3) := ⟨_, rfl⟩
      have z5 : w5.heap.size = b8 + 1 := by rw [hw5, hb8]; simp
      rw [← hb8, ← hw5] at v8 ⊢
      rw [← hw5] at hE6
      refine WC_drawC 8 (.F 0 <| .F 1 <| .F 2 <| .F 3 <| .F 4 <| .F 5 <| .C 6 <| .F 7 <| .Z) (fun _ => false) rfl (by kernel_rfl) fun W6 hW6 => ?_
      have hWE6 : Ext w5 W6 := hW6 ▸ Ext.drew _
      have hE7 := hE6.trans hWE6
      have h7 := h4.ext hE7
      have hn7 := hn4.ext hE7
      simp [h7.c2, hn7.c0, hn7.c1, hn7.c2, hn7.c3, h7.findW, hx]
      refine KR_same ?_
      simp [fld0]
      have hq : (quOf x).1 = x.2.1 := rfl
      rw [hq]
      refine FN.mono (all_c h7 hbd x.2.1) ?_
      rintro _ w8 ⟨ab, av, rfl, hvA, hsA, hE8, hab, hav⟩
      simp
      have hE9 := hE7.trans hE8
      have hn9 := hn4.ext hE9
      have ho9 := hE9.obj ho4
      have v59 := v54.ext hE9
      have v69 := v64.ext hE9
      have v89 := v8.ext (hWE6.trans hE8)
      have hs9 := hE9.size
      have hEw := (hE1.trans hX).trans hE9
      have hs68 := hWE6.size
      have hxA : x ∈ allOf s x.2.1 := mem_allOf.2 ⟨hxs.1, rfl, hrk x hxs.1⟩
      let O : Nat → Prop := fun k => k = b8 ∨ k = w.heap.size + 1 ∨ k = w.heap.size + 1 + 1 ∨ k = w.heap.size + 1 + 1 + 1
      refine WC_rangeFuncA (gf := 54) (first := #[]) (caps := #[ptr ab]) (enc := fun x => [wtV x]) (by simp) (fun _ _ => callFunc_enter Try.func54 rfl rfl _ _) (all_it hvA hsA (by have := qof_len s (x.2.1, 2); have := qof_len s (x.2.1, 1); have := qof_len s (x.2.1, 0); simp [allOf]; omega)) (fun x => rfl) O
        (fun C pre W => Var W b8 (i64 pre.length) ∧ noNm pre n ∧ (∀ k, C k ↔ O k) ∧ Mod O w8 W ∧ W.heap[w.heap.size + 1]? = some (.cells #[u32 0, u32 0, u64 0, u32 0, u32 0, i64 0, i64 0] 30 (0, 0)) ∧ Var W (w.heap.size + 1 + 1) (i64 0) ∧ Var W (w.heap.size + 1 + 1 + 1) (i64 0))
        (fun c C pre W => c = .ret ∧ ∃ y, pre.getLast? = some y ∧ y.1 = n ∧ noNm pre.dropLast n ∧ WtAt W (w.heap.size + 1) y ∧ Var W (w.heap.size + 1 + 1) (i64 (pre.length - 1 : Nat)) ∧ Var W (w.heap.size + 1 + 1 + 1) (i64 0) ∧ (∀ k, C k ↔ O k) ∧ Mod O w8 W)
        (fun k hk => ?_) (fun k hk => ?_) ?_ ?_ ⟨v89, fun _ h => by simp at h, fun _ => Iff.rfl, Mod.refl _ _, ho9, v59, v69⟩ (fun x B ρ' W' => ∃ b, ρ' 9 = ptr b ∧ B ≤ b ∧ WtAt W' b x ∧ ρ' 3 = ptr w.heap.size ∧ ρ' 4 = ptr (w.heap.size + 1) ∧ ρ' 5 = ptr (w.heap.size + 1 + 1) ∧ ρ' 6 = ptr (w.heap.size + 1 + 1 + 1) ∧ ρ' 8 = ptr b8)
        ?_ ?_ ?_ ?_ ?_
      · have hne : allOf s x.2.1 ≠ [] := List.ne_nil_of_mem hxA
        rcases hk with rfl | ⟨hn, rfl⟩
        · exact ⟨hvA.lt, by rintro (e | e | e | e) <;> omega⟩
        · have h1 := hav hn
          refine ⟨hsA.lt ?_, by rintro (e | e | e | e) <;> omega⟩
          rw [flat_len wtC (s := 7) (fun _ => rfl)]
          have := List.length_pos_iff.2 hne
          omega
      · have := hE8.size
        rcases hk with e | e | e | e <;> omega
      · rintro C pre W W' ⟨h1, h2, h3, h4, h5, h6, h7⟩ hag
        exact ⟨h1.agr hag (.inr ((h3 _).2 (.inl rfl))), h2, h3, h4.agr_old hag, hag.obj h5 (.inr ((h3 _).2 (.inr (.inl rfl)))), h6.agr hag (.inr ((h3 _).2 (.inr (.inr (.inl rfl))))), h7.agr hag (.inr ((h3 _).2 (.inr (.inr (.inr rfl)))))⟩
      · rintro c C pre W W' ⟨h1, y, h2, h3, h4, h5, h6, h7, h8, h9⟩ hag
        exact ⟨h1, y, h2, h3, h4, h5.agr hag (.inr ((h8 _).2 (.inr (.inl rfl)))), h6.agr hag (.inr ((h8 _).2 (.inr (.inr (.inl rfl))))), h7.agr hag (.inr ((h8 _).2 (.inr (.inr (.inr rfl))))), h8, h9.agr_old hag⟩
      · rintro x B ρ' W W' ⟨b, h1, h2, h3, h4⟩ hag
        exact ⟨b, h1, h2, h3.agr hag h2, h4⟩
      · intro l x W
        simp
        exact ⟨(Ext.refl W).alloc _, WtAt.new W x 30⟩
      · rintro lp C pre y B ρ' W hsp ⟨h1, h2, h3, h4, h5, h6, h7⟩ hl1 hl2 - hBW ⟨b, e9, hB, hy, e3, e4, e5, e6, e8⟩
        have hnO : ¬ O w.heap.size := by rintro (e | e | e | e) <;> omega
        have hnW := hn9.mod h4 hnO
        have y0 := (setZ7 h5).1
        have yf := (setZ7 h5).2
        have hbn : b < W.heap.size := hy.lt
        simp [e9, e3, hy.c0, hy.c1, hy.c2, hy.c3, hnW.c0, hnW.c1, hnW.c2, hnW.c3]
        by_cases hyn : y.1 = n
        · simp [nmB_t hyn]
          refine WC_drawC 3 (.F 0 <| .F 1 <| .C 2 <| .Z) (fun k => decide (k = w.heap.size + 1)) rfl (by kernel_rfl) fun Wd hWd => ?_
          have hEd : Ext W Wd := hWd ▸ Ext.drew W
          have hyd := hy.ext hEd
          have z0 := (setZ7 (hEd.obj h5)).1
          have zf := (setZ7 (hEd.obj h5)).2
          have X1 : decide (b = w.heap.size + 1) = false := by simp; omega
          have X2 : decide (b8 = w.heap.size + 1) = false := by simp; omega
          simp [e9, e4, e8, hyd.c0, hyd.c1, hyd.c2, hyd.c3, hyd.c4, hyd.c5, hyd.c6, (h1.ext hEd).cell, X1, X2, z0 0 _ rfl, z0 1 _ rfl, z0 2 _ rfl, z0 3 _ rfl, z0 4 _ rfl, z0 5 _ rfl, z0 6 _ rfl, zf, cell_setCell]
          have hx8 : WtAt (((((((Wd.setCell ⟨(w.heap.size + 1), 0, none⟩ (u32 y.1.1)).setCell ⟨(w.heap.size + 1), 1, none⟩ (u32 y.1.2.1)).setCell ⟨(w.heap.size + 1), 2, none⟩ (u64 y.1.2.2.1)).setCell ⟨(w.heap.size + 1), 3, none⟩ (u32 y.1.2.2.2)).setCell ⟨(w.heap.size + 1), 4, none⟩ (u32 y.2.1)).setCell ⟨(w.heap.size + 1), 5, none⟩ (i64 y.2.2.1)).setCell ⟨(w.heap.size + 1), 6, none⟩ (i64 y.2.2.2)) (w.heap.size + 1) y := by refine ⟨?_, ?_, ?_, ?_, ?_, ?_, ?_⟩ <;> simp [z0 0 _ rfl, z0 1 _ rfl, z0 2 _ rfl, z0 3 _ rfl, z0 4 _ rfl, z0 5 _ rfl, z0 6 _ rfl, cell_setCell]
          have hM7 : Mod (fun k => k = w.heap.size + 1) Wd (((((((Wd.setCell ⟨(w.heap.size + 1), 0, none⟩ (u32 y.1.1)).setCell ⟨(w.heap.size + 1), 1, none⟩ (u32 y.1.2.1)).setCell ⟨(w.heap.size + 1), 2, none⟩ (u64 y.1.2.2.1)).setCell ⟨(w.heap.size + 1), 3, none⟩ (u32 y.1.2.2.2)).setCell ⟨(w.heap.size + 1), 4, none⟩ (u32 y.2.1)).setCell ⟨(w.heap.size + 1), 5, none⟩ (i64 y.2.2.1)).setCell ⟨(w.heap.size + 1), 6, none⟩ (i64 y.2.2.2)) := mod7 Wd (w.heap.size + 1) _ _ _ _ _ _ _
          have v5d := (h6.ext hEd).mod hM7 (by omega)
          have v6d := (h7.ext hEd).mod hM7 (by omega)
          refine KR_mk (hM7.agr fun k hk e => by simp [e] at hk) ?_
          generalize (((((((Wd.setCell ⟨(w.heap.size + 1), 0, none⟩ (u32 y.1.1)).setCell ⟨(w.heap.size + 1), 1, none⟩ (u32 y.1.2.1)).setCell ⟨(w.heap.size + 1), 2, none⟩ (u64 y.1.2.2.1)).setCell ⟨(w.heap.size + 1), 3, none⟩ (u32 y.1.2.2.2)).setCell ⟨(w.heap.size + 1), 4, none⟩ (u32 y.2.1)).setCell ⟨(w.heap.size + 1), 5, none⟩ (i64 y.2.2.1)).setCell ⟨(w.heap.size + 1), 6, none⟩ (i64 y.2.2.2)) = Wf at *
          simp [e5, e6, v5d.cell, v5d.thaw, v6d.cell, v6d.thaw, cell_setCell]
          have m5 := (Mod.refl (fun k => k = w.heap.size + 1 + 1) Wf).setC 0 (i64 pre.length)
          have m6 := (Mod.refl (fun k => k = w.heap.size + 1 + 1 + 1) (Wf.setCell ⟨w.heap.size + 1 + 1, 0, none⟩ (i64 pre.length))).setC 0 (i64 0)
          have mO : Mod O W ((Wf.setCell ⟨w.heap.size + 1 + 1, 0, none⟩ (i64 pre.length)).setCell ⟨w.heap.size + 1 + 1 + 1, 0, none⟩ (i64 0)) :=
            hEd.mod.trans ((hM7.weaken fun k hk => .inr (.inl hk)).trans ((m5.weaken fun k hk => .inr (.inr (.inl hk))).trans (m6.weaken fun k hk => .inr (.inr (.inr hk)))))
          refine ⟨C, ⟨hyn, h2, (hx8.mod m5 (by omega)).mod m6 (by omega), (v5d.set _).mod m6 (by omega), (v6d.mod m5 (by omega)).set _, h3, h4.trans mO⟩, Own.of_mod (mO.weaken fun k hk => (h3 k).2 hk)⟩
        · simp [nmB_f hyn, e8, h1.cell, h1.thaw]
          have hw1 : IntKind.i64.wrap ((pre.length : Int) + 1) = (pre.length : Int) + 1 := by
            obtain ⟨_, suf, hsuf⟩ := hsp
            have hl2 := qof_len s (x.2.1, 2)
            have hl1 := qof_len s (x.2.1, 1)
            have hl0 := qof_len s (x.2.1, 0)
            have := congrArg List.length hsuf
            simp [allOf] at this
            exact wrap64 _ (by omega) (by omega)
          rw [hw1]
          have m8 := (Mod.refl (fun k => k = b8) W).setC 0 (i64 ((pre.length : Int) + 1))
          have mO : Mod O W (W.setCell ⟨b8, 0, none⟩ (i64 ((pre.length : Int) + 1))) := m8.weaken fun k hk => .inl hk
          refine ⟨C, ⟨h1.set _, ?_, h3, h4.trans mO, m8.obj h5 (by omega), h6.mod m8 (by omega), h7.mod m8 (by omega)⟩, Own.of_mod (mO.weaken fun k hk => (h3 k).2 hk)⟩
          intro z hz
          rcases List.mem_append.1 hz with hz | hz
          · exact h2 z hz
          · simp at hz; rw [hz]; exact hyn
      · rintro C xs W rfl ⟨h1, h2, h3, h4, -⟩ hD
        exact absurd hxs.2 (h2 x hxA)
      · rintro c C pre W hsp ⟨rfl, y, h2, h3, h4, h5, h6, h7, h8, h9⟩ hD
        simp
        have hP := Mod.putObj (w := W) w8.heap.size (.deferred none)
        refine LV_mark hD (by simp) ?_
        have h5' := h5.mod hP (by omega)
        have h6' := h6.mod hP (by omega)
        have h7' := h7.mod hP (by omega)
        simp [h5'.c0, h5'.c1, h5'.c2, h5'.c3, h5'.c4, h5'.c5, h5'.c6, h6'.cell, h7'.cell]
        obtain ⟨hne, suf, hsuf⟩ := hsp
        have hpy : pre = pre.dropLast ++ [y] := by
          rw [List.getLast?_eq_some_getLast hne] at h2
          cases h2
          exact (List.dropLast_concat_getLast hne).symm
        have hsplit : allOf s x.2.1 = pre.dropLast ++ y :: suf := by
          rw [hsuf]
          conv => lhs; rw [hpy]
          simp
        have hys : y ∈ s := (mem_allOf.1 (show y ∈ allOf s x.2.1 by rw [hsplit]; simp)).1
        have hyx : y = x := uniqN h.nd hys hxs.1 (h3.trans hxs.2.symm)
        have hdv : dropV s n = x := by unfold dropV; rw [if_pos h0, hx]; rfl
        have hgi : getI s n = pre.length - 1 := by
          unfold getI
          rw [hx]
          simp only [Option.getD_some]
          rw [hsplit, idx_at h4 h3]
          simp
        rw [hdv, hgi, hyx]
        refine ⟨by simp, ?_⟩
        exact (((hEw.mod (S := fun k => w.heap.size ≤ k)).trans (h9.weaken fun k hk => by rcases hk with e | e | e | e <;> omega)).trans (hP.weaken fun k hk => by have := hEw.size; omega)).ext fun _ h => h
    · have y0 := (setZ7 ho4).1
      have yf := (setZ7 ho4).2
      simp [h0, y0 0 _ rfl, y0 1 _ rfl, y0 2 _ rfl, y0 3 _ rfl, y0 4 _ rfl, y0 5 _ rfl, y0 6 _ rfl, yf, v54.cell, v54.thaw, v64.cell, v64.thaw, cell_setCell]
      have hdv : dropV s n = zW := by unfold dropV; rw [if_neg h0]
      rw [hdv]
      have hS := (((mod7 w4 (w.heap.size + 1) (u32 0) (u32 0) (u64 0) (u32 0) (u32 0) (i64 0) (i64 0)).weaken (S' := fun k => w.heap.size ≤ k) fun k hk => by omega).setCell ⟨w.heap.size + 1 + 1, 0, none⟩ (i64 0) (.inl (by simp only; omega))).setCell ⟨w.heap.size + 1 + 1 + 1, 0, none⟩ (i64 (dropE s n)) (.inl (by simp only; omega))
      exact ⟨by simp [zW], (((hE1.trans hX).mod (S := fun k => w.heap.size ≤ k)).trans hS).ext fun _ h => h⟩
end Go.Proofs
