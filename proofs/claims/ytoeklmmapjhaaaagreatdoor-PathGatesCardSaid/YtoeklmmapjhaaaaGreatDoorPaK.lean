/-
  Contracts of the functions that the law reaches, step by step.
-/
import Derived.Test.YtoeklmmapjhaaaaGreatDoorPaI
import Derived.RecoverIn
namespace Go.Proofs
open Pk
set_option maxRecDepth 10000
/-- Behind a function that has not given up. -/
theorem caught_idle (a b : Value) (w : World) : CallsDIn (FR none) 0 Tryz.prog 31 #[a, b] .returning w fun e u' w' => (∃ v, e = .returned v) ∧ u' = .returning ∧ w' = w := by
  refine callsDIn_of_wpSIn Tryz.func31 rfl trivial fun c₀ cs hu => ?_
  apply wpSIn_seq
  apply wpSIn_region
  simp [wpOpsSIn, go_sem, recoverD, hu, Exit.thenS]
  apply wpSIn_seq
  apply wpSIn_region
  simp [wpOpsSIn, go_sem, Act.eval, Array.replicate, Exit.thenS]
  refine wpSIn_cond (t := false) (by simp [Act.eval]) ?_
  simp only [Bool.false_eq_true, if_false]
  refine wpSIn_of_wpIn rfl (wpIn_skip ?_)
  cases c₀
  simp_all [bodyPostS, results]
theorem LV_caught {rs : Array ResultVar} {R : Ending → World → Prop} {ρ : Env} {ds : List Deferred} {w : World} {a b : Value} (h : LV Tryz.prog rs R ρ ds .returning w) :
    LV Tryz.prog rs R ρ ({ target := .fn (.func 31) #[], args := #[a, b] } :: ds) .returning w := by
  refine ⟨by simp, .inr ⟨.func 31, #[], 31, #[a, b], rfl, ?_, ?_⟩⟩
  · have := callFunc_enter Tryz.func31 rfl rfl #[a, b] w
    simp [invoke]
  · refine (caught_idle a b w).mono ?_
    rintro e u' w' ⟨⟨v, rfl⟩, rfl, rfl⟩
    exact h
theorem encode_c {t : It} {bs : List Int} (hf : Fine t) (hd : DepLe 8 t) (hw : Wr t bs) (hb : bs.length ≤ 65536) {w : World} {cs : List Value} (ht : ItC w t cs) :
    FN Tryz.prog 11 [.agg cs.toArray] w fun e w' => ∃ v, e = .returned (.tuple #[v, i64 0]) ∧ Sl w' 1 v bs.length (bs.map u8) ∧ Ext w w' := by
  obtain ⟨a, m, c, a', m', c', rfl⟩ := itC_form ht
  refine FN_enter Tryz.func11 rfl rfl (by kernel_rfl) ?_
  simp
  have hE1 : Ext w (((w.alloc (.cells #[i64 t.k, u64 t.n, .slice a m c, .string t.s, .slice a' m' c'] 46)).alloc (.cells #[.slice none 0 0] 43)).alloc (.cells #[i64 0] 38)) := (((Ext.refl w).alloc _).alloc _).alloc _
  have x1 : ItBx (((w.alloc (.cells #[i64 t.k, u64 t.n, .slice a m c, .string t.s, .slice a' m' c'] 46)).alloc (.cells #[.slice none 0 0] 43)).alloc (.cells #[i64 0] 38)) w.heap.size t.k t.n (.slice a m c) t.s (.slice a' m' c') := (ItBx.new w _ _ _ _ _ 46).ext (((Ext.refl _).alloc _).alloc _)
  have v1 : Var (((w.alloc (.cells #[i64 t.k, u64 t.n, .slice a m c, .string t.s, .slice a' m' c'] 46)).alloc (.cells #[.slice none 0 0] 43)).alloc (.cells #[i64 0] 38)) (w.heap.size + 1) (.slice none 0 0) := by
    have := (Var.new (w.alloc (.cells #[i64 t.k, u64 t.n, .slice a m c, .string t.s, .slice a' m' c'] 46)) (.slice none 0 0) 43).ext ((Ext.refl _).alloc (.cells #[i64 0] 38))
    simpa using this
  have v2 : Var (((w.alloc (.cells #[i64 t.k, u64 t.n, .slice a m c, .string t.s, .slice a' m' c'] 46)).alloc (.cells #[.slice none 0 0] 43)).alloc (.cells #[i64 0] 38)) (w.heap.size + 1 + 1) (i64 0) := by
    have := Var.new ((w.alloc (.cells #[i64 t.k, u64 t.n, .slice a m c, .string t.s, .slice a' m' c'] 46)).alloc (.cells #[.slice none 0 0] 43)) (i64 0) 38
    simpa using this
  have z1 : (((w.alloc (.cells #[i64 t.k, u64 t.n, .slice a m c, .string t.s, .slice a' m' c'] 46)).alloc (.cells #[.slice none 0 0] 43)).alloc (.cells #[i64 0] 38)).heap.size = w.heap.size + 1 + 1 + 1 := by simp
  generalize (((w.alloc (.cells #[i64 t.k, u64 t.n, .slice a m c, .string t.s, .slice a' m' c'] 46)).alloc (.cells #[.slice none 0 0] 43)).alloc (.cells #[i64 0] 38)) = w1 at *
  refine FN.mono (cright_c hf (ht.ext hE1)) ?_
  rintro _ w2 ⟨⟨u, rfl⟩, hE2⟩
  have x2 := x1.ext hE2
  simp [x2.c0, x2.c1, x2.c2, x2.c3, x2.c4]
  refine FN.mono (depth_c 8 t (by omega) hd w2 _ (ht.ext (hE1.trans hE2))) ?_
  rintro _ w3 ⟨dd, rfl, hd1, hd2, hE3⟩
  have hd8 : dd ≤ 8 := by simpa using hd2
  simp [hd8]
  refine FN.mono (must_c 120 w3) ?_
  rintro _ w4 ⟨⟨u2, rfl⟩, hw4⟩
  rw [hw4]
  have x3 := x2.ext hE3
  simp [x3.c0, x3.c1, x3.c2, x3.c3, x3.c4]
  refine FN.mono (written_c hw w3 _ (ht.ext (hE1.trans (hE2.trans hE3)))) ?_
  rintro _ w5 ⟨v, rfl, ho, hE5⟩
  obtain ⟨av, cv, rfl⟩ := own_val ho
  have hE15 := hE2.trans (hE3.trans hE5)
  have y1 := v1.ext hE15
  have y2 := v2.ext hE15
  have s15 := hE15.size
  have s5 := (hE2.trans hE3).size
  have y1' := y1.set (.slice av bs.length cv)
  have m6 := (Mod.refl (fun k => k = w.heap.size + 1) w5).setC 0 (.slice av bs.length cv)
  have hbl : decide ((bs.length : Int) ≤ 65536) = true := by simp; omega
  simp [y1.cell, y1.thaw, cell_setCell, hbl]
  have y2' := y2.mod m6 (by omega)
  have hrow : Sl (w5.setCell ⟨w.heap.size + 1, 0, none⟩ (.slice av bs.length cv)) 1 (.slice av bs.length cv) bs.length (bs.map u8) :=
    sl_of_own (own_keep ho fun hn hl => m6.blk _ hl (by have := own_ge ho hn; omega))
  have hE6 : Ext w (w5.setCell ⟨w.heap.size + 1, 0, none⟩ (.slice av bs.length cv)) := (hE1.trans hE15).setCell _ _ (by simp only; omega)
  generalize (w5.setCell ⟨w.heap.size + 1, 0, none⟩ (.slice av bs.length cv)) = w6 at *
  refine FN.mono (must_c 3 w6) ?_
  rintro _ w7 ⟨⟨u3, rfl⟩, hw7⟩
  rw [hw7]
  simp [y1'.cell, y1'.thaw, y2'.cell, y2'.thaw, cell_setCell]
  refine LV_caught ?_
  simp [y1'.cell, y2'.cell, cell_setCell]
  have m7 : Mod (fun k => k = w.heap.size + 1 ∨ k = w.heap.size + 1 + 1) w6 ((w6.setCell ⟨w.heap.size + 1, 0, none⟩ (.slice av bs.length cv)).setCell ⟨w.heap.size + 1 + 1, 0, none⟩ (i64 0)) :=
    ((Mod.refl _ w6).setCell _ _ (.inl (.inl rfl))).setCell _ _ (.inl (.inr rfl))
  refine ⟨sl_keep hrow m7 fun hx e => ?_, ((hE6.mod (S := fun k => w.heap.size ≤ k)).trans (m7.weaken fun k hk => by omega)).ext fun _ h => h⟩
  have hn := own_nil ho (by have := List.length_pos_iff.2 hx; simpa using this)
  have := own_ge ho hn
  rcases e with e | e <;> omega
end Go.Proofs
namespace Go.Proofs
open Pk
set_option maxRecDepth 10000
@[simp] theorem neC (a1 b1 : Int) (a2 b2 : Bool) (w : World) : (binOp .neq 37 (.agg #[.int .u32 a1, .bool a2]) (.agg #[.int .u32 b1, .bool b2])).run Tryz.prog w = .ok (.bool (!crB (a1, a2) (b1, b2))) w := by
  unfold crB
  rw [← cr_eq (a1, a2) (b1, b2)]
  exact run_neq_flat w fCross _ _ rfl rfl
theorem rsame_c {w : World} {v1 v2 : Value} {l1 l2 : List Cr} (b1 b2 : Bool) (h1 : CSl w v1 l1) (h2 : CSl w v2 l2) (hb : l1.length ≤ 9223372036854775807) :
    FN Tryz.prog 7 [ptV b1 v1, ptV b2 v2] w fun e w' => e = .returned (.bool (decide (b1 = b2 ∧ l1 = l2))) ∧ Ext w w' := by
  obtain ⟨a1, c1, rfl⟩ := h1.isSlice
  obtain ⟨a2, c2, rfl⟩ := h2.isSlice
  refine FN_enter Tryz.func7 rfl rfl (by kernel_rfl) ?_
  have len1 := fun ty W => h1.isLen (P := Tryz.prog) (t := 22) (by simp) ty W
  have len2 := fun ty W => h2.isLen (P := Tryz.prog) (t := 22) (by simp) ty W
  have hE1 : Ext w ((w.alloc (.cells #[.bool b1, .slice a1 l1.length c1] 24)).alloc (.cells #[.bool b2, .slice a2 l2.length c2] 24)) := ((Ext.refl w).alloc _).alloc _
  have p1 : PtAt ((w.alloc (.cells #[.bool b1, .slice a1 l1.length c1] 24)).alloc (.cells #[.bool b2, .slice a2 l2.length c2] 24)) w.heap.size b1 (.slice a1 l1.length c1) := (PtAt.new w _ _ _).ext ((Ext.refl _).alloc _)
  have p2 : PtAt ((w.alloc (.cells #[.bool b1, .slice a1 l1.length c1] 24)).alloc (.cells #[.bool b2, .slice a2 l2.length c2] 24)) (w.heap.size + 1) b2 (.slice a2 l2.length c2) := by
    have := PtAt.new (w.alloc (.cells #[.bool b1, .slice a1 l1.length c1] 24)) b2 (.slice a2 l2.length c2) 24
    simpa using this
  by_cases hbb : b1 = b2
  · by_cases hl : l1.length = l2.length
    · simp [hbb, len2, hl]
      rw [hbb, hl] at hE1 p1 p2
      generalize ((w.alloc (.cells #[.bool b2, .slice a1 l2.length c1] 24)).alloc (.cells #[.bool b2, .slice a2 l2.length c2] 24)) = w1 at *
      refine WC_loop (fun k ρ ds w' => ∃ i : Nat, k = l2.length - i ∧ i ≤ l2.length ∧ ρ 2 = ptr w.heap.size ∧ ρ 3 = ptr (w.heap.size + 1) ∧ ρ 5 = i64 i ∧ ds = [] ∧ Ext w1 w' ∧ l1.take i = l2.take i) l2.length ⟨0, by simp, by simp, by simp, by simp, by simp, rfl, Ext.refl _, rfl⟩ ?_
      rintro k ρ ds w2 ⟨i, rfl, hi, e2, e3, e5, rfl, hE, ht⟩
      have q1 := p1.ext hE
      have q2 := p2.ext hE
      rw [hl] at len1
      by_cases hlt : i < l2.length
      · have hlt1 : i < l1.length := by omega
        simp [e2, e5, q1.c1, len1, hlt]
        refine WC_drawC 10 (.F 0 <| .F 1 <| .F 2 <| .F 3 <| .F 4 <| .F 5 <| .F 6 <| .F 7 <| .F 8 <| .F 9 <| .Z) (fun _ => false) rfl (by kernel_rfl) fun W hW => ?_
        have hWE : Ext w2 W := hW ▸ Ext.drew _
        have hEW := hE1.trans (hE.trans hWE)
        have r1 := CSl.row (SlB.ext h1 hEW) (List.getElem?_eq_getElem hlt1)
        have r2 := CSl.row (SlB.ext h2 hEW) (List.getElem?_eq_getElem hlt)
        have ix1 := CSl.index h1 i hlt1 W
        have ix2 := CSl.index h2 i hlt W
        rw [hl] at ix1 r1
        have s1 := q1.ext hWE
        have s2 := q2.ext hWE
        have t1 : l1.take (i + 1) = l1.take i ++ [l1[i]] := by rw [List.take_add_one, List.getElem?_eq_getElem hlt1]; rfl
        have t2 : l2.take (i + 1) = l2.take i ++ [l2[i]] := by rw [List.take_add_one, List.getElem?_eq_getElem hlt]; rfl
        cases hq : crB l1[i] l2[i] with
        | true =>
          have he : l1[i] = l2[i] := by simpa [crB] using hq
          simp [e2, e3, e5, s1.c1, s2.c1, ix1, ix2, r1.c0, r1.c1, r2.c0, r2.c1, hq]
          exact ⟨l2.length - (i + 1), by omega, i + 1, rfl, by omega, by rw [wrap64 _ (by omega) (by omega)]; rfl, hE.trans hWE, by rw [t1, t2, ht, he]⟩
        | false =>
          have he : ¬ l1[i] = l2[i] := by simpa [crB] using hq
          simp [e2, e3, e5, s1.c1, s2.c1, ix1, ix2, r1.c0, r1.c1, r2.c0, r2.c1, hq]
          exact ⟨fun _ e => he (by simp [e]), hEW⟩
      · have : i = l2.length := by omega
        subst this
        simp [e2, e5, q1.c1, len1]
        rw [← hl, List.take_length, hl, List.take_length] at ht
        exact ⟨⟨hbb, ht⟩, hE1.trans hE⟩
    · have hn : ¬ l1 = l2 := fun e => hl (by rw [e])
      have hl2 : ¬ ((l1.length : Int) = (l2.length : Int)) := by omega
      simp [hbb, len1, len2, hl2, hn]
      rw [hbb] at hE1
      exact hE1
  · have hbq : (b1 == b2) = false := by simp [hbb]
    simp [hbb, hbq]
    exact hE1
theorem flat_take2 : ∀ (l : List Cr) (i : Nat), (l.flatMap crC).take (i * 2) = (l.take i).flatMap crC
  | [], i => by simp
  | c :: l, 0 => by simp
  | c :: l, i + 1 => by
    have := flat_take2 l i
    rw [List.flatMap_cons, List.take_succ_cons, List.flatMap_cons, ← this, show (i + 1) * 2 = i * 2 + 1 + 1 by omega]
    rfl
theorem take_nodup {l : List Cr} {i : Nat} (hi : i < l.length) (h : (l.take i).Nodup) : (l.take (i + 1)).Nodup ↔ l[i] ∉ l.take i := by
  have t1 : l.take (i + 1) = l.take i ++ [l[i]] := by rw [List.take_add_one, List.getElem?_eq_getElem hi]; rfl
  rw [t1, List.nodup_append]
  constructor
  · rintro ⟨-, -, h3⟩ hm
    exact h3 _ hm _ (by simp) rfl
  · intro hm
    refine ⟨h, by simp, fun a ha b hb e => ?_⟩
    simp at hb
    subst hb
    subst e
    exact hm ha
end Go.Proofs
