/-
  Contracts of the functions that the law reaches, step by step.
-/
import Derived.Test.YtljaeeagbokacaaRows
import Derived.ProofKit
import Derived.Deep.SlicePairs
import Derived.OpenShut
import Derived.Test.YtljaeeagbokacaaTrM
namespace Go.Proofs.Ytljaeeagbokacaa
open Go.ChangeShapes Go.WideShapes Go.ChangeAt Go.RowKit Go.Deep Pk
set_option maxRecDepth 100000
theorem Try.own : ownKnob Try.prog.godebug = none := by kernel_rfl

theorem Try.laidOut : laidOutB Try.prog = true := by kernel_rfl
theorem kept_of_ext {w w' : World} (h : Ext w w') (may : MemPlace → Prop) : w.keptBut w' may := by
  refine ⟨h.os, h.out, fun i hi => ?_⟩
  rw [h.blk i hi]
  cases w.heap[i]? with
  | none => rfl
  | some o => cases o <;> simp
theorem shut_bool {H : Type} {enc : TypeId × Value → H} {P : Program} {w : World} {base : Nat} {spare : Nat → Bool} {held : Bool} {t : TypeId} {b : Bool} (ht : P.underlying t = some .bool) : DataW.Trod enc P w base spare held t (.bool b) (.lit (.bool b)) [] :=
  ⟨1, by simp [DataW.trod, Value.cells, ht, Lit.wf]⟩
/-- A row of pairs, as it came. -/
theorem open_pairs {H : Type} {enc : TypeId × Value → H} {W : World} {v : Value} {d : DataW H} {ps : List MemPlace} {base : Nat} (hv : Value.okWide Try.prog W .any base 22 v) (h : DataW.Trod enc Try.prog W 0 (fun _ => true) true 22 v d ps) :
    ∃ l : List (Int × Int), SlA W 2 v l.length (pairCells l) := by
  obtain ⟨a, len, cap, rfl⟩ := okWide_slice Try.underlying22 hv
  obtain ⟨fuel, hf⟩ := h
  rcases open_slice Try.underlying22 hf with ⟨h0, -⟩ | ⟨a', len', cap', m, n, D, Pl, h0, hb, hl, hm, hmm, hx, hel⟩
  · simp [Value.cells] at h0
    obtain ⟨rfl, rfl, rfl⟩ := h0
    exact ⟨[], by simp [pairCells], ⟨none, 0, rfl, fun h => by simp at h⟩, by simp [pairCells]⟩
  · simp [Value.cells] at h0
    obtain ⟨rfl, rfl, rfl⟩ := h0
    simp at hmm
    subst hmm
    have hc : Try.prog.cellsOf 29 = 2 := by kernel_rfl
    have hc1 : Try.prog.cellsOf 23 = 1 := by kernel_rfl
    have each : ∀ i, i < len → ∃ q : Int × Int, W.cell? (a'.add (i * 2)) = some (u32 q.1) ∧ W.cell? (a'.add (i * 2 + 1)) = some (u32 q.2) := by
      intro i hi
      obtain ⟨cs', h1, h2⟩ := hel i (by omega)
      rw [hc] at h1
      obtain ⟨_, hlen, hcell⟩ := World.cells?_some h1
      obtain ⟨xs, k, _, _, _, hxl, hf⟩ := DataW.trod_array Try.underlying29 h2
      match xs, hxl, cs', hlen with
      | [y0, y1], _, [v0, v1], _ =>
        have g0 := hf 0 (by omega)
        have g1 := hf 1 (by omega)
        simp [hc1] at g0 g1
        obtain ⟨n0, e0, _, _⟩ := DataW.trod_int Try.underlying23 g0
        obtain ⟨n1, e1, _, _⟩ := DataW.trod_int Try.underlying23 g1
        have c0 := hcell 0 (by omega)
        have c1 := hcell 1 (by omega)
        rw [add_add] at c0 c1
        simp at e0 e1
        subst e0; subst e1
        exact ⟨(n0, n1), by simpa using c0, by simpa using c1⟩
    obtain ⟨q, hq⟩ := choose_lt each
    have hsp : 0 < len → ∃ b o, a' = ⟨b, o, none⟩ := by
      intro h
      have := (hq 0 h).1
      obtain ⟨b, o, sp⟩ := a'
      cases sp with
      | none => exact ⟨b, o, rfl⟩
      | some s => simp [Addr.add, World.cell?] at this; split at this <;> simp_all
    refine ⟨(List.range len).map q, ?_, ⟨some a', m, by simp, fun h => ?_⟩, ?_⟩
    · have : ∀ l : List (Int × Int), (pairCells l).length = l.length * 2 := by
        intro l
        induction l with
        | nil => rfl
        | cons p l ih => simp only [pairCells, List.flatMap_cons] at ih ⊢; simp [ih]; omega
      exact this _
    · simp at h
      obtain ⟨b, o, rfl⟩ := hsp h
      exact ⟨b, o, rfl⟩
    · intro j u hj
      have hl2 : ∀ l : List (Int × Int), (pairCells l).length = l.length * 2 := by
        intro l
        induction l with
        | nil => rfl
        | cons p l ih => simp only [pairCells, List.flatMap_cons] at ih ⊢; simp [ih]; omega
      have hjl := (List.getElem?_eq_some_iff.1 hj).1
      rw [hl2] at hjl
      simp at hjl
      have hi : j / 2 < len := by omega
      obtain ⟨b, o, rfl⟩ := hsp (by omega)
      obtain ⟨c1, c2⟩ := pairCells_at ((List.range len).map q) (j / 2) (q (j / 2)) (by simp [hi])
      obtain ⟨d1, d2⟩ := hq (j / 2) hi
      simp at d1 d2
      simp only [slB, slO]
      rcases Nat.mod_two_eq_zero_or_one j with h | h
      · have e : j / 2 * 2 = j := by omega
        rw [e] at c1 d1
        rw [c1] at hj; cases hj; exact d1
      · have e : j / 2 * 2 + 1 = j := by omega
        rw [e] at c2 d2
        rw [c2] at hj; cases hj; exact d2
theorem below_of_ext {w w' : World} (h : Ext w w') : Go.RowKit.Below w.heap.size w w' := ⟨h.os, h.tape, h.out, h.size, h.blk⟩
theorem TreeHolds_lifted (os : Os) (started : os.Started) (H : Type) (enc : TypeId × Value → H) :
    ReturnsInHanded {} Try.checked os 3 .any (Rows.treeHoldsSpec.pre6 enc Try.prog Try.f3 Rows.treeHoldsRow.domain false) (Rows.treeHoldsSpec.post enc Try.prog Try.f3 false true false false) := by
  refine returnsInHanded_of_change (C := Try.checked) Try.own started (by kernel_rfl) Try.func3
    (ChangeSpec.witness6 (enc := enc) (C := Try.checked) false ⟨#[], #[.slice none 0 0, .int .u32 0, .int .u32 0], []⟩ 8 (by kernel_rfl) (by kernel_rfl) (by kernel_rfl) (by kernel_rfl)) ?_
  intro W base args ds gs before hval0 hW hcnd _
  have hval : ∀ (j : Nat) t v, Try.f3.params[j]? = some t → args[j]? = some v → Value.okWide Try.prog W .any base t v := hval0
  have hW' := hW
  have hlt := fun p hp => hW.lt p hp
  obtain ⟨p, q, hA0, hV, rfl, hfz, hnd⟩ := hW
  have hA : DataW.TrodAll enc Try.prog W 0 (fun _ => true) true Try.f3.params.toList args.toList ds p := hA0
  rw [Try.params3] at hA hval
  obtain ⟨v0, v1, v2, d0, d1, d2, p0, p1, p2, rfl, rfl, rfl, h0, h1, h2⟩ := trodAll_three hA
  obtain ⟨rfl, rfl⟩ := trodVars_none hV
  obtain ⟨a, rfl, rfl, rfl, wa⟩ := open_int Try.underlying23 (hval 1 23 v1 rfl rfl) h1
  obtain ⟨b, rfl, rfl, rfl, wb⟩ := open_int Try.underlying23 (hval 2 23 v2 rfl rfl) h2
  obtain ⟨l, hl⟩ := open_pairs (hval 0 22 v0 rfl rfl) h0
  have ha0 : 0 ≤ a := by have := bounds_u32 wa; omega
  have hb0 : 0 ≤ b := by have := bounds_u32 wb; omega
  refine Calls.mono (calls_of_FN Try.func3 rfl rfl (TreeHolds_c hl ha0 hb0)) fun e W' ⟨he, hw⟩ => ?_
  subst he
  have h0' := Below.trod Try.laidOut (by kernel_rfl) (by decide +kernel) h0 (below_of_ext hw) (fun x hx => hlt x (by simp [hx]))
  have hargs := trodAll_mk3 h0' (shut_int Try.underlying23 wa) (shut_int Try.underlying23 wb)
  refine ⟨_, rfl, _, [], _, [], _, [], hW', ?_, hargs, rfl, kept_of_ext hw _, fun h => by cases h⟩
  exact trodAll_mk1 (shut_bool Try.underlying4)
theorem TreeHolds_holds : Rows.TreeHoldsSaid :=
  OpenClaim.holds_of_wide 3 Try.f3 rfl rfl rfl rfl rfl rfl rfl ⟨rfl, rfl, rfl, rfl, rfl⟩ rfl rfl rfl rfl rfl (by kernel_rfl) Try.func3 (by kernel_rfl)
    (of_decide_eq_true (by kernel_rfl)) (by unfold Func.isWrapper; first | (rw [if_pos (by decide +kernel)]; kernel_rfl) | (rw [if_neg (by decide +kernel)]; exact ⟨rfl, rfl⟩))
    (fun os started H enc _ => TreeHolds_lifted os started H enc)
end Go.Proofs.Ytljaeeagbokacaa
