/-
  Contracts of the functions that the law reaches, step by step.
-/
import Derived.Test.YtljaeeagbokacaaRows
import Derived.ProofKit
import Derived.OpenShut
import Derived.Test.YtljaeeagbokacaaTrY
namespace Go.Proofs.Ytljaeeagbokacaa
open Go.ChangeShapes Go.WideShapes Go.ChangeAt Go.RowKit Go.Deep Pk
set_option maxRecDepth 100000
theorem Try.own : ownKnob Try.prog.godebug = none := by kernel_rfl
theorem Try.laidOut : laidOutB Try.prog = true := by kernel_rfl
theorem kept_of_ext {w w' : World} (h : Ext w w') (may : MemPlace → Prop) : w.keptBut w' may := by
  refine ⟨h.os, h.out, fun i hi => ?_⟩
  rw [h.blk i hi]
  cases w.heap[i]? with
  | none => rfl
  | some o => cases o <;> simp
theorem shut_bool {H : Type} {enc : TypeId × Value → H} {P : Program} {w : World} {base : Nat} {spare : Nat → Bool} {held : Bool} {t : TypeId} {b : Bool} (ht : P.underlying t = some .bool) : DataW.Trod enc P w base spare held t (.bool b) (.lit (.bool b)) [] :=
  ⟨1, by simp [DataW.trod, Value.cells, ht]⟩
theorem below_of_ext {w w' : World} (h : Ext w w') : Go.RowKit.Below w.heap.size w w' := ⟨h.os, h.tape, h.out, h.size, h.blk⟩
theorem fit3 {cs : List Value} (h : Fit [.int .i64, .int .u32, .int .u32] cs) : ∃ x y z : Int, cs = [.int .i64 x, .int .u32 y, .int .u32 z] ∧ 0 ≤ y ∧ 0 ≤ z := by
  obtain ⟨v1, c1, e1, ⟨x, f1, _⟩, h⟩ := h.cons
  obtain ⟨v2, c2, e2, ⟨y, f2, wy⟩, h⟩ := h.cons
  obtain ⟨v3, c3, e3, ⟨z, f3, wz⟩, h⟩ := h.cons
  rw [h.nil] at e3
  rw [e3] at e2
  rw [e2] at e1
  rw [f1, f2, f3] at e1
  exact ⟨x, y, z, e1, (bounds_u32 wy).1, (bounds_u32 wz).1⟩
theorem fit6 {cs : List Value} (h : Fit [.int .i64, .int .u32, .int .u32, .int .i64, .int .u32, .int .u32] cs) : ∃ x y z x' y' z' : Int, cs = [.int .i64 x, .int .u32 y, .int .u32 z, .int .i64 x', .int .u32 y', .int .u32 z'] ∧ (0 ≤ y ∧ 0 ≤ z) ∧ (0 ≤ y' ∧ 0 ≤ z') := by
  obtain ⟨v1, c1, e1, ⟨x, f1, _⟩, h⟩ := h.cons
  obtain ⟨v2, c2, e2, ⟨y, f2, wy⟩, h⟩ := h.cons
  obtain ⟨v3, c3, e3, ⟨z, f3, wz⟩, h⟩ := h.cons
  obtain ⟨x', y', z', e4, h5, h6⟩ := fit3 h
  rw [e4] at e3
  rw [e3] at e2
  rw [e2] at e1
  rw [f1, f2, f3] at e1
  exact ⟨x, y, z, x', y', z', e1, ⟨(bounds_u32 wy).1, (bounds_u32 wz).1⟩, h5, h6⟩
/-- The calls, as they came. -/
theorem open_acts {W : World} {v : Value} {n : Nat} {f : Nat → List Value} (h : SlA W 3 v n ((List.range n).flatMap f)) (hf : ∀ i, i < n → Fit [.int .i64, .int .u32, .int .u32] (f i)) :
    ∃ l : List Ac, SlA W 3 v l.length (actCells l) ∧ ∀ q ∈ l, 0 ≤ q.a ∧ 0 ≤ q.b := by
  have each : ∀ i, i < n → ∃ q : Int × Int × Int, f i = [.int .i64 q.1, .int .u32 q.2.1, .int .u32 q.2.2] ∧ 0 ≤ q.2.1 ∧ 0 ≤ q.2.2 := by
    intro i hi
    obtain ⟨x, y, z, h1, h2, h3⟩ := fit3 (hf i hi)
    exact ⟨(x, y, z), h1, h2, h3⟩
  obtain ⟨q, hq⟩ := choose_lt each
  refine ⟨(List.range n).map fun i => ⟨(q i).1, (q i).2.1, (q i).2.2⟩, ?_, ?_⟩
  · have e : actCells ((List.range n).map fun i => ⟨(q i).1, (q i).2.1, (q i).2.2⟩) = (List.range n).flatMap f := by
      unfold actCells
      rw [List.flatMap_map, List.flatMap_def, List.flatMap_def]
      congr 1
      refine List.map_congr_left fun i hi => ?_
      rw [(hq i (by simpa using hi)).1]
    rw [e]
    simpa using h
  · intro p hp
    simp at hp
    obtain ⟨i, hi, rfl⟩ := hp
    exact (hq i hi).2
theorem TreePlays_lifted (os : Os) (started : os.Started) (H : Type) (enc : TypeId × Value → H) :
    ReturnsInHanded {} Try.checked os 5 .any (Rows.treePlaysSpec.pre6 enc Try.prog Try.f5 Rows.treePlaysRow.domain false) (Rows.treePlaysSpec.post enc Try.prog Try.f5 false true false false) := by
  refine returnsInHanded_of_change (C := Try.checked) Try.own started (by kernel_rfl) Try.func5
    (ChangeSpec.witness6 (enc := enc) (C := Try.checked) false ⟨#[], #[.slice none 0 0], []⟩ 8 (by kernel_rfl) (by kernel_rfl) (by kernel_rfl) (by kernel_rfl)) ?_
  intro W base args ds gs before hval0 hW hcnd _
  have hval : ∀ (j : Nat) t v, Try.f5.params[j]? = some t → args[j]? = some v → Value.okWide Try.prog W .any base t v := hval0
  have hW' := hW
  have hlt := fun p hp => hW.lt p hp
  obtain ⟨p, q, hA0, hV, rfl, hfz, hnd⟩ := hW
  have hA : DataW.TrodAll enc Try.prog W 0 (fun _ => true) true Try.f5.params.toList args.toList ds p := hA0
  rw [Try.params5] at hA hval
  obtain ⟨v0, d0, rfl, rfl, h0⟩ := trodAll_one hA
  obtain ⟨rfl, rfl⟩ := trodVars_none hV
  obtain ⟨n, f, hs, hf⟩ := open_rows (m := 5) (l := [.int .i64, .int .u32, .int .u32]) (e := 49) Try.underlying42 (by kernel_rfl) (by kernel_rfl) (by decide) (hval 0 42 v0 rfl rfl) h0
  obtain ⟨l, hl, hp⟩ := open_acts hs hf
  refine Calls.mono (calls_of_FN Try.func5 rfl rfl (TreePlays_c hl hp)) fun e W' ⟨he, hw⟩ => ?_
  subst he
  have h0' := Below.trod Try.laidOut (by kernel_rfl) (by decide +kernel) h0 (below_of_ext hw) (fun x hx => hlt x (by simp [hx]))
  have hargs := trodAll_mk1 h0'
  refine ⟨_, rfl, _, [], _, [], _, [], hW', ?_, hargs, rfl, kept_of_ext hw _, fun h => by cases h⟩
  exact trodAll_mk1 (shut_bool Try.underlying4)
theorem TreePlays_holds : Rows.TreePlaysSaid :=
  OpenClaim.holds_of_wide 5 Try.f5 rfl rfl rfl rfl rfl rfl rfl ⟨rfl, rfl, rfl, rfl, rfl⟩ rfl rfl rfl rfl rfl (by kernel_rfl) Try.func5 (by kernel_rfl)
    (of_decide_eq_true (by kernel_rfl)) (by unfold Func.isWrapper; first | (rw [if_pos (by decide +kernel)]; kernel_rfl) | (rw [if_neg (by decide +kernel)]; exact ⟨rfl, rfl⟩))
    (fun os started H enc _ => TreePlays_lifted os started H enc)
theorem TreeCopies_lifted (os : Os) (started : os.Started) (H : Type) (enc : TypeId × Value → H) :
    ReturnsInHanded {} Try.checked os 6 .any (Rows.treeCopiesSpec.pre6 enc Try.prog Try.f6 Rows.treeCopiesRow.domain false) (Rows.treeCopiesSpec.post enc Try.prog Try.f6 false true false false) := by
  refine returnsInHanded_of_change (C := Try.checked) Try.own started (by kernel_rfl) Try.func6
    (ChangeSpec.witness6 (enc := enc) (C := Try.checked) false ⟨#[], #[.slice none 0 0, .agg #[.int .i64 0, .int .u32 0, .int .u32 0, .int .i64 0, .int .u32 0, .int .u32 0]], []⟩ 8 (by kernel_rfl) (by kernel_rfl) (by kernel_rfl) (by kernel_rfl)) ?_
  intro W base args ds gs before hval0 hW hcnd _
  have hval : ∀ (j : Nat) t v, Try.f6.params[j]? = some t → args[j]? = some v → Value.okWide Try.prog W .any base t v := hval0
  have hW' := hW
  have hlt := fun p hp => hW.lt p hp
  obtain ⟨p, q, hA0, hV, rfl, hfz, hnd⟩ := hW
  have hA : DataW.TrodAll enc Try.prog W 0 (fun _ => true) true Try.f6.params.toList args.toList ds p := hA0
  rw [Try.params6] at hA hval
  obtain ⟨v0, v1, d0, d1, p0, p1, rfl, rfl, rfl, h0, h1⟩ := trodAll_two hA
  obtain ⟨rfl, rfl⟩ := trodVars_none hV
  obtain ⟨n, f, hs, hf⟩ := open_rows (m := 5) (l := [.int .i64, .int .u32, .int .u32]) (e := 49) Try.underlying42 (by kernel_rfl) (by kernel_rfl) (by decide) (hval 0 42 v0 rfl rfl) h0
  obtain ⟨l, hl, hp⟩ := open_acts hs hf
  have hfl := open_flat (m := 5) (l := [.int .i64, .int .u32, .int .u32, .int .i64, .int .u32, .int .u32]) (by kernel_rfl) h1
  obtain ⟨x, y, z, x', y', z', hcs, hq1, hq2⟩ := fit6 hfl
  have hv1 := agg_of hcs
  subst hv1
  refine Calls.mono (calls_of_FN Try.func6 rfl rfl (TreeCopies_c (q1 := ⟨x, y, z⟩) (q2 := ⟨x', y', z'⟩) hl hp hq1 hq2)) fun e W' ⟨he, hw⟩ => ?_
  subst he
  have h0' := Below.trod Try.laidOut (by kernel_rfl) (by decide +kernel) h0 (below_of_ext hw) (fun x hx => hlt x (by simp [hx]))
  have h1' := Below.trod Try.laidOut (by kernel_rfl) (by decide +kernel) h1 (below_of_ext hw) (fun x hx => hlt x (by simp [hx]))
  have hargs := trodAll_mk2 h0' h1'
  refine ⟨_, rfl, _, [], _, [], _, [], hW', ?_, hargs, rfl, kept_of_ext hw _, fun h => by cases h⟩
  exact trodAll_mk1 (shut_bool Try.underlying4)
theorem TreeCopies_holds : Rows.TreeCopiesSaid :=
  OpenClaim.holds_of_wide 6 Try.f6 rfl rfl rfl rfl rfl rfl rfl ⟨rfl, rfl, rfl, rfl, rfl⟩ rfl rfl rfl rfl rfl (by kernel_rfl) Try.func6 (by kernel_rfl)
    (of_decide_eq_true (by kernel_rfl)) (by unfold Func.isWrapper; first | (rw [if_pos (by decide +kernel)]; kernel_rfl) | (rw [if_neg (by decide +kernel)]; exact ⟨rfl, rfl⟩))
    (fun os started H enc _ => TreeCopies_lifted os started H enc)
end Go.Proofs.Ytljaeeagbokacaa
