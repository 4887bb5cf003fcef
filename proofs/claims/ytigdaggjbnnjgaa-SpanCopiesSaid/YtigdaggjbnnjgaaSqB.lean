/-
  Contracts of the functions that the law reaches, step by step.
-/
import Derived.Test.YtigdaggjbnnjgaaRows
import Derived.ProofKit
import Derived.OpenShut
import Derived.Test.YtigdaggjbnnjgaaSqA
namespace Go.Proofs.Ytigdaggjbnnjgaa
open Go.ChangeShapes Go.WideShapes Go.ChangeAt Go.RowKit Go.Deep Pk
set_option maxRecDepth 100000
theorem Try.own : ownKnob Try.prog.godebug = none := by kernel_rfl
theorem Try.laidOut : laidOutB Try.prog = true := by kernel_rfl
theorem kept_of_ext {w w' : World} (h : Ext w w') (may : MemPlace → Prop) : w.keptBut w' may := by
  refine ⟨h.os, h.out, fun i hi => ?_⟩
  rw [h.blk i hi]
  cases w.heap[i]? with
  | none => rfl
  | some o => cases o <;> simp
theorem shut_bool {H : Type} {enc : TypeId × Value → H} {P : Program} {w : World} {base : Nat} {spare : Nat → Bool} {held : Bool} {t : TypeId} {b : Bool} (ht : P.underlying t = some .bool) : DataW.Trod enc P w base spare held t (.bool b) (.lit (.bool b)) [] :=
  ⟨1, by simp [DataW.trod, Value.cells, ht]⟩
theorem below_of_ext {w w' : World} (h : Ext w w') : Go.RowKit.Below w.heap.size w w' := ⟨h.os, h.tape, h.out, h.size, h.blk⟩
theorem fit_int {cs : List Value} {ks : List CK} {q : IntKind} (h : Fit (.int q :: ks) cs) : ∃ (x : Int) (cs' : List Value), cs = .int q x :: cs' ∧ (Lit.int q x).wf = true ∧ Fit ks cs' := by
  obtain ⟨v1, c1, e1, ⟨x, f1, w1⟩, h⟩ := h.cons
  exact ⟨x, c1, by rw [e1, f1], w1, h⟩
theorem fit_bool {cs : List Value} {ks : List CK} (h : Fit (.bool :: ks) cs) : ∃ (x : Bool) (cs' : List Value), cs = .bool x :: cs' ∧ Fit ks cs' := by
  obtain ⟨v1, c1, e1, ⟨x, f1⟩, h⟩ := h.cons
  exact ⟨x, c1, by rw [e1, f1], h⟩
/-- A row of elements, opened. -/
theorem open_els {α : Type} (g : α → List Value) (ok : α → Prop) {s : Nat} {l : List CK} {W : World} {v : Value} {n : Nat} {f : Nat → List Value} (hfit : ∀ cs, Fit l cs → ∃ x, cs = g x ∧ ok x) (h : SlA W s v n ((List.range n).flatMap f)) (hf : ∀ i, i < n → Fit l (f i)) :
    ∃ L : List α, SlA W s v L.length (L.flatMap g) ∧ ∀ q ∈ L, ok q := by
  have each : ∀ k, k ≤ n → ∃ L : List α, L.length = k ∧ L.flatMap g = (List.range k).flatMap f ∧ ∀ q ∈ L, ok q := by
    intro k
    induction k with
    | zero => exact fun _ => ⟨[], rfl, rfl, by simp⟩
    | succ k ih =>
      intro hk
      obtain ⟨L, h1, h2, h3⟩ := ih (by omega)
      obtain ⟨x, hx, hox⟩ := hfit _ (hf k (by omega))
      refine ⟨L ++ [x], by simp [h1], ?_, fun q hq => ?_⟩
      · rw [List.flatMap_append, h2, List.range_succ, List.flatMap_append]
        simp [hx]
      · rcases List.mem_append.1 hq with hq | hq
        · exact h3 q hq
        · simp at hq; subst hq; exact hox
  obtain ⟨L, h1, h2, h3⟩ := each n (Nat.le_refl _)
  refine ⟨L, ?_, h3⟩
  rw [h1, h2]
  exact h
theorem fit_ac {cs : List Value} (h : Fit [.int .i64, .int .u32, .int .u32, .int .u64, .int .u64, .int .u64, .int .u64] cs) : ∃ q : Ac, cs = acC q ∧ AcOk q := by
  obtain ⟨z, c0, rfl, wz, h⟩ := fit_int h
  obtain ⟨a, c1, rfl, wa, h⟩ := fit_int h
  obtain ⟨b, c2, rfl, wb, h⟩ := fit_int h
  obtain ⟨c, c3, rfl, wc, h⟩ := fit_int h
  obtain ⟨d, c4, rfl, wd, h⟩ := fit_int h
  obtain ⟨e, c5, rfl, we, h⟩ := fit_int h
  obtain ⟨f, c6, rfl, wf, h⟩ := fit_int h
  rw [h.nil]
  exact ⟨⟨z, ⟨a, b, c, d⟩, ⟨e, f⟩⟩, rfl, ⟨(bounds_u32 wa).1, (bounds_u32 wb).1, (bounds_u64 wc).1, (bounds_u64 wd).1⟩, (bounds_u64 we).1⟩
theorem fit_cut : ∀ {k1 k2 : List CK} {cs : List Value}, Fit (k1 ++ k2) cs → ∃ a b, cs = a ++ b ∧ Fit k1 a ∧ Fit k2 b
  | [], _, cs, h => ⟨[], cs, rfl, trivial, h⟩
  | k :: k1, k2, cs, h => by
    obtain ⟨v, vs, rfl, hv, h⟩ := Fit.cons h
    obtain ⟨a, b, rfl, ha, hb⟩ := fit_cut h
    exact ⟨v :: a, b, rfl, ⟨hv, ha⟩, hb⟩
theorem SpanCopies_lifted (os : Os) (started : os.Started) (H : Type) (enc : TypeId × Value → H) :
    ReturnsInHanded {} Try.checked os 5 .any (Rows.spanCopiesSpec.pre6 enc Try.prog Try.f5 Rows.spanCopiesRow.domain false) (Rows.spanCopiesSpec.post enc Try.prog Try.f5 false true false false) := by
  refine returnsInHanded_of_change (C := Try.checked) Try.own started (by kernel_rfl) Try.func5
    (ChangeSpec.witness6 (enc := enc) (C := Try.checked) false ⟨#[], #[.slice none 0 0, .agg #[.int .i64 0, .int .u32 0, .int .u32 0, .int .u64 0, .int .u64 0, .int .u64 0, .int .u64 0, .int .i64 0, .int .u32 0, .int .u32 0, .int .u64 0, .int .u64 0, .int .u64 0, .int .u64 0]], []⟩ 8 (by kernel_rfl) (by kernel_rfl) (by kernel_rfl) (by kernel_rfl)) ?_
  intro W base args ds gs before hval0 hW hcnd _
  have hval : ∀ (j : Nat) t v, Try.f5.params[j]? = some t → args[j]? = some v → Value.okWide Try.prog W .any base t v := hval0
  have hW' := hW
  have hlt := fun p hp => hW.lt p hp
  obtain ⟨p, q, hA0, hV, rfl, hfz, hnd⟩ := hW
  have hA : DataW.TrodAll enc Try.prog W 0 (fun _ => true) true Try.f5.params.toList args.toList ds p := hA0
  rw [Try.params5] at hA hval
  obtain ⟨v0, v1, d0, d1, p0, p1, rfl, rfl, rfl, h0, h1⟩ := trodAll_two hA
  obtain ⟨rfl, rfl⟩ := trodVars_none hV
  obtain ⟨n, f, hs, hf⟩ := open_rows (m := 5) (l := [.int .i64, .int .u32, .int .u32, .int .u64, .int .u64, .int .u64, .int .u64]) (e := 48) Try.underlying46 (by kernel_rfl) (by kernel_rfl) (by decide) (hval 0 46 v0 rfl rfl) h0
  obtain ⟨l, hl, hp⟩ := open_els acC AcOk (fun _ => fit_ac) hs hf
  have hfl := open_flat (m := 5) (l := [.int .i64, .int .u32, .int .u32, .int .u64, .int .u64, .int .u64, .int .u64] ++ [.int .i64, .int .u32, .int .u32, .int .u64, .int .u64, .int .u64, .int .u64]) (by kernel_rfl) h1
  obtain ⟨a, b, hab, ha, hb⟩ := fit_cut hfl
  obtain ⟨q1, rfl, hq1⟩ := fit_ac ha
  obtain ⟨q2, rfl, hq2⟩ := fit_ac hb
  have hv1 := agg_of hab
  subst hv1
  refine Calls.mono (calls_of_FN Try.func5 rfl rfl (SpanCopies_c (q1 := q1) (q2 := q2) hl hp hq1 hq2)) fun e W' ⟨he, hw⟩ => ?_
  subst he
  have h0' := Below.trod Try.laidOut (by kernel_rfl) (by decide +kernel) h0 (below_of_ext hw) (fun x hx => hlt x (by simp [hx]))
  have h1' := Below.trod Try.laidOut (by kernel_rfl) (by decide +kernel) h1 (below_of_ext hw) (fun x hx => hlt x (by simp [hx]))
  have hargs := trodAll_mk2 h0' h1'
  refine ⟨_, rfl, _, [], _, [], _, [], hW', ?_, hargs, rfl, kept_of_ext hw _, fun h => by cases h⟩
  exact trodAll_mk1 (shut_bool Try.underlying4)
theorem SpanCopies_holds : Rows.SpanCopiesSaid :=
  OpenClaim.holds_of_wide 5 Try.f5 rfl rfl rfl rfl rfl rfl rfl ⟨rfl, rfl, rfl, rfl, rfl⟩ rfl rfl rfl rfl rfl (by kernel_rfl) Try.func5 (by kernel_rfl)
    (of_decide_eq_true (by kernel_rfl)) (by unfold Func.isWrapper; first | (rw [if_pos (by decide +kernel)]; kernel_rfl) | (rw [if_neg (by decide +kernel)]; exact ⟨rfl, rfl⟩))
    (fun os started H enc _ => SpanCopies_lifted os started H enc)
end Go.Proofs.Ytigdaggjbnnjgaa
