/-
  Contracts of the functions that the law reaches, step by step.
-/
import Derived.Test.YtigdaggjbnnjgaaRows
import Derived.ProofKit
import Derived.OpenShut
import Derived.Test.YtigdaggjbnnjgaaSpK
namespace Go.Proofs.Ytigdaggjbnnjgaa
open Go.ChangeShapes Go.WideShapes Go.ChangeAt Go.RowKit Go.Deep Pk
set_option maxRecDepth 100000
theorem Try.own : ownKnob Try.prog.godebug = none := by kernel_rfl
theorem Try.laidOut : laidOutB Try.prog = true := by kernel_rfl
theorem kept_of_ext {w w' : World} (h : Ext w w') (may : MemPlace → Prop) : w.keptBut w' may := by
  refine ⟨h.os, h.out, fun i hi => ?_⟩
  rw [h.blk i hi]
  cases w.heap[i]? with
  | none => rfl
  | some o => cases o <;> simp
theorem shut_bool {H : Type} {enc : TypeId × Value → H} {P : Program} {w : World} {base : Nat} {spare : Nat → Bool} {held : Bool} {t : TypeId} {b : Bool} (ht : P.underlying t = some .bool) : DataW.Trod enc P w base spare held t (.bool b) (.lit (.bool b)) [] :=
  ⟨1, by simp [DataW.trod, Value.cells, ht]⟩
theorem below_of_ext {w w' : World} (h : Ext w w') : Go.RowKit.Below w.heap.size w w' := ⟨h.os, h.tape, h.out, h.size, h.blk⟩
theorem fit_int {cs : List Value} {ks : List CK} {q : IntKind} (h : Fit (.int q :: ks) cs) : ∃ (x : Int) (cs' : List Value), cs = .int q x :: cs' ∧ (Lit.int q x).wf = true ∧ Fit ks cs' := by
  obtain ⟨v1, c1, e1, ⟨x, f1, w1⟩, h⟩ := h.cons
  exact ⟨x, c1, by rw [e1, f1], w1, h⟩
theorem fit_st {cs : List Value} (h : Fit [.int .u32, .int .u32, .int .u64, .int .u64] cs) : ∃ s : St, cs = stCells s ∧ StOk s := by
  obtain ⟨a, c1, rfl, wa, h⟩ := fit_int h
  obtain ⟨b, c2, rfl, wb, h⟩ := fit_int h
  obtain ⟨c, c3, rfl, wc, h⟩ := fit_int h
  obtain ⟨d, c4, rfl, wd, h⟩ := fit_int h
  rw [h.nil]
  exact ⟨⟨a, b, c, d⟩, rfl, (bounds_u32 wa).1, (bounds_u32 wb).1, (bounds_u64 wc).1, (bounds_u64 wd).1⟩
instance : Inhabited St := ⟨⟨0, 0, 0, 0⟩⟩
theorem open_sts {W : World} {v : Value} {n : Nat} {f : Nat → List Value} (h : SlA W 4 v n ((List.range n).flatMap f)) (hf : ∀ i, i < n → Fit [.int .u32, .int .u32, .int .u64, .int .u64] (f i)) :
    ∃ l : List St, SlA W 4 v l.length (l.flatMap stCells) ∧ ∀ q ∈ l, StOk q := by
  obtain ⟨q, hq⟩ := choose_lt (p := fun i s => f i = stCells s ∧ StOk s) fun i hi => fit_st (hf i hi)
  refine ⟨(List.range n).map q, ?_, ?_⟩
  · have e : ((List.range n).map q).flatMap stCells = (List.range n).flatMap f := by
      rw [List.flatMap_map, List.flatMap_def, List.flatMap_def]
      congr 1
      refine List.map_congr_left fun i hi => ?_
      rw [(hq i (by simpa using hi)).1]
    rw [e]
    simpa using h
  · intro p hp
    simp at hp
    obtain ⟨i, hi, rfl⟩ := hp
    exact (hq i hi).2
theorem SpanHolds_lifted (os : Os) (started : os.Started) (H : Type) (enc : TypeId × Value → H) :
    ReturnsInHanded {} Try.checked os 3 .any (Rows.spanHoldsSpec.pre6 enc Try.prog Try.f3 Rows.spanHoldsRow.domain false) (Rows.spanHoldsSpec.post enc Try.prog Try.f3 false true false false) := by
  refine returnsInHanded_of_change (C := Try.checked) Try.own started (by kernel_rfl) Try.func3
    (ChangeSpec.witness6 (enc := enc) (C := Try.checked) false ⟨#[], #[.slice none 0 0, .agg #[.int .u64 0, .int .u64 0], .agg #[.int .u64 0, .int .u64 0]], []⟩ 8 (by kernel_rfl) (by kernel_rfl) (by kernel_rfl) (by kernel_rfl)) ?_
  intro W base args ds gs before hval0 hW hcnd _
  have hval : ∀ (j : Nat) t v, Try.f3.params[j]? = some t → args[j]? = some v → Value.okWide Try.prog W .any base t v := hval0
  have hW' := hW
  have hlt := fun p hp => hW.lt p hp
  obtain ⟨p, q, hA0, hV, rfl, hfz, hnd⟩ := hW
  have hA : DataW.TrodAll enc Try.prog W 0 (fun _ => true) true Try.f3.params.toList args.toList ds p := hA0
  rw [Try.params3] at hA hval
  obtain ⟨v0, v1, v2, d0, d1, d2, p0, p1, p2, rfl, rfl, rfl, h0, h1, h2⟩ := trodAll_three hA
  obtain ⟨rfl, rfl⟩ := trodVars_none hV
  obtain ⟨n, f, hs, hf⟩ := open_rows (m := 5) (l := [.int .u32, .int .u32, .int .u64, .int .u64]) (e := 35) Try.underlying22 (by kernel_rfl) (by kernel_rfl) (by decide) (hval 0 22 v0 rfl rfl) h0
  obtain ⟨l, hl, hp⟩ := open_sts hs hf
  have hf1 := open_flat (m := 5) (l := [.int .u64, .int .u64]) (by kernel_rfl) h1
  obtain ⟨a, c1, e1, wa, hf1⟩ := fit_int hf1
  obtain ⟨b, c2, rfl, wb, hf1⟩ := fit_int hf1
  rw [hf1.nil] at e1
  have hf2 := open_flat (m := 5) (l := [.int .u64, .int .u64]) (by kernel_rfl) h2
  obtain ⟨x, c3, e3, wx, hf2⟩ := fit_int hf2
  obtain ⟨y, c4, rfl, wy, hf2⟩ := fit_int hf2
  rw [hf2.nil] at e3
  have hv1 := agg_of e1
  have hv2 := agg_of e3
  subst hv1
  subst hv2
  refine Calls.mono (calls_of_FN Try.func3 rfl rfl (SpanHolds_c (s := ⟨a, b⟩) hl hp (bounds_u64 wa).1 (bounds_u64 wx).1 (bounds_u64 wy).1)) fun e W' ⟨he, hw⟩ => ?_
  subst he
  have h0' := Below.trod Try.laidOut (by kernel_rfl) (by decide +kernel) h0 (below_of_ext hw) (fun x hx => hlt x (by simp [hx]))
  have h1' := Below.trod Try.laidOut (by kernel_rfl) (by decide +kernel) h1 (below_of_ext hw) (fun x hx => hlt x (by simp [hx]))
  have h2' := Below.trod Try.laidOut (by kernel_rfl) (by decide +kernel) h2 (below_of_ext hw) (fun x hx => hlt x (by simp [hx]))
  have hargs := trodAll_mk3 h0' h1' h2'
  refine ⟨_, rfl, _, [], _, [], _, [], hW', ?_, hargs, rfl, kept_of_ext hw _, fun h => by cases h⟩
  exact trodAll_mk1 (shut_bool Try.underlying4)
theorem SpanHolds_holds : Rows.SpanHoldsSaid :=
  OpenClaim.holds_of_wide 3 Try.f3 rfl rfl rfl rfl rfl rfl rfl ⟨rfl, rfl, rfl, rfl, rfl⟩ rfl rfl rfl rfl rfl (by kernel_rfl) Try.func3 (by kernel_rfl)
    (of_decide_eq_true (by kernel_rfl)) (by unfold Func.isWrapper; first | (rw [if_pos (by decide +kernel)]; kernel_rfl) | (rw [if_neg (by decide +kernel)]; exact ⟨rfl, rfl⟩))
    (fun os started H enc _ => SpanHolds_lifted os started H enc)
theorem SpanFull_lifted (os : Os) (started : os.Started) (H : Type) (enc : TypeId × Value → H) :
    ReturnsInHanded {} Try.checked os 4 .any (Rows.spanFullSpec.pre6 enc Try.prog Try.f4 Rows.spanFullRow.domain false) (Rows.spanFullSpec.post enc Try.prog Try.f4 false true false false) := by
  refine returnsInHanded_of_change (C := Try.checked) Try.own started (by kernel_rfl) Try.func4
    (ChangeSpec.witness6 (enc := enc) (C := Try.checked) false ⟨#[], #[.int .i64 0], []⟩ 8 (by kernel_rfl) (by kernel_rfl) (by kernel_rfl) (by kernel_rfl)) ?_
  intro W base args ds gs before hval0 hW hcnd _
  have hval : ∀ (j : Nat) t v, Try.f4.params[j]? = some t → args[j]? = some v → Value.okWide Try.prog W .any base t v := hval0
  have hW' := hW
  obtain ⟨p, q, hA0, hV, rfl, hfz, hnd⟩ := hW
  have hA : DataW.TrodAll enc Try.prog W 0 (fun _ => true) true Try.f4.params.toList args.toList ds p := hA0
  rw [Try.params4] at hA hval
  obtain ⟨v0, d0, rfl, rfl, h0⟩ := trodAll_one hA
  obtain ⟨rfl, rfl⟩ := trodVars_none hV
  obtain ⟨m, rfl, rfl, rfl, wm⟩ := open_int Try.underlying3 (hval 0 3 v0 rfl rfl) h0
  refine Calls.mono (calls_of_FN Try.func4 rfl rfl (SpanFull_c m)) fun e W' ⟨he, hw⟩ => ?_
  subst he
  refine ⟨_, rfl, _, [], _, [], [], [], hW', ?_, ?_, rfl, kept_of_ext hw _, fun h => by cases h⟩
  · exact trodAll_mk1 (shut_bool Try.underlying4)
  · exact trodAll_mk1 (shut_int Try.underlying3 wm)
theorem SpanFull_holds : Rows.SpanFullSaid :=
  OpenClaim.holds_of_wide 4 Try.f4 rfl rfl rfl rfl rfl rfl rfl ⟨rfl, rfl, rfl, rfl, rfl⟩ rfl rfl rfl rfl rfl (by kernel_rfl) Try.func4 (by kernel_rfl)
    (of_decide_eq_true (by kernel_rfl)) (by unfold Func.isWrapper; first | (rw [if_pos (by decide +kernel)]; kernel_rfl) | (rw [if_neg (by decide +kernel)]; exact ⟨rfl, rfl⟩))
    (fun os started H enc _ => SpanFull_lifted os started H enc)
end Go.Proofs.Ytigdaggjbnnjgaa
