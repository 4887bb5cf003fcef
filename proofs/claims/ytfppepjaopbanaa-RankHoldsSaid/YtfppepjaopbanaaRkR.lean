/-
  Contracts of the functions that the law reaches, step by step.
-/
import Derived.Test.YtfppepjaopbanaaRows
import Derived.ProofKit
import Derived.OpenShut
import Derived.Test.YtfppepjaopbanaaRkQ
namespace Go.Proofs.Ytfppepjaopbanaa
open Go.ChangeShapes Go.WideShapes Go.ChangeAt Go.RowKit Go.Deep Pk
set_option maxRecDepth 100000
theorem Try.own : ownKnob Try.prog.godebug = none := by kernel_rfl
theorem Try.laidOut : laidOutB Try.prog = true := by kernel_rfl
theorem kept_of_ext {w w' : World} (h : Ext w w') (may : MemPlace → Prop) : w.keptBut w' may := by
  refine ⟨h.os, h.out, fun i hi => ?_⟩
  rw [h.blk i hi]
  cases w.heap[i]? with
  | none => rfl
  | some o => cases o <;> simp
theorem shut_bool {H : Type} {enc : TypeId × Value → H} {P : Program} {w : World} {base : Nat} {spare : Nat → Bool} {held : Bool} {t : TypeId} {b : Bool} (ht : P.underlying t = some .bool) : DataW.Trod enc P w base spare held t (.bool b) (.lit (.bool b)) [] :=
  ⟨1, by simp [DataW.trod, Value.cells, ht]⟩
theorem below_of_ext {w w' : World} (h : Ext w w') : Go.RowKit.Below w.heap.size w w' := ⟨h.os, h.tape, h.out, h.size, h.blk⟩
theorem fit_int {cs : List Value} {ks : List CK} {q : IntKind} (h : Fit (.int q :: ks) cs) : ∃ (x : Int) (cs' : List Value), cs = .int q x :: cs' ∧ (Lit.int q x).wf = true ∧ Fit ks cs' := by
  obtain ⟨v1, c1, e1, ⟨x, f1, w1⟩, h⟩ := h.cons
  exact ⟨x, c1, by rw [e1, f1], w1, h⟩
theorem fit_wt {cs : List Value} (h : Fit [.int .u32, .int .u32, .int .u64, .int .u32, .int .u32, .int .i64, .int .i64] cs) : ∃ x : Wt, cs = wtC x := by
  obtain ⟨a, c1, rfl, -, h⟩ := fit_int h
  obtain ⟨b, c2, rfl, -, h⟩ := fit_int h
  obtain ⟨c, c3, rfl, -, h⟩ := fit_int h
  obtain ⟨d, c4, rfl, -, h⟩ := fit_int h
  obtain ⟨e, c5, rfl, -, h⟩ := fit_int h
  obtain ⟨f, c6, rfl, -, h⟩ := fit_int h
  obtain ⟨g, c7, rfl, -, h⟩ := fit_int h
  rw [h.nil]
  exact ⟨((a, b, c, d), e, f, g), rfl⟩
theorem open_wts {W : World} {v : Value} {n : Nat} {f : Nat → List Value} (h : SlA W 7 v n ((List.range n).flatMap f)) (hf : ∀ i, i < n → Fit [.int .u32, .int .u32, .int .u64, .int .u32, .int .u32, .int .i64, .int .i64] (f i)) : ∃ l : List Wt, WSlA W v l := by
  obtain ⟨q, hq⟩ := choose_lt (p := fun i s => f i = wtC s) fun i hi => fit_wt (hf i hi)
  refine ⟨(List.range n).map q, ?_⟩
  have e : ((List.range n).map q).flatMap wtC = (List.range n).flatMap f := by
    rw [List.flatMap_map, List.flatMap_def, List.flatMap_def]
    congr 1
    refine List.map_congr_left fun i hi => ?_
    rw [(hq i (by simpa using hi))]
  show SlA W 7 v _ _
  rw [e]
  simpa using h
theorem RankHolds_lifted (os : Os) (started : os.Started) (H : Type) (enc : TypeId × Value → H) :
    ReturnsInHanded {} Try.checked os 3 .any (Rows.rankHoldsSpec.pre6 enc Try.prog Try.f3 Rows.rankHoldsRow.domain false) (Rows.rankHoldsSpec.post enc Try.prog Try.f3 false true false false) := by
  refine returnsInHanded_of_change (C := Try.checked) Try.own started (by kernel_rfl) Try.func3
    (ChangeSpec.witness6 (enc := enc) (C := Try.checked) false ⟨#[], #[.slice none 0 0, .agg #[.int .u32 0, .int .u32 0, .int .u64 0, .int .u32 0, .int .u32 0, .int .i64 0, .int .i64 0]], []⟩ 8 (by kernel_rfl) (by kernel_rfl) (by kernel_rfl) (by kernel_rfl)) ?_
  intro W base args ds gs before hval0 hW hcnd _
  have hval : ∀ (j : Nat) t v, Try.f3.params[j]? = some t → args[j]? = some v → Value.okWide Try.prog W .any base t v := hval0
  have hW' := hW
  have hlt := fun p hp => hW.lt p hp
  obtain ⟨p, q, hA0, hV, rfl, hfz, hnd⟩ := hW
  have hA : DataW.TrodAll enc Try.prog W 0 (fun _ => true) true Try.f3.params.toList args.toList ds p := hA0
  rw [Try.params3] at hA hval
  obtain ⟨v0, v1, d0, d1, p0, p1, rfl, rfl, rfl, h0, h1⟩ := trodAll_two hA
  obtain ⟨rfl, rfl⟩ := trodVars_none hV
  obtain ⟨n, f, hs, hf⟩ := open_rows (m := 7) (l := [.int .u32, .int .u32, .int .u64, .int .u32, .int .u32, .int .i64, .int .i64]) (e := 30) Try.underlying22 (by kernel_rfl) (by kernel_rfl) (by decide) (hval 0 22 v0 rfl rfl) h0
  obtain ⟨l, hl⟩ := open_wts hs hf
  have hf1 := open_flat (m := 7) (l := [.int .u32, .int .u32, .int .u64, .int .u32, .int .u32, .int .i64, .int .i64]) (by kernel_rfl) h1
  obtain ⟨x, hx⟩ := fit_wt hf1
  have hv1 := agg_of hx
  subst hv1
  refine Calls.mono (calls_of_FN Try.func3 rfl rfl (RankHolds_c hl x)) fun e W' ⟨he, hw⟩ => ?_
  subst he
  have h0' := Below.trod Try.laidOut (by kernel_rfl) (by decide +kernel) h0 (below_of_ext hw) (fun x hx => hlt x (by simp [hx]))
  have h1' := Below.trod Try.laidOut (by kernel_rfl) (by decide +kernel) h1 (below_of_ext hw) (fun x hx => hlt x (by simp [hx]))
  have hargs := trodAll_mk2 h0' h1'
  refine ⟨_, rfl, _, [], _, [], _, [], hW', ?_, hargs, rfl, kept_of_ext hw _, fun h => by cases h⟩
  exact trodAll_mk1 (shut_bool Try.underlying4)
theorem RankHolds_holds : Rows.RankHoldsSaid :=
  OpenClaim.holds_of_wide 3 Try.f3 rfl rfl rfl rfl rfl rfl rfl ⟨rfl, rfl, rfl, rfl, rfl⟩ rfl rfl rfl rfl rfl (by kernel_rfl) Try.func3 (by kernel_rfl)
    (of_decide_eq_true (by kernel_rfl)) (by unfold Func.isWrapper; first | (rw [if_pos (by decide +kernel)]; kernel_rfl) | (rw [if_neg (by decide +kernel)]; exact ⟨rfl, rfl⟩))
    (fun os started H enc _ => RankHolds_lifted os started H enc)
end Go.Proofs.Ytfppepjaopbanaa
