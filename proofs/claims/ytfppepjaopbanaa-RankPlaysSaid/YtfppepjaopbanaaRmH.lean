/-
  Contracts of the functions that the law reaches, step by step.
-/
import Derived.Test.YtfppepjaopbanaaRows
import Derived.ProofKit
import Derived.OpenShut
import Derived.Test.YtfppepjaopbanaaRmE
namespace Go.Proofs.Ytfppepjaopbanaa
open Go.ChangeShapes Go.WideShapes Go.ChangeAt Go.RowKit Go.Deep Pk
set_option maxRecDepth 100000
theorem Try.own : ownKnob Try.prog.godebug = none := by kernel_rfl
theorem Try.laidOut : laidOutB Try.prog = true := by kernel_rfl
theorem kept_of_ext {w w' : World} (h : Ext w w') (may : MemPlace → Prop) : w.keptBut w' may := by
  refine ⟨h.os, h.out, fun i hi => ?_⟩
  rw [h.blk i hi]
  cases w.heap[i]? with
  | none => rfl
  | some o => cases o <;> simp
theorem shut_bool {H : Type} {enc : TypeId × Value → H} {P : Program} {w : World} {base : Nat} {spare : Nat → Bool} {held : Bool} {t : TypeId} {b : Bool} (ht : P.underlying t = some .bool) : DataW.Trod enc P w base spare held t (.bool b) (.lit (.bool b)) [] :=
  ⟨1, by simp [DataW.trod, Value.cells, ht]⟩
theorem below_of_ext {w w' : World} (h : Ext w w') : Go.RowKit.Below w.heap.size w w' := ⟨h.os, h.tape, h.out, h.size, h.blk⟩
theorem fit_int {cs : List Value} {ks : List CK} {q : IntKind} (h : Fit (.int q :: ks) cs) : ∃ (x : Int) (cs' : List Value), cs = .int q x :: cs' ∧ (Lit.int q x).wf = true ∧ Fit ks cs' := by
  obtain ⟨v1, c1, e1, ⟨x, f1, w1⟩, h⟩ := h.cons
  exact ⟨x, c1, by rw [e1, f1], w1, h⟩
theorem wf_u32 {x : Int} (h : (Lit.int .u32 x).wf = true) : 0 ≤ x := by
  simp [Lit.wf] at h
  have := h.1
  simp [IntKind.min, IntKind.signed] at this
  omega
theorem wf_u64 {x : Int} (h : (Lit.int .u64 x).wf = true) : 0 ≤ x := by
  simp [Lit.wf] at h
  have := h.1
  simp [IntKind.min, IntKind.signed] at this
  omega
theorem fit_ac {cs : List Value} (h : Fit [.int .i64, .int .u32, .int .u32, .int .u64, .int .u32, .int .u32, .int .i64, .int .i64] cs) : ∃ x : Int × Wt, cs = acC x ∧ WtOk x.2 := by
  obtain ⟨n, c0, rfl, -, h⟩ := fit_int h
  obtain ⟨a, c1, rfl, wa, h⟩ := fit_int h
  obtain ⟨b, c2, rfl, -, h⟩ := fit_int h
  obtain ⟨c, c3, rfl, wc, h⟩ := fit_int h
  obtain ⟨d, c4, rfl, -, h⟩ := fit_int h
  obtain ⟨e, c5, rfl, we, h⟩ := fit_int h
  obtain ⟨f, c6, rfl, -, h⟩ := fit_int h
  obtain ⟨g, c7, rfl, -, h⟩ := fit_int h
  rw [h.nil]
  exact ⟨(n, (a, b, c, d), e, f, g), rfl, wf_u32 wa, wf_u32 we, wf_u64 wc⟩
theorem open_acs {W : World} {v : Value} {n : Nat} {f : Nat → List Value} (h : SlA W 8 v n ((List.range n).flatMap f)) (hf : ∀ i, i < n → Fit [.int .i64, .int .u32, .int .u32, .int .u64, .int .u32, .int .u32, .int .i64, .int .i64] (f i)) : ∃ l : List (Int × Wt), ASl W v l ∧ ∀ a ∈ l, WtOk a.2 := by
  obtain ⟨q, hq⟩ := choose_lt (p := fun i s => f i = acC s ∧ WtOk s.2) fun i hi => fit_ac (hf i hi)
  refine ⟨(List.range n).map q, ?_, fun a ha => ?_⟩
  · have e : ((List.range n).map q).flatMap acC = (List.range n).flatMap f := by
      rw [List.flatMap_map, List.flatMap_def, List.flatMap_def]
      congr 1
      refine List.map_congr_left fun i hi => ?_
      rw [(hq i (by simpa using hi)).1]
    show SlA W 8 v _ _
    rw [e]
    simpa using h
  · obtain ⟨i, hi, rfl⟩ := List.mem_map.1 ha
    exact (hq i (by simpa using hi)).2
theorem RankPlays_lifted (os : Os) (started : os.Started) (H : Type) (enc : TypeId × Value → H) :
    ReturnsInHanded {} Try.checked os 4 .any (Rows.rankPlaysSpec.pre6 enc Try.prog Try.f4 Rows.rankPlaysRow.domain false) (Rows.rankPlaysSpec.post enc Try.prog Try.f4 false true false false) := by
  refine returnsInHanded_of_change (C := Try.checked) Try.own started (by kernel_rfl) Try.func4
    (ChangeSpec.witness6 (enc := enc) (C := Try.checked) false ⟨#[], #[.int .i64 0, .slice none 0 0], []⟩ 8 (by kernel_rfl) (by kernel_rfl) (by kernel_rfl) (by kernel_rfl)) ?_
  intro W base args ds gs before hval0 hW hcnd _
  have hval : ∀ (j : Nat) t v, Try.f4.params[j]? = some t → args[j]? = some v → Value.okWide Try.prog W .any base t v := hval0
  have hW' := hW
  have hlt := fun p hp => hW.lt p hp
  obtain ⟨p, q, hA0, hV, rfl, hfz, hnd⟩ := hW
  have hA : DataW.TrodAll enc Try.prog W 0 (fun _ => true) true Try.f4.params.toList args.toList ds p := hA0
  rw [Try.params4] at hA hval
  obtain ⟨v0, v1, d0, d1, p0, p1, rfl, rfl, rfl, h0, h1⟩ := trodAll_two hA
  obtain ⟨rfl, rfl⟩ := trodVars_none hV
  obtain ⟨most, rfl, rfl, rfl, wm⟩ := open_int Try.underlying3 (hval 0 3 v0 rfl rfl) h0
  obtain ⟨n, f, hs, hf⟩ := open_rows (m := 8) (l := [.int .i64, .int .u32, .int .u32, .int .u64, .int .u32, .int .u32, .int .i64, .int .i64]) (e := 51) Try.underlying44 (by kernel_rfl) (by kernel_rfl) (by decide) (hval 1 44 v1 rfl rfl) h1
  obtain ⟨l, hl, hok⟩ := open_acs hs hf
  refine Calls.mono (calls_of_FN Try.func4 rfl rfl (RankPlays_c hl hok most)) fun e W' ⟨he, hw⟩ => ?_
  subst he
  have h0' : DataW.Trod enc Try.prog W' 0 (fun b => decide (b < W.heap.size)) true 3 (.int .i64 most) (.lit (.int .i64 most)) [] := shut_int Try.underlying3 wm
  have h1' := Below.trod Try.laidOut (by kernel_rfl) (by decide +kernel) h1 (below_of_ext hw) (fun x hx => hlt x (by simp [hx]))
  have hargs := trodAll_mk2 h0' h1'
  refine ⟨_, rfl, _, [], _, [], _, [], hW', ?_, hargs, rfl, kept_of_ext hw _, fun h => by cases h⟩
  exact trodAll_mk1 (shut_bool Try.underlying4)
theorem RankPlays_holds : Rows.RankPlaysSaid :=
  OpenClaim.holds_of_wide 4 Try.f4 rfl rfl rfl rfl rfl rfl rfl ⟨rfl, rfl, rfl, rfl, rfl⟩ rfl rfl rfl rfl rfl (by kernel_rfl) Try.func4 (by kernel_rfl)
    (of_decide_eq_true (by kernel_rfl)) (by unfold Func.isWrapper; first | (rw [if_pos (by decide +kernel)]; kernel_rfl) | (rw [if_neg (by decide +kernel)]; exact ⟨rfl, rfl⟩))
    (fun os started H enc _ => RankPlays_lifted os started H enc)
end Go.Proofs.Ytfppepjaopbanaa
