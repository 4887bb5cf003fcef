/-
  Contracts of the functions that the law reaches, step by step.
-/
import Derived.Test.YtljaeeagbokacaaRows
import Derived.ProofKit
import Derived.Test.YtljaeeagbokacaaTrI
namespace Go.Proofs.Ytljaeeagbokacaa
open Go.ChangeShapes Go.WideShapes Go.ChangeAt Go.RowKit Pk
theorem Try.own : ownKnob Try.prog.godebug = none := by kernel_rfl

theorem kept_of_ext {w w' : World} (h : Ext w w') (may : MemPlace → Prop) : w.keptBut w' may := by
  refine ⟨h.os, h.out, fun i hi => ?_⟩
  rw [h.blk i hi]
  cases w.heap[i]? with
  | none => rfl
  | some o => cases o <;> simp

theorem shut_bool {H : Type} {enc : TypeId × Value → H} {P : Program} {w : World} {base : Nat} {spare : Nat → Bool} {held : Bool} {t : TypeId} {b : Bool} (ht : P.underlying t = some .bool) : DataW.Trod enc P w base spare held t (.bool b) (.lit (.bool b)) [] :=
  ⟨1, by simp [DataW.trod, Value.cells, ht, Lit.wf]⟩
set_option maxRecDepth 100000 in
theorem TreeFull_lifted (os : Os) (started : os.Started) (H : Type) (enc : TypeId × Value → H) :
    ReturnsInHanded {} Try.checked os 4 .any (Rows.treeFullSpec.pre6 enc Try.prog Try.f4 Rows.treeFullRow.domain false) (Rows.treeFullSpec.post enc Try.prog Try.f4 false true false false) := by
  refine returnsInHanded_of_change (C := Try.checked) Try.own started (by kernel_rfl) Try.func4
    (ChangeSpec.witness6 (enc := enc) (C := Try.checked) false ⟨#[], #[.int .i64 0], []⟩ 8 (by kernel_rfl) (by kernel_rfl) (by kernel_rfl) (by kernel_rfl)) ?_
  intro W base args ds gs before hval0 hW hcnd _
  have hval : ∀ (j : Nat) t v, Try.f4.params[j]? = some t → args[j]? = some v → Value.okWide Try.prog W .any base t v := hval0
  have hW' := hW
  obtain ⟨p, q, hA0, hV, rfl, hfz, hnd⟩ := hW
  have hA : DataW.TrodAll enc Try.prog W 0 (fun _ => true) true Try.f4.params.toList args.toList ds p := hA0
  rw [Try.params4] at hA hval
  obtain ⟨v0, d0, rfl, rfl, h0⟩ := trodAll_one hA
  obtain ⟨rfl, rfl⟩ := trodVars_none hV
  obtain ⟨a, rfl, rfl, rfl, wa⟩ := open_int Try.underlying3 (hval 0 3 v0 rfl rfl) h0
  refine Calls.mono (calls_of_FN Try.func4 rfl rfl (TreeFull_c a W)) fun e W' ⟨he, hw⟩ => ?_
  subst he
  refine ⟨_, rfl, _, [], _, [], [], [], hW', ?_, ?_, rfl, kept_of_ext hw _, fun h => by cases h⟩
  · exact trodAll_mk1 (shut_bool Try.underlying4)
  · exact trodAll_mk1 (shut_int Try.underlying3 wa)
theorem TreeFull_holds : Rows.TreeFullSaid :=
  OpenClaim.holds_of_wide 4 Try.f4 rfl rfl rfl rfl rfl rfl rfl ⟨rfl, rfl, rfl, rfl, rfl⟩ rfl rfl rfl rfl rfl (by kernel_rfl) Try.func4 (by kernel_rfl)
    (of_decide_eq_true (by kernel_rfl)) (by unfold Func.isWrapper; first | (rw [if_pos (by decide +kernel)]; kernel_rfl) | (rw [if_neg (by decide +kernel)]; exact ⟨rfl, rfl⟩))
    (fun os started H enc _ => TreeFull_lifted os started H enc)
end Go.Proofs.Ytljaeeagbokacaa
