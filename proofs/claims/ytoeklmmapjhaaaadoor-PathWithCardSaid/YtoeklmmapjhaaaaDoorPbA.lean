/-
  Contracts of the functions that the law reaches, step by step.
-/
import Derived.Test.YtoeklmmapjhaaaaDoorRows
import Derived.Test.YtoeklmmapjhaaaaDoorCards
import Derived.Test.YtoeklmmapjhaaaaDoorTie
import Derived.ProofKit
import Derived.OpenShut
import Derived.JoinedOf
import Derived.Handed
import Derived.Lib.LaidIn
import Derived.Lib.LaidU8
import Derived.Test.YtoeklmmapjhaaaaDoorPaU
import Derived.Test.YtoeklmmapjhaaaaDoorPaZ
namespace Go.Proofs.YtoeklmmapjhaaaaDoor
open Go Go.ChangeShapes Go.WideShapes Go.ChangeAt Go.RowKit Go.Deep Pk
set_option maxRecDepth 100000
theorem Tryd.own : ownKnob Tryd.prog.godebug = Option.none := by kernel_rfl
theorem Tryd.laidOut : laidOutB Tryd.prog = true := by kernel_rfl
theorem kept_of_ext {w w' : World} (h : Ext w w') (may : MemPlace → Prop) : w.keptBut w' may := by
  refine ⟨h.os, h.out, fun i hi => ?_⟩
  rw [h.blk i hi]
  cases w.heap[i]? with
  | none => rfl
  | some o => cases o <;> simp
theorem shut_bool {H : Type} {enc : TypeId × Value → H} {P : Program} {w : World} {base : Nat} {spare : Nat → Bool} {held : Bool} {t : TypeId} {b : Bool} (ht : P.underlying t = some .bool) : DataW.Trod enc P w base spare held t (.bool b) (.lit (.bool b)) [] :=
  ⟨1, by simp [DataW.trod, Value.cells, ht]⟩
theorem below_of_ext {w w' : World} (h : Ext w w') : Go.RowKit.Below w.heap.size w w' := ⟨h.os, h.tape, h.out, h.size, h.blk⟩
/-- The settled world, the two tables laid. -/
noncomputable def laidWorld (os : Os) : World :=
  let w0 := World.holding Tryd.prog os ⟨#[], #[], []⟩
  let put (h : Array Obj) (g : Nat) (cs : Array Value) : Array Obj := h.modify g fun
    | .cells _ t frozen => .cells cs t frozen
    | o => o
  let h1 := put w0.heap 0 (Lib.firstTab.map fun z => Value.int .u8 z).toArray
  let h2 := put h1 1 ((List.range 16).flatMap fun i => [Value.int .u8 (Lib.accLo i), Value.int .u8 (Lib.accHi i)]).toArray
  { w0 with heap := h2 }
abbrev laidL : List (String × DataW Unit) := [("unicode/utf8.acceptRanges", Rows.laid_unicode_utf8_acceptRanges), ("unicode/utf8.first", Rows.laid_unicode_utf8_first)]
theorem laid_met (os : Os) (args : Array Value) : laidMetH Tryd.prog laidL ((laidWorld os).forCall (fun _ _ => 0) ⟨#[], args, []⟩).memory := by
  have h : laidMet Tryd.prog laidL ((laidWorld os).forCall (fun _ _ => 0) ⟨#[], args, []⟩).memory :=
    (LaidIn.of_run (l := laidL) [0, 1] 8 (by kernel_rfl) (by kernel_rfl) (by kernel_rfl) (by kernel_rfl)).met
  exact h
theorem PathWith_lifted (os : Os) (started : os.Started) (H : Type) (enc : TypeId × Value → H) :
    ReturnsInHanded {} Tryd.checked os 5 .any (fun w args => (Rows.pathWithSpec.pre enc Tryd.prog Tryd.f5 [] false w args ∧ laidMetH Tryd.prog laidL w) ∧ sizedMet enc Tryd.prog Tryd.f5 (OpenSpec.ofChange Rows.pathWithSpec) false w args)
      (Rows.pathWithSpec.post enc Tryd.prog Tryd.f5 false true false false) := by
  refine returnsInHanded_of_change_and (C := Tryd.checked) (X := fun w _ => laidMetH Tryd.prog laidL w) (fun _ _ _ hh h => h.of_heap hh) Tryd.own started (by kernel_rfl) Tryd.func5
    (ChangeSpec.witness_at (enc := enc) (C := Tryd.checked) (os := os) (X := fun w _ => laidMetH Tryd.prog laidL w) false (laidWorld os) #[.agg #[.bool false, .slice Option.none 0 0], .agg #[.int .u32 0, .bool false]] 8 rfl (by kernel_rfl) (by kernel_rfl) (by kernel_rfl) (by kernel_rfl) (by kernel_rfl) (laid_met os _)) ?_
  intro W base args ds gs before hval0 hW _ _ hL _
  have hval : ∀ (j : Nat) t v, Tryd.f5.params[j]? = some t → args[j]? = some v → Value.okWide Tryd.prog W .any base t v := hval0
  have hW' := hW
  have hlt := fun p hp => hW.lt p hp
  obtain ⟨p, q, hA0, hV0, rfl, hfz, hnd⟩ := hW
  have hA : DataW.TrodAll enc Tryd.prog W 0 (fun _ => true) true Tryd.f5.params.toList args.toList ds p := hA0
  rw [Tryd.params5] at hA hval
  obtain ⟨v0, v1, d0, d1, p0, p1, rfl, rfl, rfl, h0, h1⟩ := trodAll_two hA
  obtain ⟨rfl, rfl⟩ := trodVars_none hV0
  obtain ⟨back, sv, l, rfl, hl, hok⟩ := open_path (hval 0 24 v0 rfl rfl) h0
  have hf1 := open_flat (m := 3) (l := [.int .u32, .bool]) (by kernel_rfl) h1
  obtain ⟨x, hx, -⟩ := fit_cr hf1
  obtain ⟨cx, hcx, -⟩ := okWide_struct Tryd.underlying47 (hval 1 47 v1 rfl rfl)
  subst hcx
  have hv1 : Value.agg cx = crV x := by
    have : cx.toList = crC x := hx
    rw [show cx = (crC x).toArray from by rw [← this]]
  rw [hv1] at h1 hW' ⊢
  refine Calls.mono (calls_of_FN Tryd.func5 rfl rfl (lawWith_c hl back x hok)) fun e W' ⟨he, hw⟩ => ?_
  subst he
  have h0' := Below.trod Tryd.laidOut (by kernel_rfl) (by decide +kernel) h0 (below_of_ext hw) (fun x hx => hlt x (by simp [hx]))
  have h1' := Below.trod Tryd.laidOut (by kernel_rfl) (by decide +kernel) h1 (below_of_ext hw) (fun x hx => hlt x (by simp [hx]))
  have hargs := trodAll_mk2 h0' h1'
  refine ⟨_, rfl, _, [], _, [], _, [], hW', ?_, hargs, rfl, kept_of_ext hw _, fun h => by cases h⟩
  exact trodAll_mk1 (shut_bool Tryd.underlying4)
theorem PathWith_row : Rows.PathWithSaid :=
  OpenClaim.holds_of_wide 5 Tryd.f5 rfl rfl rfl rfl rfl rfl rfl ⟨rfl, rfl, rfl, rfl, rfl⟩ rfl rfl rfl rfl rfl (by kernel_rfl) Tryd.func5 (by kernel_rfl)
    (of_decide_eq_true (by kernel_rfl)) (by unfold Func.isWrapper; first | (rw [if_pos (by decide +kernel)]; kernel_rfl) | (rw [if_neg (by decide +kernel)]; exact ⟨rfl, rfl⟩))
    (fun os started H enc _ => PathWith_lifted os started H enc)
theorem PathWithCard_holds : Rows.PathWithCardSaid :=
  Claim7.holds_tied_plain_at .later [] [.data, .pinned] true (true, "6250b0ce3c30b2582de3b03d7a6670ecf12ec85f3604c995cf5e4c39ff87a50d") true
    PathWith_row (fun _ h => by cases h) (by kernel_rfl) (fun _ h => by cases h) pathWith_row_tie rfl ⟨rfl, rfl⟩ (by kernel_rfl) rfl
    (fun f fn hf hfn => by
      obtain rfl : f = 5 := Option.some.inj ((show Tryd.prog.funcNamed "packsaddle/packsaddlelaw07.PathWith" = some 5 by kernel_rfl).symm.trans hf) |>.symm
      obtain rfl : fn = Tryd.f5 := (Option.some.inj (Tryd.func5.symm.trans hfn)).symm
      exact ⟨by kernel_rfl, fun j t ht => by
        rw [Tryd.params5] at ht
        have h3 : t = 24 ∨ t = 47 := by
          rcases j with _ | _ | j
          · exact .inl (by simpa using ht.symm)
          · exact .inr (by simpa using ht.symm)
          · simp at ht
        rcases h3 with rfl | rfl
        · exact (show Tryd.prog.wantsStandIn 24 = false by kernel_rfl)
        · exact (show Tryd.prog.wantsStandIn 47 = false by kernel_rfl)⟩)
    (by kernel_rfl)
end Go.Proofs.YtoeklmmapjhaaaaDoor
