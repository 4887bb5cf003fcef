/-
  Contracts of the functions that the law reaches, step by step.
-/
import Derived.Test.YthamfghcfjhifaaGreatDoorRows
import Derived.Test.YthamfghcfjhifaaGreatDoorCards
import Derived.Test.YthamfghcfjhifaaGreatDoorTie
import Derived.ProofKit
import Derived.OpenShut
import Derived.JoinedOf
import Derived.Handed
import Derived.Lib.LaidIn
import Derived.Lib.LaidU8
import Derived.Test.YthamfghcfjhifaaGreatDoorAfA
import Derived.Test.YthamfghcfjhifaaGreatDoorAfD
namespace Go.Proofs.YthamfghcfjhifaaGreatDoor
open Go Go.ChangeShapes Go.WideShapes Go.ChangeAt Go.RowKit Go.Deep Pk
set_option maxRecDepth 100000
theorem Tryz.own : ownKnob Tryz.prog.godebug = Option.none := by kernel_rfl
theorem Tryz.laidOut : laidOutB Tryz.prog = true := by kernel_rfl
theorem kept_of_ext {w w' : World} (h : Ext w w') (may : MemPlace → Prop) : w.keptBut w' may := by
  refine ⟨h.os, h.out, fun i hi => ?_⟩
  rw [h.blk i hi]
  cases w.heap[i]? with
  | none => rfl
  | some o => cases o <;> simp
theorem shut_bool {H : Type} {enc : TypeId × Value → H} {P : Program} {w : World} {base : Nat} {spare : Nat → Bool} {held : Bool} {t : TypeId} {b : Bool} (ht : P.underlying t = some .bool) : DataW.Trod enc P w base spare held t (.bool b) (.lit (.bool b)) [] :=
  ⟨1, by simp [DataW.trod, Value.cells, ht]⟩
theorem below_of_ext {w w' : World} (h : Ext w w') : Go.RowKit.Below w.heap.size w w' := ⟨h.os, h.tape, h.out, h.size, h.blk⟩
/-- The settled world, the two tables laid. -/
noncomputable def laidWorld (os : Os) : World :=
  let w0 := World.holding Tryz.prog os ⟨#[], #[], []⟩
  let put (h : Array Obj) (g : Nat) (cs : Array Value) : Array Obj := h.modify g fun
    | .cells _ t frozen => .cells cs t frozen
    | o => o
  let h1 := put w0.heap 0 (Lib.firstTab.map fun z => Value.int .u8 z).toArray
  let h2 := put h1 1 ((List.range 16).flatMap fun i => [Value.int .u8 (Lib.accLo i), Value.int .u8 (Lib.accHi i)]).toArray
  { w0 with heap := h2 }
abbrev laidL : List (String × DataW Unit) := [("unicode/utf8.acceptRanges", Rows.laid_unicode_utf8_acceptRanges), ("unicode/utf8.first", Rows.laid_unicode_utf8_first)]
theorem laid_met (os : Os) (args : Array Value) : laidMetH Tryz.prog laidL ((laidWorld os).forCall (fun _ _ => 0) ⟨#[], args, []⟩).memory := by
  have h : laidMet Tryz.prog laidL ((laidWorld os).forCall (fun _ _ => 0) ⟨#[], args, []⟩).memory :=
    (LaidIn.of_run (l := laidL) [0, 1] 8 (by kernel_rfl) (by kernel_rfl) (by kernel_rfl) (by kernel_rfl)).met
  exact h
theorem open_nam {H : Type} {enc : TypeId × Value → H} {W : World} {v : Value} {d : DataW H} {ps : List MemPlace} {base : Nat} (hv : Value.okWide Tryz.prog W .any base 28 v) (h : DataW.Trod enc Tryz.prog W 0 (fun _ => true) true 28 v d ps) : ∃ n : Nam, v = namV n ∧ NamOk n ∧ (0 ≤ n.nt ∧ n.nt ≤ 18446744073709551615) := by
  have hf := open_flat (m := 4) (l := [.int .u32, .int .u32, .int .u64, .int .u32]) (by kernel_rfl) h
  obtain ⟨cx, rfl, -⟩ := okWide_struct Tryz.underlying28 hv
  obtain ⟨a0, c0, e0, w0, hf⟩ := fit_int hf
  obtain ⟨a1, c1, rfl, w1, hf⟩ := fit_int hf
  obtain ⟨a2, c2, rfl, w2, hf⟩ := fit_int hf
  obtain ⟨a3, c3, rfl, w3, hf⟩ := fit_int hf
  rw [hf.nil] at e0
  have e : cx.toList = namC ⟨a0, a1, a2, a3⟩ := e0
  exact ⟨⟨a0, a1, a2, a3⟩, by rw [show cx = (namC ⟨a0, a1, a2, a3⟩).toArray from by rw [← e]], ⟨bounds_u32 w0, bounds_u32 w1, bounds_u32 w3⟩, bounds_u64 w2⟩
theorem open_two {H : Type} {enc : TypeId × Value → H} {W : World} {v : Value} {d : DataW H} {ps : List MemPlace} {base : Nat} (hv : Value.okWide Tryz.prog W .any base 42 v) (h : DataW.Trod enc Tryz.prog W 0 (fun _ => true) true 42 v d ps) : ∃ a b : Int, v = .agg #[i64 a, i64 b] ∧ (-9223372036854775808 ≤ a ∧ a ≤ 9223372036854775807) ∧ (-9223372036854775808 ≤ b ∧ b ≤ 9223372036854775807) := by
  have hf := open_flat (m := 4) (l := [.int .i64, .int .i64]) (by kernel_rfl) h
  simp only [Value.okWide, Tryz.underlying42] at hv
  obtain ⟨cx, rfl, -, -⟩ := hv
  obtain ⟨a0, c0, e0, w0, hf⟩ := fit_int hf
  obtain ⟨a1, c1, rfl, w1, hf⟩ := fit_int hf
  rw [hf.nil] at e0
  have e : cx.toList = [i64 a0, i64 a1] := e0
  exact ⟨a0, a1, by rw [show cx = [i64 a0, i64 a1].toArray from by rw [← e]], bounds_i64 w0, bounds_i64 w1⟩
theorem open_u64 {H : Type} {enc : TypeId × Value → H} {W : World} {v : Value} {d : DataW H} {ps : List MemPlace} {base : Nat} (hv : Value.okWide Tryz.prog W .any base 26 v) (h : DataW.Trod enc Tryz.prog W 0 (fun _ => true) true 26 v d ps) : ∃ a : Int, v = u64 a ∧ (0 ≤ a ∧ a ≤ 18446744073709551615) := by
  have hf := open_flat (m := 4) (l := [.int .u64]) (by kernel_rfl) h
  obtain ⟨n, rfl⟩ := okWide_int Tryz.underlying26 hv
  obtain ⟨a0, c0, e0, w0, hf⟩ := fit_int hf
  rw [hf.nil] at e0
  have e : [u64 n] = [u64 a0] := e0
  simp at e
  subst e
  exact ⟨n, rfl, bounds_u64 w0⟩
theorem AdminReports_lifted (os : Os) (started : os.Started) (H : Type) (enc : TypeId × Value → H) :
    ReturnsInHanded {} Tryz.checked os 4 .any (fun w args => (Rows.adminReportsSpec.pre enc Tryz.prog Tryz.f4 [] false w args ∧ laidMetH Tryz.prog laidL w) ∧ sizedMet enc Tryz.prog Tryz.f4 (OpenSpec.ofChange Rows.adminReportsSpec) false w args)
      (Rows.adminReportsSpec.post enc Tryz.prog Tryz.f4 false true false false) := by
  refine returnsInHanded_of_change_and (C := Tryz.checked) (X := fun w _ => laidMetH Tryz.prog laidL w) (fun _ _ _ hh h => h.of_heap hh) Tryz.own started (by kernel_rfl) Tryz.func4
    (ChangeSpec.witness_at (enc := enc) (C := Tryz.checked) (os := os) (X := fun w _ => laidMetH Tryz.prog laidL w) false (laidWorld os) #[.agg #[.int .u32 0, .int .u32 0, .int .u64 0, .int .u32 0], .agg #[.int .i64 0, .int .i64 0], .int .u64 0] 8 rfl (by kernel_rfl) (by kernel_rfl) (by kernel_rfl) (by kernel_rfl) (by kernel_rfl) (laid_met os _)) ?_
  intro W base args ds gs before hval0 hW _ _ hL _
  have hval : ∀ (j : Nat) t v, Tryz.f4.params[j]? = some t → args[j]? = some v → Value.okWide Tryz.prog W .any base t v := hval0
  have hW' := hW
  have hlt := fun p hp => hW.lt p hp
  obtain ⟨p, q, hA0, hV0, rfl, hfz, hnd⟩ := hW
  have hA : DataW.TrodAll enc Tryz.prog W 0 (fun _ => true) true Tryz.f4.params.toList args.toList ds p := hA0
  rw [Tryz.params4] at hA hval
  obtain ⟨v0, v1, v2, d0, d1, d2, p0, p1, p2, rfl, rfl, rfl, h0, h1, h2⟩ := trodAll_three hA
  obtain ⟨rfl, rfl⟩ := trodVars_none hV0
  obtain ⟨n, rfl, hno, hnt⟩ := open_nam (hval 0 28 v0 rfl rfl) h0
  obtain ⟨wh, wy, rfl, b1, b2⟩ := open_two (hval 1 42 v1 rfl rfl) h1
  obtain ⟨at', rfl, b3⟩ := open_u64 (hval 2 26 v2 rfl rfl) h2
  refine Calls.mono (calls_of_FN Tryz.func4 rfl rfl (lawReports_c (repR_ok hno hnt b1 b2 b3) W)) fun e W' ⟨he, hw⟩ => ?_
  subst he
  have h0' := Below.trod Tryz.laidOut (by kernel_rfl) (by decide +kernel) h0 (below_of_ext hw) (fun x hx => hlt x (by simp [hx]))
  have h1' := Below.trod Tryz.laidOut (by kernel_rfl) (by decide +kernel) h1 (below_of_ext hw) (fun x hx => hlt x (by simp [hx]))
  have h2' := Below.trod Tryz.laidOut (by kernel_rfl) (by decide +kernel) h2 (below_of_ext hw) (fun x hx => hlt x (by simp [hx]))
  have hargs := trodAll_mk3 h0' h1' h2'
  refine ⟨_, rfl, _, [], _, [], _, [], hW', ?_, hargs, rfl, kept_of_ext hw _, fun h => by cases h⟩
  exact trodAll_mk1 (shut_bool Tryz.underlying4)
theorem AdminReports_row : Rows.AdminReportsSaid :=
  OpenClaim.holds_of_wide 4 Tryz.f4 rfl rfl rfl rfl rfl rfl rfl ⟨rfl, rfl, rfl, rfl, rfl⟩ rfl rfl rfl rfl rfl (by kernel_rfl) Tryz.func4 (by kernel_rfl)
    (of_decide_eq_true (by kernel_rfl)) (by unfold Func.isWrapper; first | (rw [if_pos (by decide +kernel)]; kernel_rfl) | (rw [if_neg (by decide +kernel)]; exact ⟨rfl, rfl⟩))
    (fun os started H enc _ => AdminReports_lifted os started H enc)
theorem AdminReportsCard_holds : Rows.AdminReportsCardSaid :=
  Claim7.holds_tied_plain_at .later [] [.data, .pinned] true (true, "a71ddfd10cc2383dfaff006a29eada719b8dcb67eda9ba7860d96695a6db28de") true
    AdminReports_row (fun _ h => by cases h) (by kernel_rfl) (fun _ h => by cases h) adminReports_row_tie rfl ⟨rfl, rfl⟩ (by kernel_rfl) rfl
    (fun f fn hf hfn => by
      obtain rfl : f = 4 := Option.some.inj ((show Tryz.prog.funcNamed "packsaddle/packsaddlelaw10.AdminReports" = some 4 by kernel_rfl).symm.trans hf) |>.symm
      obtain rfl : fn = Tryz.f4 := (Option.some.inj (Tryz.func4.symm.trans hfn)).symm
      exact ⟨by kernel_rfl, fun j t ht => by
        rw [Tryz.params4] at ht
        rcases j with _ | _ | _ | j
        · obtain rfl : t = 28 := by simpa using ht.symm
          exact (show Tryz.prog.wantsStandIn 28 = false by kernel_rfl)
        · obtain rfl : t = 42 := by simpa using ht.symm
          exact (show Tryz.prog.wantsStandIn 42 = false by kernel_rfl)
        · obtain rfl : t = 26 := by simpa using ht.symm
          exact (show Tryz.prog.wantsStandIn 26 = false by kernel_rfl)
        · simp at ht⟩)
    (by kernel_rfl)
end Go.Proofs.YthamfghcfjhifaaGreatDoor
