/-
  Contracts of the functions that the law reaches, step by step.
-/
import Derived.ProofKit
import Derived.OpenShut
import Derived.Test.YthamfghcfjhifaaGreatDoorAmO
import Derived.Test.YthamfghcfjhifaaGreatDoorEngU
namespace Go.Proofs
open Go.ChangeShapes Go.WideShapes Go.ChangeAt Go.RowKit Go.Deep Pk
set_option maxRecDepth 10000
theorem fit_int {cs : List Value} {ks : List CK} {q : IntKind} (h : Fit (.int q :: ks) cs) : ∃ (x : Int) (cs' : List Value), cs = .int q x :: cs' ∧ (Lit.int q x).wf = true ∧ Fit ks cs' := by
  obtain ⟨v1, c1, e1, ⟨x, f1, w1⟩, h⟩ := h.cons
  exact ⟨x, c1, by rw [e1, f1], w1, h⟩
theorem fit_bool {cs : List Value} {ks : List CK} (h : Fit (.bool :: ks) cs) : ∃ (x : Bool) (cs' : List Value), cs = .bool x :: cs' ∧ Fit ks cs' := by
  obtain ⟨v1, c1, e1, ⟨x, f1⟩, h⟩ := h.cons
  exact ⟨x, c1, by rw [e1, f1], h⟩
/-- A row of elements, opened. -/
theorem fit_rec {cs : List Value} (h : Fit [.int .i64, .int .u32, .int .u32, .int .u64, .int .u32, .int .i64, .int .i64, .int .u64, .int .u64, .int .u32, .int .u32, .bool, .int .u64, .int .u64, .int .u8] cs) : ∃ r : Rec, cs = recC r ∧ RecOk r := by
  obtain ⟨a0, c0, rfl, w0, h⟩ := fit_int h
  obtain ⟨a1, c1, rfl, w1, h⟩ := fit_int h
  obtain ⟨a2, c2, rfl, w2, h⟩ := fit_int h
  obtain ⟨a3, c3, rfl, w3, h⟩ := fit_int h
  obtain ⟨a4, c4, rfl, w4, h⟩ := fit_int h
  obtain ⟨a5, c5, rfl, w5, h⟩ := fit_int h
  obtain ⟨a6, c6, rfl, w6, h⟩ := fit_int h
  obtain ⟨a7, c7, rfl, w7, h⟩ := fit_int h
  obtain ⟨a8, c8, rfl, w8, h⟩ := fit_int h
  obtain ⟨a9, c9, rfl, w9, h⟩ := fit_int h
  obtain ⟨a10, c10, rfl, w10, h⟩ := fit_int h
  obtain ⟨a11, c11, rfl, h'⟩ := fit_bool h
  clear h
  obtain ⟨a12, c12, rfl, w12, h⟩ := fit_int h'
  obtain ⟨a13, c13, rfl, w13, h⟩ := fit_int h
  obtain ⟨a14, c14, rfl, w14, h⟩ := fit_int h
  rw [h.nil]
  exact ⟨⟨a0, a1, a2, a3, a4, a5, a6, a7, a8, a9, a10, a11, a12, a13, a14⟩, rfl,
    ⟨bounds_u32 w1, bounds_u32 w2, bounds_u64 w3, bounds_u32 w4, bounds_i64 w5, bounds_i64 w6, bounds_u64 w7, bounds_u64 w8, bounds_u32 w9, bounds_u32 w10, bounds_u64 w12, bounds_u64 w13, bounds_u8 w14⟩⟩
theorem open_rec {H : Type} {enc : TypeId × Value → H} {W : World} {v : Value} {d : DataW H} {ps : List MemPlace} {base : Nat} (hv : Value.okWide Tryz.prog W .any base 30 v) (h : DataW.Trod enc Tryz.prog W 0 (fun _ => true) true 30 v d ps) : ∃ r : Rec, v = recV r ∧ RecOk r := by
  have hf := open_flat (m := 4) (l := [.int .i64, .int .u32, .int .u32, .int .u64, .int .u32, .int .i64, .int .i64, .int .u64, .int .u64, .int .u32, .int .u32, .bool, .int .u64, .int .u64, .int .u8]) (by kernel_rfl) h
  obtain ⟨r, hx, hr⟩ := fit_rec hf
  obtain ⟨cx, hcx, -⟩ := okWide_struct Tryz.underlying30 hv
  subst hcx
  have : cx.toList = recC r := hx
  exact ⟨r, by rw [show cx = (recC r).toArray from by rw [← this]], hr⟩
end Go.Proofs
