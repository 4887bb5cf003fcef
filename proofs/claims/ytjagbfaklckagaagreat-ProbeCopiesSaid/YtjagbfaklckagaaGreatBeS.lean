/-
  Contracts of the functions that the law reaches, step by step.
-/
import Derived.Test.YtjagbfaklckagaaGreatRows
import Derived.ProofKit
import Derived.OpenShut
import Derived.Test.YtjagbfaklckagaaGreatBeR
namespace Go.Proofs.YtjagbfaklckagaaGreat
open Go.ChangeShapes Go.WideShapes Go.ChangeAt Go.RowKit Go.Deep Pk
set_option maxRecDepth 100000
theorem Tryz.own : ownKnob Tryz.prog.godebug = none := by kernel_rfl
theorem Tryz.laidOut : laidOutB Tryz.prog = true := by kernel_rfl
theorem kept_of_ext {w w' : World} (h : Ext w w') (may : MemPlace → Prop) : w.keptBut w' may := by
  refine ⟨h.os, h.out, fun i hi => ?_⟩
  rw [h.blk i hi]
  cases w.heap[i]? with
  | none => rfl
  | some o => cases o <;> simp
theorem shut_bool {H : Type} {enc : TypeId × Value → H} {P : Program} {w : World} {base : Nat} {spare : Nat → Bool} {held : Bool} {t : TypeId} {b : Bool} (ht : P.underlying t = some .bool) : DataW.Trod enc P w base spare held t (.bool b) (.lit (.bool b)) [] :=
  ⟨1, by simp [DataW.trod, Value.cells, ht]⟩
theorem below_of_ext {w w' : World} (h : Ext w w') : Go.RowKit.Below w.heap.size w w' := ⟨h.os, h.tape, h.out, h.size, h.blk⟩
theorem fit_int {cs : List Value} {ks : List CK} {q : IntKind} (h : Fit (.int q :: ks) cs) : ∃ (x : Int) (cs' : List Value), cs = .int q x :: cs' ∧ (Lit.int q x).wf = true ∧ Fit ks cs' := by
  obtain ⟨v1, c1, e1, ⟨x, f1, w1⟩, h⟩ := h.cons
  exact ⟨x, c1, by rw [e1, f1], w1, h⟩
theorem fit_bool {cs : List Value} {ks : List CK} (h : Fit (.bool :: ks) cs) : ∃ (x : Bool) (cs' : List Value), cs = .bool x :: cs' ∧ Fit ks cs' := by
  obtain ⟨v1, c1, e1, ⟨x, f1⟩, h⟩ := h.cons
  exact ⟨x, c1, by rw [e1, f1], h⟩
/-- A row of elements, opened. -/
theorem open_els {α : Type} (g : α → List Value) (ok : α → Prop) {s : Nat} {l : List CK} {W : World} {v : Value} {n : Nat} {f : Nat → List Value} (hfit : ∀ cs, Fit l cs → ∃ x, cs = g x ∧ ok x) (h : SlA W s v n ((List.range n).flatMap f)) (hf : ∀ i, i < n → Fit l (f i)) :
    ∃ L : List α, SlA W s v L.length (L.flatMap g) ∧ ∀ q ∈ L, ok q := by
  have each : ∀ k, k ≤ n → ∃ L : List α, L.length = k ∧ L.flatMap g = (List.range k).flatMap f ∧ ∀ q ∈ L, ok q := by
    intro k
    induction k with
    | zero => exact fun _ => ⟨[], rfl, rfl, by simp⟩
    | succ k ih =>
      intro hk
      obtain ⟨L, h1, h2, h3⟩ := ih (by omega)
      obtain ⟨x, hx, hox⟩ := hfit _ (hf k (by omega))
      refine ⟨L ++ [x], by simp [h1], ?_, fun q hq => ?_⟩
      · rw [List.flatMap_append, h2, List.range_succ, List.flatMap_append]
        simp [hx]
      · rcases List.mem_append.1 hq with hq | hq
        · exact h3 q hq
        · simp at hq; subst hq; exact hox
  obtain ⟨L, h1, h2, h3⟩ := each n (Nat.le_refl _)
  refine ⟨L, ?_, h3⟩
  rw [h1, h2]
  exact h
theorem fit_cut : ∀ {k1 k2 : List CK} {cs : List Value}, Fit (k1 ++ k2) cs → ∃ a b, cs = a ++ b ∧ Fit k1 a ∧ Fit k2 b
  | [], _, cs, h => ⟨[], cs, rfl, trivial, h⟩
  | k :: k1, k2, cs, h => by
    obtain ⟨v, vs, rfl, hv, h⟩ := Fit.cons h
    obtain ⟨a, b, rfl, ha, hb⟩ := fit_cut h
    exact ⟨v :: a, b, rfl, ⟨hv, ha⟩, hb⟩
theorem fit_rec {cs : List Value} (h : Fit [.int .i64, .int .u32, .int .u32, .int .u64, .int .u32, .int .i64, .int .i64, .int .u64, .int .u64, .int .u32, .int .u32, .bool, .int .u64, .int .u64, .int .u8] cs) : ∃ r : Rec, cs = recC r ∧ RecOk r := by
  obtain ⟨a0, c0, rfl, w0, h⟩ := fit_int h
  obtain ⟨a1, c1, rfl, w1, h⟩ := fit_int h
  obtain ⟨a2, c2, rfl, w2, h⟩ := fit_int h
  obtain ⟨a3, c3, rfl, w3, h⟩ := fit_int h
  obtain ⟨a4, c4, rfl, w4, h⟩ := fit_int h
  obtain ⟨a5, c5, rfl, w5, h⟩ := fit_int h
  obtain ⟨a6, c6, rfl, w6, h⟩ := fit_int h
  obtain ⟨a7, c7, rfl, w7, h⟩ := fit_int h
  obtain ⟨a8, c8, rfl, w8, h⟩ := fit_int h
  obtain ⟨a9, c9, rfl, w9, h⟩ := fit_int h
  obtain ⟨a10, c10, rfl, w10, h⟩ := fit_int h
  obtain ⟨a11, c11, rfl, h'⟩ := fit_bool h
  clear h
  obtain ⟨a12, c12, rfl, w12, h⟩ := fit_int h'
  obtain ⟨a13, c13, rfl, w13, h⟩ := fit_int h
  obtain ⟨a14, c14, rfl, w14, h⟩ := fit_int h
  rw [h.nil]
  exact ⟨⟨a0, a1, a2, a3, a4, a5, a6, a7, a8, a9, a10, a11, a12, a13, a14⟩, rfl,
    ⟨bounds_u32 w1, bounds_u32 w2, bounds_u64 w3, bounds_u32 w4, bounds_i64 w5, bounds_i64 w6, bounds_u64 w7, bounds_u64 w8, bounds_u32 w9, bounds_u32 w10, bounds_u64 w12, bounds_u64 w13, bounds_u8 w14⟩⟩
theorem fit_ac {cs : List Value} (h : Fit (.int .i64 :: [.int .i64, .int .u32, .int .u32, .int .u64, .int .u32, .int .i64, .int .i64, .int .u64, .int .u64, .int .u32, .int .u32, .bool, .int .u64, .int .u64, .int .u8, .int .u64]) cs) : ∃ q : Ac, cs = acC q ∧ AcOk q := by
  obtain ⟨z, c0, rfl, wz, h⟩ := fit_int h
  obtain ⟨a, b, rfl, ha, hb⟩ := fit_cut (k1 := [.int .i64, .int .u32, .int .u32, .int .u64, .int .u32, .int .i64, .int .i64, .int .u64, .int .u64, .int .u32, .int .u32, .bool, .int .u64, .int .u64, .int .u8]) (k2 := [.int .u64]) h
  obtain ⟨r, rfl, hr⟩ := fit_rec ha
  obtain ⟨u, c1, rfl, wu, hb⟩ := fit_int hb
  rw [hb.nil]
  exact ⟨⟨z, r, u⟩, rfl, hr, (bounds_u64 wu).1⟩
theorem ProbePlays_lifted (os : Os) (started : os.Started) (H : Type) (enc : TypeId × Value → H) :
    ReturnsInHanded {} Tryz.checked os 5 .any (Rows.probePlaysSpec.pre6 enc Tryz.prog Tryz.f5 Rows.probePlaysRow.domain false) (Rows.probePlaysSpec.post enc Tryz.prog Tryz.f5 false true false false) := by
  refine returnsInHanded_of_change (C := Tryz.checked) Tryz.own started (by kernel_rfl) Tryz.func5
    (ChangeSpec.witness6 (enc := enc) (C := Tryz.checked) false ⟨#[], #[.int .u64 0, .slice none 0 0], []⟩ 8 (by kernel_rfl) (by kernel_rfl) (by kernel_rfl) (by kernel_rfl)) ?_
  intro W base args ds gs before hval0 hW hcnd _
  have hval : ∀ (j : Nat) t v, Tryz.f5.params[j]? = some t → args[j]? = some v → Value.okWide Tryz.prog W .any base t v := hval0
  have hW' := hW
  have hlt := fun p hp => hW.lt p hp
  obtain ⟨p, q, hA0, hV, rfl, hfz, hnd⟩ := hW
  have hA : DataW.TrodAll enc Tryz.prog W 0 (fun _ => true) true Tryz.f5.params.toList args.toList ds p := hA0
  rw [Tryz.params5] at hA hval
  obtain ⟨v0, v1, d0, d1, p0, p1, rfl, rfl, rfl, h0, h1⟩ := trodAll_two hA
  obtain ⟨rfl, rfl⟩ := trodVars_none hV
  obtain ⟨u, rfl, rfl, rfl, wu⟩ := open_int Tryz.underlying27 (hval 0 27 v0 rfl rfl) h0
  obtain ⟨n, f, hs, hf⟩ := open_rows (m := 5) (l := .int .i64 :: [.int .i64, .int .u32, .int .u32, .int .u64, .int .u32, .int .i64, .int .i64, .int .u64, .int .u64, .int .u32, .int .u32, .bool, .int .u64, .int .u64, .int .u8, .int .u64]) (e := 45) Tryz.underlying41 (by kernel_rfl) (by kernel_rfl) (by decide) (hval 1 41 v1 rfl rfl) h1
  obtain ⟨l, hl, hp⟩ := open_els acC AcOk (fun _ => fit_ac) hs hf
  refine Calls.mono (calls_of_FN Tryz.func5 rfl rfl (ProbePlays_c hl hp (bounds_u64 wu).1)) fun e W' ⟨he, hw⟩ => ?_
  subst he
  have h0' : DataW.Trod enc Tryz.prog W' 0 (fun b => decide (b < W.heap.size)) true 27 (.int .u64 u) (.lit (.int .u64 u)) [] := shut_int Tryz.underlying27 wu
  have h1' := Below.trod Tryz.laidOut (by kernel_rfl) (by decide +kernel) h1 (below_of_ext hw) (fun x hx => hlt x (by simp [hx]))
  have hargs := trodAll_mk2 h0' h1'
  refine ⟨_, rfl, _, [], _, [], _, [], hW', ?_, hargs, rfl, kept_of_ext hw _, fun h => by cases h⟩
  exact trodAll_mk1 (shut_bool Tryz.underlying4)
theorem ProbePlays_holds : Rows.ProbePlaysSaid :=
  OpenClaim.holds_of_wide 5 Tryz.f5 rfl rfl rfl rfl rfl rfl rfl ⟨rfl, rfl, rfl, rfl, rfl⟩ rfl rfl rfl rfl rfl (by kernel_rfl) Tryz.func5 (by kernel_rfl)
    (of_decide_eq_true (by kernel_rfl)) (by unfold Func.isWrapper; first | (rw [if_pos (by decide +kernel)]; kernel_rfl) | (rw [if_neg (by decide +kernel)]; exact ⟨rfl, rfl⟩))
    (fun os started H enc _ => ProbePlays_lifted os started H enc)
theorem ProbeCopies_lifted (os : Os) (started : os.Started) (H : Type) (enc : TypeId × Value → H) :
    ReturnsInHanded {} Tryz.checked os 6 .any (Rows.probeCopiesSpec.pre6 enc Tryz.prog Tryz.f6 Rows.probeCopiesRow.domain false) (Rows.probeCopiesSpec.post enc Tryz.prog Tryz.f6 false true false false) := by
  refine returnsInHanded_of_change (C := Tryz.checked) Tryz.own started (by kernel_rfl) Tryz.func6
    (ChangeSpec.witness6 (enc := enc) (C := Tryz.checked) false ⟨#[], #[.slice none 0 0, .agg #[.int .i64 0, .int .i64 0, .int .u32 0, .int .u32 0, .int .u64 0, .int .u32 0, .int .i64 0, .int .i64 0, .int .u64 0, .int .u64 0, .int .u32 0, .int .u32 0, .bool false, .int .u64 0, .int .u64 0, .int .u8 0, .int .u64 0, .int .i64 0, .int .i64 0, .int .u32 0, .int .u32 0, .int .u64 0, .int .u32 0, .int .i64 0, .int .i64 0, .int .u64 0, .int .u64 0, .int .u32 0, .int .u32 0, .bool false, .int .u64 0, .int .u64 0, .int .u8 0, .int .u64 0]], []⟩ 8 (by kernel_rfl) (by kernel_rfl) (by kernel_rfl) (by kernel_rfl)) ?_
  intro W base args ds gs before hval0 hW hcnd _
  have hval : ∀ (j : Nat) t v, Tryz.f6.params[j]? = some t → args[j]? = some v → Value.okWide Tryz.prog W .any base t v := hval0
  have hW' := hW
  have hlt := fun p hp => hW.lt p hp
  obtain ⟨p, q, hA0, hV, rfl, hfz, hnd⟩ := hW
  have hA : DataW.TrodAll enc Tryz.prog W 0 (fun _ => true) true Tryz.f6.params.toList args.toList ds p := hA0
  rw [Tryz.params6] at hA hval
  obtain ⟨v0, v1, d0, d1, p0, p1, rfl, rfl, rfl, h0, h1⟩ := trodAll_two hA
  obtain ⟨rfl, rfl⟩ := trodVars_none hV
  obtain ⟨n, f, hs, hf⟩ := open_rows (m := 5) (l := .int .i64 :: [.int .i64, .int .u32, .int .u32, .int .u64, .int .u32, .int .i64, .int .i64, .int .u64, .int .u64, .int .u32, .int .u32, .bool, .int .u64, .int .u64, .int .u8, .int .u64]) (e := 45) Tryz.underlying41 (by kernel_rfl) (by kernel_rfl) (by decide) (hval 0 41 v0 rfl rfl) h0
  obtain ⟨l, hl, hp⟩ := open_els acC AcOk (fun _ => fit_ac) hs hf
  have hfl := open_flat (m := 6) (l := (.int .i64 :: [.int .i64, .int .u32, .int .u32, .int .u64, .int .u32, .int .i64, .int .i64, .int .u64, .int .u64, .int .u32, .int .u32, .bool, .int .u64, .int .u64, .int .u8, .int .u64]) ++ (.int .i64 :: [.int .i64, .int .u32, .int .u32, .int .u64, .int .u32, .int .i64, .int .i64, .int .u64, .int .u64, .int .u32, .int .u32, .bool, .int .u64, .int .u64, .int .u8, .int .u64])) (by kernel_rfl) h1
  obtain ⟨a, b, hab, ha, hb⟩ := fit_cut hfl
  obtain ⟨q1, rfl, hq1⟩ := fit_ac ha
  obtain ⟨q2, rfl, hq2⟩ := fit_ac hb
  have hv1 := agg_of hab
  subst hv1
  refine Calls.mono (calls_of_FN Tryz.func6 rfl rfl (ProbeCopies_c (x0 := q1) (x1 := q2) hl hp hq1 hq2)) fun e W' ⟨he, hw⟩ => ?_
  subst he
  have h0' := Below.trod Tryz.laidOut (by kernel_rfl) (by decide +kernel) h0 (below_of_ext hw) (fun x hx => hlt x (by simp [hx]))
  have h1' := Below.trod Tryz.laidOut (by kernel_rfl) (by decide +kernel) h1 (below_of_ext hw) (fun x hx => hlt x (by simp [hx]))
  have hargs := trodAll_mk2 h0' h1'
  refine ⟨_, rfl, _, [], _, [], _, [], hW', ?_, hargs, rfl, kept_of_ext hw _, fun h => by cases h⟩
  exact trodAll_mk1 (shut_bool Tryz.underlying4)
theorem ProbeCopies_holds : Rows.ProbeCopiesSaid :=
  OpenClaim.holds_of_wide 6 Tryz.f6 rfl rfl rfl rfl rfl rfl rfl ⟨rfl, rfl, rfl, rfl, rfl⟩ rfl rfl rfl rfl rfl (by kernel_rfl) Tryz.func6 (by kernel_rfl)
    (of_decide_eq_true (by kernel_rfl)) (by unfold Func.isWrapper; first | (rw [if_pos (by decide +kernel)]; kernel_rfl) | (rw [if_neg (by decide +kernel)]; exact ⟨rfl, rfl⟩))
    (fun os started H enc _ => ProbeCopies_lifted os started H enc)
end Go.Proofs.YtjagbfaklckagaaGreat
