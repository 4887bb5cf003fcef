/-
  Contracts of the functions that the law reaches, step by step.
-/
import Derived.Test.YtjagbfaklckagaaGreatBdN
namespace Go.Proofs
open Pk
set_option maxRecDepth 10000
def rightB (r : Rec) : Bool := decide (rbareR r = r) && (decide (r.num ≤ 4294967295) && (decide (r.at' ≤ 4611686018427387903) && (decide (r.til ≤ 4611686018427387903) && (decide (0 < r.node) && (if r.kind = 4 then decide (r.fro ≤ r.til) && decide (r.lev ≤ 3) else decide (0 < r.reg))))))
theorem right_tell {r : Rec} (h : r.kind = 3) : (rightB r = true) ↔ tellE r = 0 := by
  unfold rightB rbareR tellE chk timesOk
  rw [if_pos h]
  by_cases hb : tellB r = r
  · have hf : r.fro = 0 := by rw [← hb]; rfl
    simp only [hb, decide_true, Bool.true_and, h, List.all_cons, List.all_nil, Bool.and_eq_true, decide_eq_true_eq, if_true, Bool.and_true]
    rw [hf]
    by_cases h1 : 0 < r.node
    · by_cases h2 : 0 < r.reg
      · by_cases h3 : 4294967295 < r.num
        · simp [h1, h2, h3]; omega
        · by_cases h4 : r.at' ≤ 4611686018427387903
          · by_cases h5 : r.til ≤ 4611686018427387903
            · simp [h1, h2, h3, h4, h5]; omega
            · simp [h1, h2, h3, h4, h5]
          · simp [h1, h2, h3, h4]
      · simp [h1, h2]; omega
    · simp [h1]; omega
  · simp only [hb, decide_false, Bool.false_and, Bool.false_eq_true, false_iff, if_false]
    split
    · split
      · simp
      · split <;> simp
    · simp
theorem right_fore {r : Rec} (h : r.kind = 4) : (rightB r = true) ↔ foreE r = 0 := by
  unfold rightB rbareR foreE chk timesOk foreF spnOk
  rw [if_neg (by omega)]
  by_cases hb : foreB r = r
  · have h1 : r.num = 0 := by rw [← hb]; rfl
    have h2 : r.at' = 0 := by rw [← hb]; rfl
    simp only [hb, decide_true, Bool.true_and, h, List.all_cons, List.all_nil, Bool.and_eq_true, decide_eq_true_eq, if_true, Bool.and_true, h1, h2]
    by_cases g1 : 0 < r.node
    · by_cases g2 : r.fro ≤ r.til
      · by_cases g3 : r.til ≤ 4611686018427387903
        · by_cases g4 : r.lev ≤ 3
          · simp [g1, g2, g3, g4]; omega
          · simp [g1, g2, g3, g4]
        · simp [g1, g2, g3]
      · simp [g1, g2]
    · simp [g1]
  · simp only [hb, decide_false, Bool.false_and, Bool.false_eq_true, false_iff, if_false]
    split
    · split
      · simp
      · split <;> simp
    · simp
set_option maxHeartbeats 2000000 in
theorem rright_c {r : Rec} (hr : RecOk r) (hk : r.kind = 3 ∨ r.kind = 4) (w : World) : FN Tryz.prog 76 [recV r] w fun e w' => e = .returned (.bool (rightB r)) ∧ Ext w w' := by
  refine FN_enter Tryz.func76 rfl rfl (by kernel_rfl) ?_
  simp
  have b1 : Blk (w.alloc (.cells #[i64 r.kind, u32 r.nn, u32 r.ns, u64 r.nt, u32 r.nq, i64 r.what, i64 r.why, u64 r.at', u64 r.num, u32 r.node, u32 r.reg, .bool r.yes, u64 r.fro, u64 r.til, u8 r.lev] 38)) w.heap.size (recC r) := Blk.new w _ _
  have hE1 : Ext w (w.alloc (.cells #[i64 r.kind, u32 r.nn, u32 r.ns, u64 r.nt, u32 r.nq, i64 r.what, i64 r.why, u64 r.at', u64 r.num, u32 r.node, u32 r.reg, .bool r.yes, u64 r.fro, u64 r.til, u8 r.lev] 38)) := (Ext.refl _).alloc _
  generalize (w.alloc (.cells #[i64 r.kind, u32 r.nn, u32 r.ns, u64 r.nt, u32 r.nq, i64 r.what, i64 r.why, u64 r.at', u64 r.num, u32 r.node, u32 r.reg, .bool r.yes, u64 r.fro, u64 r.til, u8 r.lev] 38)) = w1 at *
  have k1 : ¬ r.kind < 1 := by omega
  have k5 : ¬ 5 < r.kind := by omega
  have kn1 : ¬ r.kind = 1 := by omega
  refine WC_drawC 10 (.F 0 <| .F 1 <| .F 2 <| .F 3 <| .F 4 <| .F 5 <| .F 6 <| .F 7 <| .F 8 <| .C 9 <| .Z) (fun _ => false) rfl (by kernel_rfl) fun W hW => ?_
  have hWE : Ext w1 W := hW ▸ Ext.drew w1
  have c1 := b1.ext hWE
  simp [k1, k5, c1.cell 0 _ rfl, c1.cell 1 _ rfl, c1.cell 2 _ rfl, c1.cell 3 _ rfl, c1.cell 4 _ rfl, c1.cell 5 _ rfl, c1.cell 6 _ rfl, c1.cell 7 _ rfl, c1.cell 8 _ rfl, c1.cell 9 _ rfl, c1.cell 10 _ rfl, c1.cell 11 _ rfl, c1.cell 12 _ rfl, c1.cell 13 _ rfl, c1.cell 14 _ rfl]
  refine FN.mono (rbare_c hk W) ?_
  rintro _ w2 ⟨rfl, hE2⟩
  simp
  refine KR_ext hE2 ?_
  have hX := hE1.trans (hWE.trans hE2)
  have c2 := c1.ext hE2
  have hq := neqRec r (rbareR r) w2
  by_cases q1 : rbareR r = r
  · rw [decide_eq_true q1.symm] at hq
    have hn0 := hr.node.1
    have hr0 := hr.reg.1
    by_cases a1 : 4294967295 < r.num
    · simp [hq, c2.cell 8 _ rfl, a1]
      exact ⟨by simp [rightB, q1]; omega, hX⟩
    by_cases a2 : 4611686018427387903 < r.at'
    · simp [hq, c2.cell 7 _ rfl, c2.cell 8 _ rfl, a1, a2]
      exact ⟨by simp [rightB, q1]; omega, hX⟩
    by_cases a3 : 4611686018427387903 < r.til
    · simp [hq, c2.cell 7 _ rfl, c2.cell 8 _ rfl, c2.cell 13 _ rfl, a1, a2, a3]
      exact ⟨by simp [rightB, q1]; omega, hX⟩
    have e1 : rightB r = (decide (0 < r.node) && (if r.kind = 4 then decide (r.fro ≤ r.til) && decide (r.lev ≤ 3) else decide (0 < r.reg))) := by
      unfold rightB
      rw [decide_eq_true q1, decide_eq_true (show r.num ≤ 4294967295 by omega), decide_eq_true (show r.at' ≤ 4611686018427387903 by omega), decide_eq_true (show r.til ≤ 4611686018427387903 by omega)]
      simp only [Bool.true_and]
    rw [e1]
    simp [hq, c2.cell 7 _ rfl, c2.cell 8 _ rfl, c2.cell 13 _ rfl, a1, a2, a3]
    rcases hk with k3 | k3
    · by_cases a4 : 0 < r.node
      · simp [beq_dec, c2.cell 9 _ rfl, c2.cell 10 _ rfl, k3, a4]
        exact hX
      · simp [beq_dec, c2.cell 9 _ rfl, k3, a4]
        exact hX
    · by_cases a4 : 0 < r.node
      · by_cases a5 : r.fro ≤ r.til
        · simp [beq_dec, c2.cell 9 _ rfl, c2.cell 12 _ rfl, c2.cell 13 _ rfl, c2.cell 14 _ rfl, k3, a4, a5]
          exact hX
        · simp [beq_dec, c2.cell 9 _ rfl, c2.cell 12 _ rfl, c2.cell 13 _ rfl, k3, a4, a5]
          exact hX
      · simp [beq_dec, c2.cell 9 _ rfl, k3, a4]
        exact hX
  · rw [decide_eq_false (fun e => q1 e.symm)] at hq
    simp [hq]
    exact ⟨by simp [rightB, q1], hX⟩
end Go.Proofs
namespace Go.Proofs
open Pk
set_option maxRecDepth 10000
/-! ### The document's board: rows, as they came -/
structure Qt where
  n : Int
  g : Int
  r : Int
  a : Int
abbrev qC (q : Qt) : List Value := [u32 q.n, u32 q.g, u32 q.r, u64 q.a]
structure RB where
  Q : List Qt
  A : List Rec
  F : List Rec
  p : Int
  n : Int
structure RV where
  q : Value
  a : Value
  f : Value
abbrev rbC (V : RV) (b : RB) : List Value := [V.q, V.a, V.f, u64 b.p, u32 b.n]
abbrev rbV (V : RV) (b : RB) : Value := .agg #[V.q, V.a, V.f, u64 b.p, u32 b.n]
structure RbAt (w : World) (V : RV) (b : RB) : Prop where
  q : Sl w 4 V.q b.Q.length (b.Q.flatMap qC)
  a : Sl w 15 V.a b.A.length (b.A.flatMap recC)
  f : Sl w 15 V.f b.F.length (b.F.flatMap recC)
theorem RbAt.ext {w w' : World} {V : RV} {b : RB} (h : RbAt w V b) (hE : Ext w w') : RbAt w' V b := ⟨h.q.ext hE, h.a.ext hE, h.f.ext hE⟩
theorem rec_at {w : World} {v : Value} {l : List Rec} (h : Sl w 15 v l.length (l.flatMap recC)) {i : Nat} {x : Rec} (hi : l[i]? = some x) (j : Nat) (u : Value) (hj : j < 15) (e : (recC x)[j]? = some u) : w.cell? ⟨slB v, slO v + i * 15 + j, none⟩ = some u := by
  have d := h.at_ (i * 15 + j) u ((Pk.flat_at recC (fun _ => rfl) l i j x hi hj).trans e)
  simpa only [← Nat.add_assoc] using d
theorem ques_at {w : World} {v : Value} {l : List Qt} (h : Sl w 4 v l.length (l.flatMap qC)) {i : Nat} {x : Qt} (hi : l[i]? = some x) (j : Nat) (u : Value) (hj : j < 4) (e : (qC x)[j]? = some u) : w.cell? ⟨slB v, slO v + i * 4 + j, none⟩ = some u := by
  have d := h.at_ (i * 4 + j) u ((Pk.flat_at qC (fun _ => rfl) l i j x hi hj).trans e)
  simpa only [← Nat.add_assoc] using d
theorem rec_ix {w : World} {v : Value} {l : List Rec} (h : Sl w 15 v l.length (l.flatMap recC)) (i : Nat) (hi : i < l.length) (W : World) : (Instr.indexAt 51 v (.int .i64 (i : Int))).run Tryz.prog W = .ok (.pointer (some ⟨slB v, slO v + i * 15, none⟩)) W := by
  have := Sl.index (P := Tryz.prog) (t := 51) h (by simp) .i64 i (by omega) (by omega) W
  simpa using this
theorem ques_ix {w : World} {v : Value} {l : List Qt} (h : Sl w 4 v l.length (l.flatMap qC)) (i : Nat) (hi : i < l.length) (W : World) : (Instr.indexAt 50 v (.int .i64 (i : Int))).run Tryz.prog W = .ok (.pointer (some ⟨slB v, slO v + i * 4, none⟩)) W := by
  have := Sl.index (P := Tryz.prog) (t := 50) h (by simp) .i64 i (by omega) (by omega) W
  simpa using this
theorem RbAt.open {w : World} {V : RV} {b : RB} (h : RbAt w V b) : ∃ qa qc aa ac fa fc, V = ⟨.slice qa b.Q.length qc, .slice aa b.A.length ac, .slice fa b.F.length fc⟩ := by
  obtain ⟨qa, qc, h1⟩ := h.q.isSlice
  obtain ⟨aa, ac, h2⟩ := h.a.isSlice
  obtain ⟨fa, fc, h3⟩ := h.f.isSlice
  cases V
  simp only at h1 h2 h3
  exact ⟨qa, qc, aa, ac, fa, fc, by rw [h1, h2, h3]⟩
def rNew (p : Int) : RB := ⟨[], [], [], if 4611686018427387903 < p then 0 else p, 0⟩
theorem rnew_c (p : Int) (w : World) : FN Tryz.prog 16 [u64 p] w fun e w' => e = .returned (.tuple #[rbV ⟨.slice none 0 0, .slice none 0 0, .slice none 0 0⟩ (rNew p), .bool (!decide (4611686018427387903 < p))]) ∧ Ext w w' := by
  refine FN_enter Tryz.func16 rfl rfl (by kernel_rfl) ?_
  simp
  by_cases h : 4611686018427387903 < p
  · simp [h, rNew]
    exact (Ext.refl _).alloc _
  · simp [h, rNew]
    exact (Ext.refl _).alloc _
/-! ### Finding the first -/
def ixI {α : Type} (l : List α) (f : α → Bool) : Int := match l.findIdx? f with | some i => i | none => -1
theorem ixI_at {α : Type} {l : List α} {f : α → Bool} {i : Nat} (hi : i < l.length) (h1 : f l[i] = true) (h2 : ∀ j (hj : j < i), f l[j] = false) : ixI l f = i := by
  unfold ixI
  rw [List.findIdx?_eq_some_iff_getElem.2 ⟨hi, h1, fun j hj => by simp [h2 j hj]⟩]
theorem ixI_none {α : Type} {l : List α} {f : α → Bool} (h2 : ∀ j (hj : j < l.length), f l[j] = false) : ixI l f = -1 := by
  unfold ixI
  rw [List.findIdx?_eq_none_iff.2 fun x hx => by
    obtain ⟨j, hj, rfl⟩ := List.getElem_of_mem hx
    exact h2 j hj]
def onA (g x : Int) (r : Rec) : Bool := decide (r.node = g) && decide (r.reg = x)
theorem ransw_c {w : World} {V : RV} {b : RB} (h : RbAt w V b) (hb : b.A.length ≤ 1000000) (g x : Int) : FN Tryz.prog 77 [rbV V b, u32 g, u32 x] w fun e w' => e = .returned (i64 (ixI b.A (onA g x))) ∧ Ext w w' := by
  refine FN_enter Tryz.func77 rfl rfl (by kernel_rfl) ?_
  obtain ⟨qa, qc, aa, ac, fa, fc, rfl⟩ := h.open
  have hlen := fun ty W => h.a.isLen (P := Tryz.prog) (t := 51) (by simp) ty W
  simp
  have hE1 : Ext w (w.alloc (.cells #[.slice qa b.Q.length qc, .slice aa b.A.length ac, .slice fa b.F.length fc, u64 b.p, u32 b.n] 53)) := (Ext.refl _).alloc _
  have o1 : Blk (w.alloc (.cells #[.slice qa b.Q.length qc, .slice aa b.A.length ac, .slice fa b.F.length fc, u64 b.p, u32 b.n] 53)) w.heap.size [.slice qa b.Q.length qc, .slice aa b.A.length ac, .slice fa b.F.length fc, u64 b.p, u32 b.n] := Blk.new w _ _
  generalize (w.alloc (.cells #[.slice qa b.Q.length qc, .slice aa b.A.length ac, .slice fa b.F.length fc, u64 b.p, u32 b.n] 53)) = w1 at *
  have d1 := o1.cell 1 _ rfl
  refine WC_loop (fun k ρ ds w' => ∃ i : Nat, k = b.A.length - i ∧ i ≤ b.A.length ∧ ρ 1 = u32 g ∧ ρ 2 = u32 x ∧ ρ 3 = ptr w.heap.size ∧ ρ 7 = i64 i ∧ ds = [] ∧ w' = w1 ∧ ∀ j (hj : j < b.A.length), j < i → onA g x b.A[j] = false) b.A.length ⟨0, by simp, by simp, by simp, by simp, by simp, by simp, rfl, rfl, fun j _ h => by omega⟩ ?_
  rintro k ρ ds w2 ⟨i, rfl, hi, e1, e2, e3, e7, rfl, hE, hno⟩
  subst hE
  by_cases hlt : i < b.A.length
  · have r := rec_at (h.ext hE1).a (List.getElem?_eq_getElem hlt)
    have ix := rec_ix h.a i hlt w2
    have nx : IntKind.i64.wrap ((i : Int) + 1) = ((i + 1 : Nat) : Int) := by rw [wrap64 _ (by omega) (by omega)]; rfl
    have fin0 : onA g x b.A[i] = false → ∀ j (hj : j < b.A.length), j < i + 1 → onA g x b.A[j] = false := fun hq j hj hji => by
      rcases Nat.lt_succ_iff_lt_or_eq.1 hji with h1 | rfl
      · exact hno j hj h1
      · exact hq
    by_cases b0 : b.A[i].node = g
    · by_cases b1 : b.A[i].reg = x
      · simp [b0, b1, e1, e2, e3, e7, d1, hlen, hlt, ix, r 9 _ (by omega) rfl, r 10 _ (by omega) rfl]
        exact ⟨(ixI_at hlt (by simp [onA, b0, b1]) fun j hj => hno j (by omega) hj).symm, hE1⟩
      · simp [beq_dec, b0, b1, e1, e2, e3, e7, d1, hlen, hlt, ix, r 9 _ (by omega) rfl, r 10 _ (by omega) rfl, nx]
        exact ⟨b.A.length - (i + 1), by omega, i + 1, rfl, by omega, by simp, fin0 (by simp [onA, b0, b1])⟩
    · simp [beq_dec, b0, e1, e2, e3, e7, d1, hlen, hlt, ix, r 9 _ (by omega) rfl, nx]
      exact ⟨b.A.length - (i + 1), by omega, i + 1, rfl, by omega, by simp, fin0 (by simp [onA, b0])⟩
  · have : i = b.A.length := by omega
    subst this
    simp [e3, e7, d1, hlen]
    exact ⟨(ixI_none fun j hj => hno j hj hj).symm, hE1⟩
end Go.Proofs
namespace Go.Proofs
open Pk
set_option maxRecDepth 10000
structure Sy where
  y : Bool
  u : Int
  t : Bool
def sayD (b : RB) (g x : Int) : Sy := match b.A.find? (onA g x) with
  | some r => ⟨r.yes, r.til, true⟩
  | none => ⟨false, 0, false⟩
theorem ixI_say (b : RB) (g x : Int) : (ixI b.A (onA g x) < 0 ∧ sayD b g x = ⟨false, 0, false⟩) ∨ ∃ (i : Nat) (hi : i < b.A.length), ixI b.A (onA g x) = i ∧ sayD b g x = ⟨b.A[i].yes, b.A[i].til, true⟩ := by
  cases hf : b.A.findIdx? (onA g x) with
  | none =>
    left
    have : b.A.find? (onA g x) = none := List.find?_eq_none.2 fun r hr => by simpa using List.findIdx?_eq_none_iff.1 hf r hr
    simp [ixI, hf, sayD, this]
  | some i =>
    obtain ⟨h1, h2, h3⟩ := List.findIdx?_eq_some_iff_getElem.1 hf
    refine .inr ⟨i, h1, by simp [ixI, hf], ?_⟩
    have : b.A.find? (onA g x) = some b.A[i] := List.find?_eq_some_iff_getElem.2 ⟨h2, i, h1, rfl, fun j hj => by simpa using h3 j hj⟩
    simp [sayD, this]
theorem rsays_c {w : World} {V : RV} {b : RB} (h : RbAt w V b) (hb : b.A.length ≤ 1000000) (g x : Int) : FN Tryz.prog 80 [rbV V b, u32 g, u32 x] w fun e w' => e = .returned (.tuple #[.bool (sayD b g x).y, u64 (sayD b g x).u, .bool (sayD b g x).t]) ∧ Ext w w' := by
  refine FN_enter Tryz.func80 rfl rfl (by kernel_rfl) ?_
  have hcall := fun w (h : RbAt w V b) => ransw_c h hb g x
  obtain ⟨qa, qc, aa, ac, fa, fc, rfl⟩ := h.open
  simp
  have hE1 : Ext w (w.alloc (.cells #[.slice qa b.Q.length qc, .slice aa b.A.length ac, .slice fa b.F.length fc, u64 b.p, u32 b.n] 53)) := (Ext.refl _).alloc _
  have o1 : Blk (w.alloc (.cells #[.slice qa b.Q.length qc, .slice aa b.A.length ac, .slice fa b.F.length fc, u64 b.p, u32 b.n] 53)) w.heap.size [.slice qa b.Q.length qc, .slice aa b.A.length ac, .slice fa b.F.length fc, u64 b.p, u32 b.n] := Blk.new w _ _
  generalize (w.alloc (.cells #[.slice qa b.Q.length qc, .slice aa b.A.length ac, .slice fa b.F.length fc, u64 b.p, u32 b.n] 53)) = w1 at *
  refine FN.mono (hcall w1 (h.ext hE1)) ?_
  rintro _ w2 ⟨rfl, hE2⟩
  have hX := hE1.trans hE2
  rcases ixI_say b g x with ⟨h1, h2⟩ | ⟨i, hi, h1, h2⟩
  · rw [h2]
    simp [h1]
    exact hX
  · rw [h1, h2]
    have hn : ¬ ((i : Int) < 0) := by omega
    simp [hn]
    refine WC_drawC 13 (.F 0 <| .F 1 <| .F 2 <| .F 3 <| .F 4 <| .F 5 <| .F 6 <| .F 7 <| .F 8 <| .F 9 <| .F 10 <| .F 11 <| .F 12 <| .Z) (fun _ => false) rfl (by kernel_rfl) fun W hW => ?_
    have hWE : Ext w2 W := hW ▸ Ext.drew w2
    have hx := hX.trans hWE
    have r := rec_at (h.ext hx).a (List.getElem?_eq_getElem hi)
    have ix := rec_ix h.a i hi W
    simp [(o1.ext (hE2.trans hWE)).cell 1 _ rfl, ix, r 11 _ (by omega) rfl, r 13 _ (by omega) rfl]
    exact hx
def offD (b : RB) (g x a : Int) : Bool := (sayD b g x).t && (!(sayD b g x).y && decide (a < (sayD b g x).u))
theorem roff_c {w : World} {V : RV} {b : RB} (h : RbAt w V b) (hb : b.A.length ≤ 1000000) (g x a : Int) : FN Tryz.prog 81 [rbV V b, u32 g, u32 x, u64 a] w fun e w' => e = .returned (.bool (offD b g x a)) ∧ Ext w w' := by
  refine FN_enter Tryz.func81 rfl rfl (by kernel_rfl) ?_
  have hcall := fun w (h : RbAt w V b) => rsays_c h hb g x
  obtain ⟨qa, qc, aa, ac, fa, fc, rfl⟩ := h.open
  simp
  have hE1 : Ext w (w.alloc (.cells #[.slice qa b.Q.length qc, .slice aa b.A.length ac, .slice fa b.F.length fc, u64 b.p, u32 b.n] 53)) := (Ext.refl _).alloc _
  generalize (w.alloc (.cells #[.slice qa b.Q.length qc, .slice aa b.A.length ac, .slice fa b.F.length fc, u64 b.p, u32 b.n] 53)) = w1 at *
  refine FN.mono (hcall w1 (h.ext hE1)) ?_
  rintro _ w2 ⟨rfl, hE2⟩
  have hX := hE1.trans hE2
  unfold offD
  cases (sayD b g x).t <;> cases (sayD b g x).y <;> simp <;> exact hX
def hitD (g a : Int) (r : Rec) : Bool := decide (r.node = g) && (decide (r.fro ≤ a) && decide (a < r.til))
def lvlD (l : List Rec) (g a : Int) : Int := l.foldl (fun L r => if hitD g a r then max L r.lev else L) 0
theorem lvlD_succ {l : List Rec} {i : Nat} (hi : i < l.length) (g a : Int) : lvlD (l.take (i + 1)) g a = if hitD g a l[i] then max (lvlD (l.take i) g a) l[i].lev else lvlD (l.take i) g a := by
  unfold lvlD
  rw [List.take_add_one, List.getElem?_eq_getElem hi, List.foldl_append]
  rfl
theorem rlevel_c {w : World} {V : RV} {b : RB} (h : RbAt w V b) (hb : b.F.length ≤ 1000000) (g a : Int) : FN Tryz.prog 82 [rbV V b, u32 g, u64 a] w fun e w' => e = .returned (u8 (lvlD b.F g a)) ∧ Ext w w' := by
  refine FN_enter Tryz.func82 rfl rfl (by kernel_rfl) ?_
  obtain ⟨qa, qc, aa, ac, fa, fc, rfl⟩ := h.open
  have hlen := fun ty W => h.f.isLen (P := Tryz.prog) (t := 51) (by simp) ty W
  simp
  have hE1 : Ext w (w.alloc (.cells #[.slice qa b.Q.length qc, .slice aa b.A.length ac, .slice fa b.F.length fc, u64 b.p, u32 b.n] 53)) := (Ext.refl _).alloc _
  have o1 : Blk (w.alloc (.cells #[.slice qa b.Q.length qc, .slice aa b.A.length ac, .slice fa b.F.length fc, u64 b.p, u32 b.n] 53)) w.heap.size [.slice qa b.Q.length qc, .slice aa b.A.length ac, .slice fa b.F.length fc, u64 b.p, u32 b.n] := Blk.new w _ _
  generalize (w.alloc (.cells #[.slice qa b.Q.length qc, .slice aa b.A.length ac, .slice fa b.F.length fc, u64 b.p, u32 b.n] 53)) = w1 at *
  have d1 := o1.cell 2 _ rfl
  refine WC_loop (fun k ρ ds w' => ∃ i : Nat, k = b.F.length - i ∧ i ≤ b.F.length ∧ ρ 1 = u32 g ∧ ρ 2 = u64 a ∧ ρ 3 = ptr w.heap.size ∧ ρ 7 = u8 (lvlD (b.F.take i) g a) ∧ ρ 8 = i64 i ∧ ds = [] ∧ w' = w1) b.F.length ⟨0, by simp, by simp, by simp, by simp, by simp, by simp [lvlD], by simp, rfl, rfl⟩ ?_
  rintro k ρ ds w2 ⟨i, rfl, hi, e1, e2, e3, e7, e8, rfl, hE⟩
  subst hE
  by_cases hlt : i < b.F.length
  · have r := rec_at (h.ext hE1).f (List.getElem?_eq_getElem hlt)
    have ix := rec_ix h.f i hlt w2
    have nx : IntKind.i64.wrap ((i : Int) + 1) = ((i + 1 : Nat) : Int) := by rw [wrap64 _ (by omega) (by omega)]; rfl
    have hs := lvlD_succ hlt g a
    by_cases b0 : b.F[i].node = g
    · by_cases b1 : b.F[i].fro ≤ a
      · by_cases b2 : a < b.F[i].til
        · rw [if_pos (by simp [hitD, b0, b1, b2])] at hs
          simp [b0, b1, b2, e1, e2, e3, e7, e8, d1, hlen, hlt, ix, r 9 _ (by omega) rfl, r 12 _ (by omega) rfl, r 13 _ (by omega) rfl, r 14 _ (by omega) rfl, nx]
          exact ⟨b.F.length - (i + 1), by omega, i + 1, rfl, by omega, hs.symm, by simp⟩
        · rw [if_neg (by simp [hitD, b0, b1, b2])] at hs
          simp [b0, b1, b2, e1, e2, e3, e7, e8, d1, hlen, hlt, ix, r 9 _ (by omega) rfl, r 12 _ (by omega) rfl, r 13 _ (by omega) rfl, nx]
          exact ⟨b.F.length - (i + 1), by omega, i + 1, rfl, by omega, hs.symm, by simp⟩
      · rw [if_neg (by simp [hitD, b0, b1])] at hs
        simp [b0, b1, e1, e2, e3, e7, e8, d1, hlen, hlt, ix, r 9 _ (by omega) rfl, r 12 _ (by omega) rfl, nx]
        exact ⟨b.F.length - (i + 1), by omega, i + 1, rfl, by omega, hs.symm, by simp⟩
    · rw [if_neg (by simp [hitD, b0])] at hs
      simp [beq_dec, b0, e1, e2, e3, e7, e8, d1, hlen, hlt, ix, r 9 _ (by omega) rfl, nx]
      exact ⟨b.F.length - (i + 1), by omega, i + 1, rfl, by omega, hs.symm, by simp⟩
  · have : i = b.F.length := by omega
    subst this
    rw [List.take_length] at e7
    simp [e3, e7, e8, d1, hlen]
    exact hE1
theorem rtop_c (n : Int) (w : World) : FN Tryz.prog 95 [u64 n] w fun e w' => e = .returned (u64 (top n)) ∧ w' = w := by
  refine FN_enter Tryz.func95 rfl rfl (by kernel_rfl) ?_
  simp [top]
theorem radd_c (a b : Int) (ha : 0 ≤ a) (hb : 0 ≤ b) (w : World) : FN Tryz.prog 79 [u64 a, u64 b] w fun e w' => e = .returned (u64 (addT a b)) ∧ w' = w := by
  refine FN_enter Tryz.func79 rfl rfl (by kernel_rfl) ?_
  have h1 := top_le a
  have h2 := top_le b
  have h3 := top_0 ha
  have h4 := top_0 hb
  simp
  refine FN.mono (rtop_c a w) ?_
  rintro _ w1 ⟨rfl, h⟩
  subst h
  simp
  refine FN.mono (rtop_c b w1) ?_
  rintro _ w2 ⟨rfl, h⟩
  subst h
  simp
  rw [wrap64u _ (by omega) (by omega)]
  refine FN.mono (rtop_c (top a + top b) w2) ?_
  rintro _ w3 ⟨rfl, h⟩
  subst h
  simp [addT]
end Go.Proofs
namespace Go.Proofs
open Pk
set_option maxRecDepth 10000
theorem ext5 {w W : World} {b : Nat} (h : Ext w W) (hb : w.heap.size ≤ b) (v0 v1 v2 v3 v4 : Value) : Ext w (((((W.setCell ⟨b, 0, none⟩ v0).setCell ⟨b, 1, none⟩ v1).setCell ⟨b, 2, none⟩ v2).setCell ⟨b, 3, none⟩ v3).setCell ⟨b, 4, none⟩ v4) :=
  ((((h.setCell _ _ hb).setCell _ _ hb).setCell _ _ hb).setCell _ _ hb).setCell _ _ hb
theorem q_one (l : List Qt) : ∀ u ∈ l.flatMap qC, u.oneCell' = true := by
  intro u hu
  obtain ⟨q, -, hu⟩ := List.mem_flatMap.1 hu
  simp [qC] at hu
  rcases hu with rfl | rfl | rfl | rfl <;> rfl
theorem r_one (l : List Rec) : ∀ u ∈ l.flatMap recC, u.oneCell' = true := by
  intro u hu
  obtain ⟨q, -, hu⟩ := List.mem_flatMap.1 hu
  simp [recC] at hu
  rcases hu with rfl | rfl | rfl | rfl | rfl | rfl | rfl | rfl | rfl | rfl | rfl | rfl | rfl | rfl | rfl <;> rfl
/-- The rows lie outside of those blocks. -/
structure RbOff (S : Nat → Prop) (V : RV) (b : RB) : Prop where
  q : b.Q ≠ [] → ¬ S (slB V.q)
  a : b.A ≠ [] → ¬ S (slB V.a)
  f : b.F ≠ [] → ¬ S (slB V.f)
def Kept (w : World) (V : RV) (b : RB) (V' : RV) (b' : RB) : Prop := ∀ S : Nat → Prop, (∀ k, S k → k < w.heap.size) → RbOff S V b → RbOff S V' b'
theorem Kept.refl (w : World) (V : RV) (b : RB) : Kept w V b V b := fun _ _ h => h
theorem RbAt.mod {w w' : World} {V : RV} {b : RB} {S : Nat → Prop} (h : RbAt w V b) (hM : Mod S w w') (ho : RbOff S V b) : RbAt w' V b :=
  ⟨sl_mod h.q hM fun hn => ho.q fun e => hn (by rw [e]; rfl), sl_mod h.a hM fun hn => ho.a fun e => hn (by rw [e]; rfl), sl_mod h.f hM fun hn => ho.f fun e => hn (by rw [e]; rfl)⟩
def onQ (g x : Int) (q : Qt) : Bool := decide (q.g = g) && decide (q.r = x)
def rAskR (b : RB) (g x a : Int) : Int := if g = 0 ∨ x = 0 ∨ 4611686018427387903 < a then 2 else if b.Q.any (onQ g x) then 150 else if 256 ≤ b.Q.length then 330 else 0
def rAskB (b : RB) (g x a : Int) : RB := if rAskR b g x a = 0 then { b with Q := b.Q ++ [⟨b.n, g, x, a⟩], n := IntKind.u32.wrap (b.n + 1) } else b
def rTup (V : RV) (b : RB) (n c : Int) : Value := .tuple #[rbV V b, u32 n, i64 c]
set_option maxHeartbeats 2000000 in
theorem rask_c {w : World} {V : RV} {b : RB} (h : RbAt w V b) (hb : b.Q.length ≤ 1000) (g x a : Int) : FN Tryz.prog 47 [rbV V b, u32 g, u32 x, u64 a] w fun e w' => ∃ V', e = .returned (rTup V' (rAskB b g x a) (if rAskR b g x a = 0 then b.n else 0) (rAskR b g x a)) ∧ RbAt w' V' (rAskB b g x a) ∧ Ext w w' ∧ Kept w V b V' (rAskB b g x a) := by
  refine FN_enter Tryz.func47 rfl rfl (by kernel_rfl) ?_
  obtain ⟨qa, qc, aa, ac, fa, fc, rfl⟩ := h.open
  have hlen := fun ty W => h.q.isLen (P := Tryz.prog) (t := 50) (by simp) ty W
  simp
  have hE1 : Ext w ((w.alloc (.cells #[.slice qa b.Q.length qc, .slice aa b.A.length ac, .slice fa b.F.length fc, u64 b.p, u32 b.n] 53)).alloc (.cells #[.slice none 0 0, .slice none 0 0, .slice none 0 0, u64 0, u32 0] 53)) := ((Ext.refl _).alloc _).alloc _
  have o1 : Blk ((w.alloc (.cells #[.slice qa b.Q.length qc, .slice aa b.A.length ac, .slice fa b.F.length fc, u64 b.p, u32 b.n] 53)).alloc (.cells #[.slice none 0 0, .slice none 0 0, .slice none 0 0, u64 0, u32 0] 53)) w.heap.size [.slice qa b.Q.length qc, .slice aa b.A.length ac, .slice fa b.F.length fc, u64 b.p, u32 b.n] := (Blk.new w _ _).ext ((Ext.refl _).alloc _)
  have o2 : Blk ((w.alloc (.cells #[.slice qa b.Q.length qc, .slice aa b.A.length ac, .slice fa b.F.length fc, u64 b.p, u32 b.n] 53)).alloc (.cells #[.slice none 0 0, .slice none 0 0, .slice none 0 0, u64 0, u32 0] 53)) (w.heap.size + 1) [.slice none 0 0, .slice none 0 0, .slice none 0 0, u64 0, u32 0] := by
    have := Blk.new (w.alloc (.cells #[.slice qa b.Q.length qc, .slice aa b.A.length ac, .slice fa b.F.length fc, u64 b.p, u32 b.n] 53)) [.slice none 0 0, .slice none 0 0, .slice none 0 0, u64 0, u32 0] 53
    simpa using this
  generalize ((w.alloc (.cells #[.slice qa b.Q.length qc, .slice aa b.A.length ac, .slice fa b.F.length fc, u64 b.p, u32 b.n] 53)).alloc (.cells #[.slice none 0 0, .slice none 0 0, .slice none 0 0, u64 0, u32 0] 53)) = w1 at *
  have h1 := h.ext hE1
  have bad : ∀ c, c ≠ 0 → rAskR b g x a = c → rAskB b g x a = b := fun c hc e => by unfold rAskB; rw [if_neg (by omega)]
  by_cases c1 : g = 0 ∨ x = 0 ∨ 4611686018427387903 < a
  · have hR : rAskR b g x a = 2 := by unfold rAskR; rw [if_pos c1]
    rw [bad 2 (by decide) hR, hR]
    have fin := h.ext (ext5 hE1 (Nat.le_succ _) (.slice qa b.Q.length qc) (.slice aa b.A.length ac) (.slice fa b.F.length fc) (u64 b.p) (u32 b.n))
    have fin2 := (ext5 hE1 (Nat.le_succ _) (.slice qa b.Q.length qc) (.slice aa b.A.length ac) (.slice fa b.F.length fc) (u64 b.p) (u32 b.n))
    by_cases g0 : g = 0
    · simp [g0, o1.cell 0 _ rfl, o1.cell 1 _ rfl, o1.cell 2 _ rfl, o1.cell 3 _ rfl, o1.cell 4 _ rfl, o2.cell 0 _ rfl, o2.cell 1 _ rfl, o2.cell 2 _ rfl, o2.cell 3 _ rfl, o2.cell 4 _ rfl, o2.thaw, cell_setCell]
      exact ⟨⟨_, _, _⟩, rfl, fin, fin2, Kept.refl _ _ _⟩
    · by_cases x0 : x = 0
      · simp [beq_dec, g0, x0, o1.cell 0 _ rfl, o1.cell 1 _ rfl, o1.cell 2 _ rfl, o1.cell 3 _ rfl, o1.cell 4 _ rfl, o2.cell 0 _ rfl, o2.cell 1 _ rfl, o2.cell 2 _ rfl, o2.cell 3 _ rfl, o2.cell 4 _ rfl, o2.thaw, cell_setCell]
        exact ⟨⟨_, _, _⟩, rfl, fin, fin2, Kept.refl _ _ _⟩
      · have a0 : 4611686018427387903 < a := by omega
        simp [beq_dec, g0, x0, a0, o1.cell 0 _ rfl, o1.cell 1 _ rfl, o1.cell 2 _ rfl, o1.cell 3 _ rfl, o1.cell 4 _ rfl, o2.cell 0 _ rfl, o2.cell 1 _ rfl, o2.cell 2 _ rfl, o2.cell 3 _ rfl, o2.cell 4 _ rfl, o2.thaw, cell_setCell]
        exact ⟨⟨_, _, _⟩, rfl, fin, fin2, Kept.refl _ _ _⟩
  have g0 : ¬ g = 0 := fun e => c1 (.inl e)
  have x0 : ¬ x = 0 := fun e => c1 (.inr (.inl e))
  have a0 : ¬ 4611686018427387903 < a := fun e => c1 (.inr (.inr e))
  simp [beq_dec, g0, x0, a0]
  refine WC_loop (fun k ρ ds w' => ∃ i : Nat, k = b.Q.length - i ∧ i ≤ b.Q.length ∧ ρ 1 = u32 g ∧ ρ 2 = u32 x ∧ ρ 3 = u64 a ∧ ρ 4 = ptr w.heap.size ∧ ρ 8 = ptr (w.heap.size + 1) ∧ ρ 11 = i64 i ∧ ds = [] ∧ w' = w1 ∧ ∀ j (hj : j < b.Q.length), j < i → onQ g x b.Q[j] = false) b.Q.length ⟨0, by simp, by simp, by simp, by simp, by simp, by simp, by simp, by simp, rfl, rfl, fun j _ h => by omega⟩ ?_
  rintro k ρ ds w2 ⟨i, rfl, hi, e1, e2, e3, e4, e8, e11, rfl, hE, hno⟩
  subst hE
  by_cases hlt : i < b.Q.length
  · have r := ques_at h1.q (List.getElem?_eq_getElem hlt)
    have ix := ques_ix h.q i hlt w2
    have nx : IntKind.i64.wrap ((i : Int) + 1) = ((i + 1 : Nat) : Int) := by rw [wrap64 _ (by omega) (by omega)]; rfl
    have fin0 : onQ g x b.Q[i] = false → ∀ j (hj : j < b.Q.length), j < i + 1 → onQ g x b.Q[j] = false := fun hq j hj hji => by
      rcases Nat.lt_succ_iff_lt_or_eq.1 hji with h1 | rfl
      · exact hno j hj h1
      · exact hq
    by_cases b0 : b.Q[i].g = g
    · by_cases b1 : b.Q[i].r = x
      · have hany : b.Q.any (onQ g x) = true := List.any_eq_true.2 ⟨b.Q[i], by simp, by simp [onQ, b0, b1]⟩
        have hR : rAskR b g x a = 150 := by unfold rAskR; rw [if_neg c1, if_pos hany]
        rw [bad 150 (by decide) hR, hR]
        simp [b0, b1, e1, e2, e4, e8, e11, o1.cell 0 _ rfl, o1.cell 1 _ rfl, o1.cell 2 _ rfl, o1.cell 3 _ rfl, o1.cell 4 _ rfl, o2.cell 0 _ rfl, o2.cell 1 _ rfl, o2.cell 2 _ rfl, o2.cell 3 _ rfl, o2.cell 4 _ rfl, o2.thaw, cell_setCell, hlen, hlt, ix, r 1 _ (by omega) rfl, r 2 _ (by omega) rfl]
        exact ⟨⟨_, _, _⟩, rfl, h.ext (ext5 hE1 (Nat.le_succ _) _ _ _ _ _), ext5 hE1 (Nat.le_succ _) _ _ _ _ _, Kept.refl _ _ _⟩
      · simp [beq_dec, b0, b1, e1, e2, e3, e4, e8, e11, o1.cell 0 _ rfl, hlen, hlt, ix, r 1 _ (by omega) rfl, r 2 _ (by omega) rfl, nx]
        exact ⟨b.Q.length - (i + 1), by omega, i + 1, rfl, by omega, by simp, fin0 (by simp [onQ, b0, b1])⟩
    · simp [beq_dec, b0, e1, e2, e3, e4, e8, e11, o1.cell 0 _ rfl, hlen, hlt, ix, r 1 _ (by omega) rfl, nx]
      exact ⟨b.Q.length - (i + 1), by omega, i + 1, rfl, by omega, by simp, fin0 (by simp [onQ, b0])⟩
  · have : i = b.Q.length := by omega
    subst this
    have hany : ¬ b.Q.any (onQ g x) = true := fun e => by
      obtain ⟨q, hq, hh⟩ := List.any_eq_true.1 e
      obtain ⟨j, hj, rfl⟩ := List.getElem_of_mem hq
      rw [hno j hj hj] at hh; cases hh
    by_cases c2 : 256 ≤ b.Q.length
    · have hR : rAskR b g x a = 330 := by unfold rAskR; rw [if_neg c1, if_neg hany, if_pos c2]
      have c2' : (256 : Int) ≤ b.Q.length := by omega
      rw [bad 330 (by decide) hR, hR]
      simp [e4, e8, e11, o1.cell 0 _ rfl, o1.cell 1 _ rfl, o1.cell 2 _ rfl, o1.cell 3 _ rfl, o1.cell 4 _ rfl, o2.cell 0 _ rfl, o2.cell 1 _ rfl, o2.cell 2 _ rfl, o2.cell 3 _ rfl, o2.cell 4 _ rfl, o2.thaw, cell_setCell, hlen, c2']
      exact ⟨⟨_, _, _⟩, rfl, h.ext (ext5 hE1 (Nat.le_succ _) _ _ _ _ _), ext5 hE1 (Nat.le_succ _) _ _ _ _ _, Kept.refl _ _ _⟩
    · have hR : rAskR b g x a = 0 := by unfold rAskR; rw [if_neg c1, if_neg hany, if_neg c2]
      have c2' : ¬ (256 : Int) ≤ b.Q.length := by omega
      have hB : rAskB b g x a = { b with Q := b.Q ++ [⟨b.n, g, x, a⟩], n := IntKind.u32.wrap (b.n + 1) } := by unfold rAskB; rw [if_pos hR]
      rw [hB, hR]
      simp [e4, e11, o1.cell 0 _ rfl, o1.cell 4 _ rfl, hlen, c2']
      have ho := own_empty (e := 109) (s := 4) w2 w2.heap.size (Nat.le_refl _)
      have hEa := (Ext.refl w2).alloc (.cells #[] 109)
      obtain ⟨v5, w5, hr5, ho5, hE5⟩ := append_newB (P := Tryz.prog) (t := 50) (ty := 50) (e := 109) (s := 4) (by simp) (by simp) (by kernel_rfl) ho (h1.q.ext hEa).toB (q_one _) (by omega) hEa.size
      have hEb := (Ext.refl w5).alloc (.cells #[u32 b.n, u32 g, u32 x, u64 a] 109)
      have hs := Sl.made w5 [u32 b.n, u32 g, u32 x, u64 a] 109 4 1 rfl
      have z5 := (hEa.trans hE5).size
      obtain ⟨v6, w6, hr6, ho6, hM6, -⟩ := append_own (P := Tryz.prog) (t := 50) (ty := 50) (e := 109) (s := 4) (by simp) (by simp) (by kernel_rfl) (own_ext ho5 hEb) hs (by intro u hu; simp at hu; rcases hu with rfl | rfl | rfl | rfl <;> rfl) (by omega) (by have := hEb.size; omega)
      obtain ⟨a6, c6, hv6⟩ := own_val ho6
      have hge := fun hn => own_ge ho5 hn
      have z1 := o1.lt
      have z2 := o2.lt
      have nS : ∀ k, k < w2.heap.size → ¬ (slN v5 = false ∧ k = slB v5) := fun k hk ⟨e1, e2⟩ => by have := hge e1; omega
      have hX5 := (hEa.trans hE5).trans hEb
      have r1 := (o1.ext hX5).mod hM6 (nS _ z1)
      have r2 := (o2.ext hX5).mod hM6 (nS _ z2)
      have hX6 : Ext w2 w6 := ((hX5.mod (S := fun k => w2.heap.size ≤ k)).trans (hM6.weaken fun k hk => by have := hge hk.1; omega)).ext fun _ h => h
      subst hv6
      simp [hr5, hr6, e1, e2, e3, e4, e8, r1.cell 0 _ rfl, r1.cell 1 _ rfl, r1.cell 2 _ rfl, r1.cell 3 _ rfl, r1.cell 4 _ rfl, r1.thaw, r2.cell 0 _ rfl, r2.cell 1 _ rfl, r2.cell 2 _ rfl, r2.cell 3 _ rfl, r2.cell 4 _ rfl, r2.thaw, cell_setCell]
      have ne6 : ∀ k, k < w2.heap.size → slB (.slice a6 (b.Q.length + 1) c6) ≠ k := fun k hk e => by
        have := own_ge ho6 (own_nil ho6 (by omega))
        omega
      have hq6 : Sl w6 4 (.slice a6 (b.Q.length + 1) c6) (b.Q ++ [(⟨b.n, g, x, a⟩ : Qt)]).length ((b.Q ++ [(⟨b.n, g, x, a⟩ : Qt)]).flatMap qC) := by
        have := sl_of_own ho6
        simpa [List.flatMap_append] using this
      have hE6 := hE1.trans hX6
      have g0 : w.heap.size ≤ w.heap.size := Nat.le_refl _
      refine ⟨⟨_, _, _⟩, rfl, ⟨?_, (h.ext (ext5 ((hE6.setCell _ _ g0).setCell _ _ g0) (Nat.le_succ _) _ _ _ _ _)).a, (h.ext (ext5 ((hE6.setCell _ _ g0).setCell _ _ g0) (Nat.le_succ _) _ _ _ _ _)).f⟩, ext5 ((hE6.setCell _ _ g0).setCell _ _ g0) (Nat.le_succ _) _ _ _ _ _, fun S hS ho => ⟨fun _ hk => ?_, ho.a, ho.f⟩⟩
      rotate_left
      · have hk2 : slB (.slice a6 (b.Q.length + 1) c6) < w.heap.size := hS _ hk
        exact ne6 (slB (.slice a6 (b.Q.length + 1) c6)) (by omega) rfl
      refine sl_mod (S := fun k => k = w.heap.size ∨ k = w.heap.size + 1) hq6 ?_ fun _ hk => ?_
      · iterate 5 refine Mod.setCell ?_ _ _ (.inl (.inr rfl))
        iterate 2 refine Mod.setCell ?_ _ _ (.inl (.inl rfl))
        exact Mod.refl _ _
      · rcases hk with hk | hk
        · exact ne6 _ z1 hk
        · exact ne6 _ z2 hk
end Go.Proofs
