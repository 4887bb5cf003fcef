/-
  Contracts of the functions that the law reaches, step by step.
-/
import Derived.Test.YtfppepjaopbanaaRkO
import Derived.Test.YtfppepjaopbanaaEngZ
namespace Go.Proofs
open Pk
set_option maxRecDepth 10000
attribute [simp] beq_dec bne_dec prod_eta
/-! ### Names, things that wait, queues -/
abbrev Nm := Int × Int × Int × Int
abbrev Wt := Nm × Int × Int × Int
abbrev Qu := Int × Int
abbrev nmC (n : Nm) : List Value := [u32 n.1, u32 n.2.1, u64 n.2.2.1, u32 n.2.2.2]
abbrev wtC (x : Wt) : List Value := [u32 x.1.1, u32 x.1.2.1, u64 x.1.2.2.1, u32 x.1.2.2.2, u32 x.2.1, i64 x.2.2.1, i64 x.2.2.2]
abbrev quC (q : Qu) : List Value := [u32 q.1, i64 q.2]
abbrev nmV (n : Nm) : Value := .agg #[u32 n.1, u32 n.2.1, u64 n.2.2.1, u32 n.2.2.2]
abbrev wtV (x : Wt) : Value := .agg #[u32 x.1.1, u32 x.1.2.1, u64 x.1.2.2.1, u32 x.1.2.2.2, u32 x.2.1, i64 x.2.2.1, i64 x.2.2.2]
abbrev quV (q : Qu) : Value := .agg #[u32 q.1, i64 q.2]
theorem fName : flatA Try.prog 28 = some [.int .u32, .int .u32, .int .u64, .int .u32] := by kernel_rfl
theorem fWait : flatA Try.prog 30 = some [.int .u32, .int .u32, .int .u64, .int .u32, .int .u32, .int .i64, .int .i64] := by kernel_rfl
theorem fQueue : flatA Try.prog 80 = some [.int .u32, .int .i64] := by kernel_rfl
theorem eqInt (k : IntKind) (a b : Int) : eqc (.int k a) (.int k b) = decide (a = b) := by
  by_cases h : a = b <;> simp [eqc, h]
theorem nm_eq (a b : Nm) : eqcs (nmC a) (nmC b) = decide (a = b) := by
  obtain ⟨a1, a2, a3, a4⟩ := a
  obtain ⟨b1, b2, b3, b4⟩ := b
  by_cases h1 : a1 = b1 <;> by_cases h2 : a2 = b2 <;> by_cases h3 : a3 = b3 <;> by_cases h4 : a4 = b4 <;> simp [eqcs, eqInt, h1, h2, h3, h4]
theorem wt_eq (a b : Wt) : eqcs (wtC a) (wtC b) = decide (a = b) := by
  obtain ⟨⟨a1, a2, a3, a4⟩, a5, a6, a7⟩ := a
  obtain ⟨⟨b1, b2, b3, b4⟩, b5, b6, b7⟩ := b
  rw [Bool.eq_iff_iff]
  simp [eqcs, eqInt, and_assoc]
theorem qu_eq (a b : Qu) : eqcs (quC a) (quC b) = decide (a = b) := by
  obtain ⟨a1, a2⟩ := a
  obtain ⟨b1, b2⟩ := b
  by_cases h1 : a1 = b1 <;> by_cases h2 : a2 = b2 <;> simp [eqcs, eqInt, h1, h2]
theorem kName : KeyEq Try.prog 28 nmV := keyEq_flat (g := nmC) fName (fun _ => rfl) nm_eq
theorem kQueue : KeyEq Try.prog 80 quV := keyEq_flat (g := quC) fQueue (fun _ => rfl) qu_eq
theorem tmq : Try.prog.underlying 67 = some (.map 80 22) := by simp
theorem tmw : Try.prog.underlying 68 = some (.map 28 80) := by simp
theorem zSl (w : World) : (zeroValue 22).run Try.prog w = .ok (.slice none 0 0) w := by simp
theorem zQu (w : World) : (zeroValue 80).run Try.prog w = .ok (quV (0, 0)) w := by simp
def nmB (a b : Nm) : Bool := decide (a = b)
def wtB (a b : Wt) : Bool := decide (a = b)
theorem nmB_t {a b : Nm} (h : a = b) : nmB a b = true := by simp [nmB, h]
theorem nmB_f {a b : Nm} (h : a ≠ b) : nmB a b = false := by simp [nmB, h]
theorem wtB_t {a b : Wt} (h : a = b) : wtB a b = true := by simp [wtB, h]
theorem wtB_f {a b : Wt} (h : a ≠ b) : wtB a b = false := by simp [wtB, h]
section
variable (w : World) (a1 a2 a3 a4 a5 a6 a7 b1 b2 b3 b4 b5 b6 b7 : Int)
@[simp] theorem eqN : (binOp .eql 28 (.agg #[.int .u32 a1, .int .u32 a2, .int .u64 a3, .int .u32 a4]) (.agg #[.int .u32 b1, .int .u32 b2, .int .u64 b3, .int .u32 b4])).run Try.prog w = .ok (.bool (nmB (a1, a2, a3, a4) (b1, b2, b3, b4))) w := by
  unfold nmB
  rw [← nm_eq (a1, a2, a3, a4) (b1, b2, b3, b4)]
  exact run_eql_flat w fName _ _ rfl rfl
@[simp] theorem neN : (binOp .neq 28 (.agg #[.int .u32 a1, .int .u32 a2, .int .u64 a3, .int .u32 a4]) (.agg #[.int .u32 b1, .int .u32 b2, .int .u64 b3, .int .u32 b4])).run Try.prog w = .ok (.bool (!nmB (a1, a2, a3, a4) (b1, b2, b3, b4))) w := by
  unfold nmB
  rw [← nm_eq (a1, a2, a3, a4) (b1, b2, b3, b4)]
  exact run_neq_flat w fName _ _ rfl rfl
@[simp] theorem eqW : (binOp .eql 30 (.agg #[.int .u32 a1, .int .u32 a2, .int .u64 a3, .int .u32 a4, .int .u32 a5, .int .i64 a6, .int .i64 a7]) (.agg #[.int .u32 b1, .int .u32 b2, .int .u64 b3, .int .u32 b4, .int .u32 b5, .int .i64 b6, .int .i64 b7])).run Try.prog w = .ok (.bool (wtB ((a1, a2, a3, a4), a5, a6, a7) ((b1, b2, b3, b4), b5, b6, b7))) w := by
  unfold wtB
  rw [← wt_eq ((a1, a2, a3, a4), a5, a6, a7) ((b1, b2, b3, b4), b5, b6, b7)]
  exact run_eql_flat w fWait _ _ rfl rfl
@[simp] theorem neW : (binOp .neq 30 (.agg #[.int .u32 a1, .int .u32 a2, .int .u64 a3, .int .u32 a4, .int .u32 a5, .int .i64 a6, .int .i64 a7]) (.agg #[.int .u32 b1, .int .u32 b2, .int .u64 b3, .int .u32 b4, .int .u32 b5, .int .i64 b6, .int .i64 b7])).run Try.prog w = .ok (.bool (!wtB ((a1, a2, a3, a4), a5, a6, a7) ((b1, b2, b3, b4), b5, b6, b7))) w := by
  unfold wtB
  rw [← wt_eq ((a1, a2, a3, a4), a5, a6, a7) ((b1, b2, b3, b4), b5, b6, b7)]
  exact run_neq_flat w fWait _ _ rfl rfl
end
theorem nm_inj : ∀ a b : Nm, nmV a = nmV b → a = b := by
  rintro ⟨a1, a2, a3, a4⟩ ⟨b1, b2, b3, b4⟩ h
  simpa using h
theorem qu_inj : ∀ a b : Qu, quV a = quV b → a = b := by
  rintro ⟨a1, a2⟩ ⟨b1, b2⟩ h
  simpa using h
/-- A thing's cells, in a block. -/
structure WtAt (w : World) (b : Nat) (x : Wt) : Prop where
  c0 : w.cell? ⟨b, 0, none⟩ = some (u32 x.1.1)
  c1 : w.cell? ⟨b, 1, none⟩ = some (u32 x.1.2.1)
  c2 : w.cell? ⟨b, 2, none⟩ = some (u64 x.1.2.2.1)
  c3 : w.cell? ⟨b, 3, none⟩ = some (u32 x.1.2.2.2)
  c4 : w.cell? ⟨b, 4, none⟩ = some (u32 x.2.1)
  c5 : w.cell? ⟨b, 5, none⟩ = some (i64 x.2.2.1)
  c6 : w.cell? ⟨b, 6, none⟩ = some (i64 x.2.2.2)
structure NmAt (w : World) (b : Nat) (x : Nm) : Prop where
  c0 : w.cell? ⟨b, 0, none⟩ = some (u32 x.1)
  c1 : w.cell? ⟨b, 1, none⟩ = some (u32 x.2.1)
  c2 : w.cell? ⟨b, 2, none⟩ = some (u64 x.2.2.1)
  c3 : w.cell? ⟨b, 3, none⟩ = some (u32 x.2.2.2)
theorem WtAt.ext {w w' : World} {b : Nat} {x : Wt} (h : WtAt w b x) (hE : Ext w w') : WtAt w' b x := ⟨hE.cell_eq h.c0, hE.cell_eq h.c1, hE.cell_eq h.c2, hE.cell_eq h.c3, hE.cell_eq h.c4, hE.cell_eq h.c5, hE.cell_eq h.c6⟩
theorem NmAt.ext {w w' : World} {b : Nat} {x : Nm} (h : NmAt w b x) (hE : Ext w w') : NmAt w' b x := ⟨hE.cell_eq h.c0, hE.cell_eq h.c1, hE.cell_eq h.c2, hE.cell_eq h.c3⟩
theorem WtAt.mod {w w' : World} {b : Nat} {x : Wt} {S : Nat → Prop} (h : WtAt w b x) (hE : Mod S w w') (hs : ¬ S b) : WtAt w' b x := ⟨hE.cell h.c0 hs, hE.cell h.c1 hs, hE.cell h.c2 hs, hE.cell h.c3 hs, hE.cell h.c4 hs, hE.cell h.c5 hs, hE.cell h.c6 hs⟩
theorem NmAt.mod {w w' : World} {b : Nat} {x : Nm} {S : Nat → Prop} (h : NmAt w b x) (hE : Mod S w w') (hs : ¬ S b) : NmAt w' b x := ⟨hE.cell h.c0 hs, hE.cell h.c1 hs, hE.cell h.c2 hs, hE.cell h.c3 hs⟩
theorem WtAt.new (w : World) (x : Wt) (t : TypeId) : WtAt (w.alloc (.cells (wtC x).toArray t)) w.heap.size x := ⟨cells_new w _ t 0, cells_new w _ t 1, cells_new w _ t 2, cells_new w _ t 3, cells_new w _ t 4, cells_new w _ t 5, cells_new w _ t 6⟩
theorem NmAt.new (w : World) (x : Nm) (t : TypeId) : NmAt (w.alloc (.cells (nmC x).toArray t)) w.heap.size x := ⟨cells_new w _ t 0, cells_new w _ t 1, cells_new w _ t 2, cells_new w _ t 3⟩
theorem WtAt.nm {w : World} {b : Nat} {x : Wt} (h : WtAt w b x) : NmAt w b x.1 := ⟨h.c0, h.c1, h.c2, h.c3⟩
theorem WtAt.lt {w : World} {b : Nat} {x : Wt} (h : WtAt w b x) : b < w.heap.size := World.block_lt_of_cell? _ _ h.c0
theorem NmAt.lt {w : World} {b : Nat} {x : Nm} (h : NmAt w b x) : b < w.heap.size := World.block_lt_of_cell? _ _ h.c0
theorem flat_at {α : Type} {s : Nat} (g : α → List Value) (hg : ∀ x, (g x).length = s) : ∀ (l : List α) (i j : Nat) (x : α), l[i]? = some x → j < s → (l.flatMap g)[i * s + j]? = (g x)[j]?
  | [], i, j, x, h, _ => by simp at h
  | a :: l, 0, j, x, h, hj => by
    simp at h; subst h
    rw [List.flatMap_cons, Nat.zero_mul, Nat.zero_add, List.getElem?_append_left (by rw [hg]; exact hj)]
  | a :: l, i + 1, j, x, h, hj => by
    have := flat_at g hg l i j x (by simpa using h) hj
    rw [List.flatMap_cons, Nat.add_mul, Nat.one_mul, List.getElem?_append_right (by rw [hg]; omega), hg]
    rw [show i * s + s + j - s = i * s + j from by omega]
    exact this
theorem flat_len {α : Type} {s : Nat} (g : α → List Value) (hg : ∀ x, (g x).length = s) : ∀ l : List α, (l.flatMap g).length = l.length * s
  | [] => by simp
  | a :: l => by
    rw [List.flatMap_cons, List.length_append, hg, flat_len g hg l, List.length_cons, Nat.add_mul, Nat.one_mul]; omega
/-- The cells of a row's i-th thing. -/
structure RowAt (w : World) (v : Value) (i : Nat) (x : Wt) : Prop where
  c0 : w.cell? ⟨slB v, slO v + i * 7, none⟩ = some (u32 x.1.1)
  c1 : w.cell? ⟨slB v, slO v + i * 7 + 1, none⟩ = some (u32 x.1.2.1)
  c2 : w.cell? ⟨slB v, slO v + i * 7 + 2, none⟩ = some (u64 x.1.2.2.1)
  c3 : w.cell? ⟨slB v, slO v + i * 7 + 3, none⟩ = some (u32 x.1.2.2.2)
  c4 : w.cell? ⟨slB v, slO v + i * 7 + 4, none⟩ = some (u32 x.2.1)
  c5 : w.cell? ⟨slB v, slO v + i * 7 + 5, none⟩ = some (i64 x.2.2.1)
  c6 : w.cell? ⟨slB v, slO v + i * 7 + 6, none⟩ = some (i64 x.2.2.2)
/-- A row of things that wait. -/
abbrev WSl (w : World) (v : Value) (l : List Wt) := Sl w 7 v l.length (l.flatMap wtC)
abbrev WSlA (w : World) (v : Value) (l : List Wt) := SlA w 7 v l.length (l.flatMap wtC)
theorem WSlA.row {w : World} {v : Value} {l : List Wt} (h : WSlA w v l) {i : Nat} {x : Wt} (hi : l[i]? = some x) : RowAt w v i x := by
  have d := fun (j : Nat) (u : Value) (hj : j < 7) (e : (wtC x)[j]? = some u) => h.at_ (i * 7 + j) u ((flat_at wtC (fun _ => rfl) l i j x hi hj).trans e)
  simp only [← Nat.add_assoc] at d
  exact ⟨d 0 _ (by omega) rfl, d 1 _ (by omega) rfl, d 2 _ (by omega) rfl, d 3 _ (by omega) rfl, d 4 _ (by omega) rfl, d 5 _ (by omega) rfl, d 6 _ (by omega) rfl⟩
theorem Sl.toA {w : World} {s : Nat} {v : Value} {n : Nat} {cs : List Value} (h : Sl w s v n cs) : SlA w s v n cs := by
  refine ⟨h.len, ?_, h.at_⟩
  rcases h.val with ⟨c, rfl, rfl⟩ | ⟨b, o, c, rfl, _⟩
  · exact ⟨none, c, rfl, fun h => by omega⟩
  · exact ⟨_, c, rfl, fun _ => ⟨b, o, rfl⟩⟩
theorem WSl.row {w : World} {v : Value} {l : List Wt} (h : WSl w v l) {i : Nat} {x : Wt} (hi : l[i]? = some x) : RowAt w v i x := WSlA.row (Sl.toA h) hi
theorem RowAt.ext {w w' : World} {v : Value} {i : Nat} {x : Wt} (h : RowAt w v i x) (hE : Ext w w') : RowAt w' v i x := ⟨hE.cell_eq h.c0, hE.cell_eq h.c1, hE.cell_eq h.c2, hE.cell_eq h.c3, hE.cell_eq h.c4, hE.cell_eq h.c5, hE.cell_eq h.c6⟩
theorem WSlA.index {w : World} {v : Value} {l : List Wt} (h : WSlA w v l) (i : Nat) (hi : i < l.length) (W : World) : (Instr.indexAt 22 v (.int .i64 (i : Int))).run Try.prog W = .ok (.pointer (some ⟨slB v, slO v + i * 7, none⟩)) W := by
  have := SlA.index (P := Try.prog) (t := 22) h (by simp) .i64 i (by omega) (by omega) W
  simpa using this
theorem WSl.index {w : World} {v : Value} {l : List Wt} (h : WSl w v l) (i : Nat) (hi : i < l.length) (W : World) : (Instr.indexAt 22 v (.int .i64 (i : Int))).run Try.prog W = .ok (.pointer (some ⟨slB v, slO v + i * 7, none⟩)) W := WSlA.index (Sl.toA h) i hi W
end Go.Proofs
namespace Go.Proofs
open Pk
set_option maxRecDepth 10000
/-! ### Questions -/
structure Qn where
  f : Value
  e : Int
  b : Bool
def askE : List Qn → Int
  | [] => 0
  | q :: qs => if q.b then q.e else askE qs
def askCells (qs : List Qn) : List Value := qs.flatMap fun q => [q.f, .int .i64 q.e]
theorem askCells_at : ∀ (qs : List Qn) (i : Nat) (q : Qn), qs[i]? = some q → (askCells qs)[i * 2]? = some q.f ∧ (askCells qs)[i * 2 + 1]? = some (.int .i64 q.e)
  | [], i, q, h => by simp at h
  | a :: qs, 0, q, h => by
    simp at h; subst h
    simp [askCells]
  | a :: qs, i + 1, q, h => by
    have := askCells_at qs i q (by simpa using h)
    have e1 : (i + 1) * 2 = i * 2 + 1 + 1 := by omega
    have e2 : (i + 1) * 2 + 1 = i * 2 + 1 + 1 + 1 := by omega
    rw [e1]
    simp only [askCells, List.flatMap_cons] at this ⊢
    simpa using this
theorem askE_none : ∀ (qs : List Qn), (∀ (j : Nat) (q : Qn), qs[j]? = some q → q.b = false) → askE qs = 0
  | [], _ => rfl
  | q :: qs, h => by
    have h0 := h 0 q rfl
    simp [askE, h0]
    exact askE_none qs fun j q hj => h (j + 1) q hj
theorem askE_at : ∀ (qs : List Qn) (i : Nat) (q : Qn), qs[i]? = some q → q.b = true → (∀ (j : Nat) (q : Qn), j < i → qs[j]? = some q → q.b = false) → askE qs = q.e
  | [], i, q, h, _, _ => by simp at h
  | a :: qs, 0, q, h, hb, _ => by
    simp at h; subst h
    simp [askE, hb]
  | a :: qs, i + 1, q, h, hb, hn => by
    have h0 := hn 0 a (by omega) rfl
    simp [askE, h0]
    exact askE_at qs i q (by simpa using h) hb fun j q hj hq => hn (j + 1) q (by omega) (by simpa using hq)
theorem asked_c {w : World} {v : Value} (qs : List Qn) (hs : Sl w 2 v qs.length (askCells qs)) (hb : qs.length ≤ 1000) (hf : ∀ q ∈ qs, ∃ f x y, q.f = .func f x y)
    (hq : ∀ (i : Nat) (q : Qn), qs[i]? = some q → (∀ (j : Nat) (p : Qn), j < i → qs[j]? = some p → p.b = false) → ∀ w', Ext w w' → CV Try.prog q.f [] w' fun e w'' => e = .returned (.bool q.b) ∧ Ext w' w'') :
    FN Try.prog 22 [v] w fun e w' => e = .returned (.int .i64 (askE qs)) ∧ Ext w w' := by
  refine FN_enter Try.func22 rfl rfl (by kernel_rfl) ?_
  simp
  refine WC_scope 0 _ rfl ?_
  simp [hs.isLen]
  refine WC_loop (fun k ρ ds w' => ∃ i : Nat, k = qs.length - i ∧ i ≤ qs.length ∧ ρ 5 = v ∧ ρ 6 = .int .i64 qs.length ∧ ρ 7 = .int .i64 i ∧ ds = [] ∧ Ext w w' ∧ ∀ (j : Nat) (q : Qn), j < i → qs[j]? = some q → q.b = false) qs.length ⟨0, by simp [Ext.refl]⟩ ?_
  rintro k ρ ds w1 ⟨i, rfl, hi, e5, e6, e7, rfl, hE, hno⟩
  by_cases hlt : i < qs.length
  · have hq0 : qs[i]? = some qs[i] := by simp [hlt]
    obtain ⟨c1, c2⟩ := askCells_at qs i _ hq0
    have hs1 := hs.ext hE
    have d1 := hs1.at_ _ _ c1
    have d2 := hs1.at_ _ _ c2
    rw [← Nat.add_assoc] at d2
    have hix := hs1.index (P := Try.prog) (t := 112) (by simp) .i64 i (by omega) (by omega) w1
    obtain ⟨f, x, y, hfv⟩ := hf qs[i] (by simp)
    have hcall := hq i _ hq0 hno
    rw [hfv] at d1 hcall
    simp [e5, e6, e7, hlt, hix, d1, d2]
    have hE1 := (Ext.refl w1).alloc (.cells #[.func f x y, .int .i64 qs[i].e] 73)
    refine CV.mono (hcall _ (hE.trans hE1)) ?_
    rintro _ w2 ⟨rfl, hE2⟩
    cases hqb : qs[i].b with
    | true =>
      simp
      exact ⟨(askE_at qs i _ hq0 hqb hno).symm, (hE.trans hE1).trans hE2⟩
    | false =>
      simp [e5, e6, e7]
      refine ⟨qs.length - (i + 1), by omega, i + 1, rfl, by omega, ?_, (hE.trans hE1).trans hE2, ?_⟩
      · rw [wrap64 _ (by omega) (by omega)]; rfl
      · intro j q hj hjq
        rcases Nat.lt_succ_iff_lt_or_eq.1 hj with h1 | rfl
        · exact hno j q h1 hjq
        · rw [hq0] at hjq; cases hjq; exact hqb
  · simp [e6, e7, hlt]
    exact ⟨(askE_none qs fun j q hj => hno j q (by have := (List.getElem?_eq_some_iff.1 hj).1; omega) hj).symm, hE⟩
/-- The rest of a list of questions, one by one. -/
theorem asked_go {w w0 : World} {v : Value} {R : Ending → World → Prop} (qs : List Qn) (hs : Sl w 2 v qs.length (askCells qs)) (hb : qs.length ≤ 1000) (hf : ∀ q ∈ qs, ∃ f x y, q.f = .func f x y) (hE : Ext w0 w)
    (hq : ∀ (i : Nat) (q : Qn), qs[i]? = some q → (∀ (j : Nat) (p : Qn), j < i → qs[j]? = some p → p.b = false) → ∀ w', Ext w0 w' → CV Try.prog q.f [] w' fun e w'' => e = .returned (.bool q.b) ∧ Ext w' w'')
    (h : ∀ w', Ext w0 w' → R (.returned (.int .i64 (askE qs))) w') : FN Try.prog 22 [v] w R := by
  refine FN.mono (asked_c qs hs hb hf fun i q h1 h2 w' h3 => hq i q h1 h2 w' (hE.trans h3)) ?_
  rintro _ w' ⟨rfl, h2⟩
  exact h _ (hE.trans h2)
theorem num_c (a : Int) (w : World) : FN Try.prog 7 [.int .i64 a] w fun e w' => e = .returned (.int .i64 a) ∧ w' = w := by
  refine FN_enter Try.func7 rfl rfl (by kernel_rfl) ?_
  simp
def badN (n : Nm) : Bool := decide (n.1 = 0) || decide (4611686018427387903 < n.2.2.1)
theorem check_c (n : Nm) (w : World) : FN Try.prog 56 [nmV n] w fun e w' => e = .returned (i64 (if badN n then 2 else 0)) ∧ Ext w w' := by
  refine FN_enter Try.func56 rfl rfl (by kernel_rfl) ?_
  simp
  have hE := (Ext.refl w).alloc (.cells #[u32 n.1, u32 n.2.1, u64 n.2.2.1, u32 n.2.2.2] 28)
  by_cases h1 : n.1 = 0
  · simp [h1, badN]
    simpa [h1] using hE
  · by_cases h2 : 4611686018427387903 < n.2.2.1
    · simp [h1, h2, badN]; exact hE
    · simp [h1, h2, badN]; exact hE
theorem rightF_c {w : World} {b : Nat} {n : Nm} (h : NmAt w b n) : FN Try.prog 55 [ptr b] w fun e w' => e = .returned (.bool (badN n)) ∧ Ext w w' := by
  refine FN_enter Try.func55 rfl rfl (by kernel_rfl) ?_
  simp [h.c0, h.c1, h.c2, h.c3]
  refine FN.mono (check_c n w) ?_
  rintro _ w1 ⟨rfl, hE⟩
  cases badN n <;> simp <;> exact hE
theorem nodeF_c {w : World} {b : Nat} {n : Int} (h : Var w b (u32 n)) : FN Try.prog 57 [ptr b] w fun e w' => e = .returned (.bool (n == 0)) ∧ w' = w := by
  refine FN_enter Try.func57 rfl rfl (by kernel_rfl) ?_
  simp [h.cell]
/-- One of 0, 1, 2. -/
theorem index_c {w : World} {v : Value} (h : Sl w 1 v 3 [i64 0, i64 1, i64 2]) (r : Int) : FN Try.prog 58 [v, i64 r] w fun e w' => e = .returned (i64 (if r = 0 then 0 else if r = 1 then 1 else if r = 2 then 2 else -1)) ∧ w' = w := by
  refine FN_enter Try.func58 rfl rfl (by kernel_rfl) ?_
  have ix := fun (i : Int) (h0 : 0 ≤ i) (h1 : i < 3) W => h.index (P := Try.prog) (t := 78) (by simp) .i64 i h0 h1 W
  have c0 := h.at_ 0 _ rfl
  have c1 := h.at_ 1 _ rfl
  have c2 := h.at_ 2 _ rfl
  have hlen := fun ty W => h.isLen (P := Try.prog) (t := 78) (by simp) ty W
  have i0 := fun W => ix 0 (by omega) (by omega) W
  have i1 := fun W => ix 1 (by omega) (by omega) W
  have i2 := fun W => ix 2 (by omega) (by omega) W
  simp at c0 c1 c2 hlen i0 i1 i2
  simp [hlen]
  refine WC_loop (fun k ρ ds w' => ρ 0 = v ∧ ρ 1 = i64 r ∧ ρ 7 = i64 3 ∧ ds = [] ∧ w' = w ∧ (k = 3 ∧ ρ 8 = i64 0 ∨ k = 2 ∧ ρ 8 = i64 1 ∧ r ≠ 0 ∨ k = 1 ∧ ρ 8 = i64 2 ∧ r ≠ 0 ∧ r ≠ 1 ∨ k = 0 ∧ ρ 8 = i64 3 ∧ r ≠ 0 ∧ r ≠ 1 ∧ r ≠ 2)) 3 (by simp) ?_
  rintro k ρ ds w' ⟨e0, e1, e7, rfl, hw, hk⟩
  subst hw
  rcases hk with ⟨rfl, e8⟩ | ⟨rfl, e8, g0⟩ | ⟨rfl, e8, g0, g1⟩ | ⟨rfl, e8, g0, g1, g2⟩
  · by_cases g : r = 0
    · simp [e0, e1, e7, e8, i0, c0, g]
    · have g' : (r == 0) = false := by simpa using g
      simp [e0, e1, e7, e8, i0, c0, g']
      exact ⟨2, by omega, .inr (.inl ⟨rfl, by decide, g⟩)⟩
  · by_cases g : r = 1
    · simp [e0, e1, e7, e8, i1, c1, g]
    · have g' : (r == 1) = false := by simpa using g
      simp [e0, e1, e7, e8, i1, c1, g']
      exact ⟨1, by omega, .inr (.inr (.inl ⟨rfl, by decide, g0, g⟩))⟩
  · by_cases g : r = 2
    · simp [e0, e1, e7, e8, i2, c2, g]
    · have g' : (r == 2) = false := by simpa using g
      simp [e0, e1, e7, e8, i2, c2, g']
      exact ⟨wrap64 _ (by omega) (by omega), g0, g1, g⟩
  · simp [e7, e8, g0, g1, g2]
theorem contains_c {w : World} {v : Value} (h : Sl w 1 v 3 [i64 0, i64 1, i64 2]) (r : Int) : FN Try.prog 27 [v, i64 r] w fun e w' => e = .returned (.bool (decide (0 ≤ r ∧ r ≤ 2))) ∧ w' = w := by
  refine FN_enter Try.func27 rfl rfl (by kernel_rfl) ?_
  simp
  refine FN.mono (index_c h r) ?_
  rintro _ w1 ⟨rfl, hw⟩
  rw [hw]
  simp
  by_cases g0 : r = 0
  · simp [g0]
  by_cases g1 : r = 1
  · simp [g1]
  by_cases g2 : r = 2
  · simp [g2]
  simp [g0, g1, g2]
  omega
/-- Has it this name? -/
theorem isNm_c {w : World} {b : Nat} {n : Nm} (h : NmAt w b n) (x : Wt) : FN Try.prog 62 [wtV x, ptr b] w fun e w' => e = .returned (.bool (nmB x.1 n)) ∧ Ext w w' := by
  refine FN_enter Try.func62 rfl rfl (by kernel_rfl) ?_
  have hE := (Ext.refl w).alloc (.cells #[u32 x.1.1, u32 x.1.2.1, u64 x.1.2.2.1, u32 x.1.2.2.2, u32 x.2.1, i64 x.2.2.1, i64 x.2.2.2] 30)
  simp [h.c0, h.c1, h.c2, h.c3]
  exact hE
def noNm (l : List Wt) (n : Nm) : Prop := ∀ x ∈ l, x.1 ≠ n
theorem noNm_snoc {l : List Wt} {n : Nm} {i : Nat} (hi : i < l.length) (h : noNm (l.take i) n) (hx : l[i].1 ≠ n) : noNm (l.take (i + 1)) n := by
  intro x hx'
  rw [List.take_add_one, List.getElem?_eq_getElem hi] at hx'
  rcases List.mem_append.1 hx' with h1 | h1
  · exact h x h1
  · simp only [Option.toList_some, List.mem_singleton] at h1
    rw [h1]; exact hx
theorem indexF_c {w : World} {v : Value} {l : List Wt} {b : Nat} {n : Nm} (h : WSl w v l) (hn : NmAt w b n) (hb : l.length ≤ 1048576) :
    FN Try.prog 61 [v, .func (.func 62) #[] #[ptr b]] w fun e w' => e = .returned (i64 (match l.findIdx? (fun x => decide (x.1 = n)) with | some i => (i : Int) | none => -1)) ∧ Ext w w' := by
  refine FN_enter Try.func61 rfl rfl (by kernel_rfl) ?_
  have hlen := fun ty W => h.isLen (P := Try.prog) (t := 22) (by simp) ty W
  simp [hlen]
  refine WC_loop (fun k ρ ds w' => ∃ i : Nat, k = l.length - i ∧ i ≤ l.length ∧ ρ 0 = v ∧ ρ 1 = .func (.func 62) #[] #[ptr b] ∧ ρ 7 = i64 l.length ∧ ρ 8 = i64 i ∧ ds = [] ∧ Ext w w' ∧ noNm (l.take i) n) l.length ⟨0, by simp, by simp, by simp, by simp, by simp, by simp, rfl, Ext.refl _, fun x hx => by simp at hx⟩ ?_
  rintro k ρ ds w1 ⟨i, rfl, hi, e0, e1, e7, e8, rfl, hE, hno⟩
  by_cases hlt : i < l.length
  · have hq := List.getElem?_eq_getElem hlt
    have r := (WSl.row h hq).ext hE
    have ix := WSl.index h i hlt w1
    simp [e0, e1, e7, e8, hlt, ix, r.c0, r.c1, r.c2, r.c3, r.c4, r.c5, r.c6]
    refine FN.mono (isNm_c (hn.ext hE) l[i]) ?_
    rintro _ w2 ⟨rfl, hE2⟩
    by_cases hx : l[i].1 = n
    · simp [nmB_t hx]
      have : l.findIdx? (fun x => decide (x.1 = n)) = some i := by
        rw [List.findIdx?_eq_some_iff_getElem]
        exact ⟨hlt, by simpa using hx, fun j hj => by simpa using hno l[j] (List.mem_iff_getElem.2 ⟨j, by simp; omega, by simp⟩)⟩
      rw [this]
      exact ⟨rfl, hE.trans hE2⟩
    · simp [nmB_f hx, e0, e1, e7, e8]
      refine ⟨l.length - (i + 1), by omega, i + 1, rfl, by omega, by rw [wrap64 _ (by omega) (by omega)]; rfl, hE.trans hE2, noNm_snoc hlt hno hx⟩
  · simp [e7, e8, hlt]
    have : l.findIdx? (fun x => decide (x.1 = n)) = none := by
      rw [List.findIdx?_eq_none_iff]
      intro x hx
      have := hno x (by rw [show i = l.length by omega, List.take_length]; exact hx)
      simpa using this
    rw [this]
    exact ⟨rfl, hE⟩
theorem wone (l : List Wt) : ∀ u ∈ l.flatMap wtC, u.oneCell' = true := by
  intro u hu
  obtain ⟨x, _, h⟩ := List.mem_flatMap.1 hu
  simp only [List.mem_cons, List.not_mem_nil, or_false] at h
  rcases h with rfl | rfl | rfl | rfl | rfl | rfl | rfl <;> rfl
theorem clone_c {w : World} {v : Value} {l : List Wt} (h : WSl w v l) (hn : slN v = false) (hne : l ≠ []) (hb : l.length ≤ 1048576) :
    FN Try.prog 34 [v] w fun e w' => ∃ v', e = .returned v' ∧ w'.ownsRow w.heap.size 30 7 v' l.length (l.flatMap wtC) ∧ Ext w w' ∧ slN v' = false := by
  refine FN_enter Try.func34 rfl rfl (by kernel_rfl) ?_
  have hnl := h.isNil (P := Try.prog) (t := 22) (by simp) w
  rw [hn] at hnl
  simp [hnl]
  have hO := (Ch.start (base := w.heap.size) (e := 30) (s := 7) (Z := []) w (Nat.le_refl _)).1
  have hE := (Ext.refl w).alloc (.cells #[] 30)
  obtain ⟨v', w2, hr, ho, hM, hv⟩ := append_own (P := Try.prog) (t := 22) (ty := 22) (e := 30) (s := 7) (by simp) (by simp) (by kernel_rfl) hO (h.ext hE) (wone l) (by omega) (by simp)
  simp [hr]
  simp at ho
  refine ⟨ho, ?_, ?_⟩
  · exact ((hE.mod (S := fun k => w.heap.size ≤ k)).trans (hM.weaken fun i hi => by have := hi.2; simp only [slB] at this; omega)).ext fun _ h => h
  · exact own_nil ho (List.length_pos_iff.2 hne)
theorem equal_c {w : World} {v v' : Value} {l l' : List Wt} (h : WSl w v l) (h' : WSl w v' l') (hb : l.length ≤ 1048576) (hb' : l'.length ≤ 1048576) :
    FN Try.prog 38 [v, v'] w fun e w' => e = .returned (.bool (decide (l = l'))) ∧ Ext w w' := by
  refine FN_enter Try.func38 rfl rfl (by kernel_rfl) ?_
  have hlen := fun ty W => h.isLen (P := Try.prog) (t := 22) (by simp) ty W
  have hlen' := fun ty W => h'.isLen (P := Try.prog) (t := 22) (by simp) ty W
  by_cases hll : l.length = l'.length
  rotate_left
  · have hll' : ¬ ((l.length : Int) = (l'.length : Int)) := by omega
    simp [hlen, hlen', hll']
    exact ⟨fun h => hll (by rw [h]), Ext.refl _⟩
  simp [hlen, hlen', hll]
  refine WC_loop (fun k ρ ds w' => ∃ i : Nat, k = l.length - i ∧ i ≤ l.length ∧ ρ 0 = v ∧ ρ 1 = v' ∧ ρ 12 = i64 l.length ∧ ρ 13 = i64 i ∧ ds = [] ∧ Ext w w' ∧ l.take i = l'.take i) l.length ⟨0, by simp, by simp, by simp, by simp, by simp [hll], by simp, rfl, Ext.refl _, rfl⟩ ?_
  rintro k ρ ds w1 ⟨i, rfl, hi, e0, e1, e12, e13, rfl, hE, heq⟩
  by_cases hlt : i < l.length
  · have hq := List.getElem?_eq_getElem hlt
    have hlt' : i < l'.length := by omega
    have hq' := List.getElem?_eq_getElem hlt'
    simp [e12, e13, hlt]
    refine WC_drawQ 9 rfl (by kernel_rfl) ?_
    have hE1 := hE.trans (Ext.drew w1)
    have r := (WSl.row h hq).ext hE1
    have r' := (WSl.row h' hq').ext hE1
    have ix := WSl.index h i hlt w1.drew
    have ix' := WSl.index h' i hlt' w1.drew
    simp [e0, e1, ix, ix', r.c0, r.c1, r.c2, r.c3, r.c4, r.c5, r.c6, r'.c0, r'.c1, r'.c2, r'.c3, r'.c4, r'.c5, r'.c6]
    by_cases hx : l[i] = l'[i]
    · simp [wtB_t hx, e0, e1, e12, e13]
      refine ⟨l'.length - (i + 1), by omega, i + 1, by omega, by omega, by rw [wrap64 _ (by omega) (by omega)]; rfl, hE1, ?_⟩
      rw [List.take_add_one, List.take_add_one, heq, hq, hq', hx]
    · simp [wtB_f hx]
      refine ⟨?_, hE1⟩
      intro hl
      subst hl
      exact hx rfl
  · simp [e12, e13, hlt]
    have : i = l.length := by omega
    rw [this, List.take_length, hll, List.take_length] at heq
    exact ⟨heq, hE⟩
theorem zWt (w : World) : (zeroValue 30).run Try.prog w = .ok (wtV ((0, 0, 0, 0), 0, 0, 0)) w := by simp
theorem flat_take (l : List Wt) (i : Nat) : (l.flatMap wtC).take (i * 7) = (l.take i).flatMap wtC := by
  induction l generalizing i with
  | nil => simp
  | cons a l ih =>
    cases i with
    | zero => simp
    | succ i =>
      rw [List.take_succ_cons, List.flatMap_cons, List.flatMap_cons, ← ih, show (i + 1) * 7 = (wtC a).length + i * 7 from by simp; omega, List.take_length_add_append]
theorem flat_drop (l : List Wt) (i : Nat) : (l.flatMap wtC).drop (i * 7) = (l.drop i).flatMap wtC := by
  induction l generalizing i with
  | nil => simp
  | cons a l ih =>
    cases i with
    | zero => simp
    | succ i =>
      rw [List.drop_succ_cons, List.flatMap_cons, ← ih, show (i + 1) * 7 = (wtC a).length + i * 7 from by simp; omega, List.drop_length_add_append]
/-- A row that one owns. -/
abbrev WOwn (w : World) (v : Value) (l : List Wt) := w.ownsRow 0 30 7 v l.length (l.flatMap wtC)
theorem delete_c {w : World} {v : Value} {l : List Wt} (h : WOwn w v l) (i : Nat) (hi : i < l.length) (hb : l.length ≤ 1048576) :
    FN Try.prog 63 [v, i64 i, i64 ((i : Int) + 1)] w fun e w' => ∃ v', e = .returned v' ∧ WOwn w' v' (l.eraseIdx i) ∧ slN v' = false ∧ slB v' = slB v ∧ Mod (· = slB v) w w' := by
  refine FN_enter Try.func63 rfl rfl (by kernel_rfl) ?_
  have hlen := fun ty W => (sl_of_own h).isLen (P := Try.prog) (t := 22) (by simp) ty W
  obtain ⟨g, cap, hv, hcap, hcm⟩ : ∃ g cap, v = .slice (some ⟨g, 0, none⟩) l.length cap ∧ l.length ≤ cap ∧ cap ≤ maxLen := by
    rcases h.2 with ⟨_, h2⟩ | ⟨g, cap, cur, hv, _, _, h3, h4, _⟩
    · omega
    · exact ⟨g, cap, hv, h3, h4⟩
  subst hv
  have s1 := fun W => sl_lhm (P := Try.prog) (t := 22) (by simp) (some ⟨g, 0, none⟩) l.length cap .i64 .i64 .i64 i ((i : Int) + 1) l.length (by omega) (by omega) (by omega) (by omega) W
  have hne : ¬ ((i : Int) = (i : Int) + 1) := by omega
  simp [hlen, s1, hne]
  refine WC_drawQ 6 rfl (by kernel_rfl) ?_
  have s2 := fun W => (sl_of_own h).sliceH (P := Try.prog) (t := 22) (by simp) .i64 i (by omega) (by omega) W
  have s3 := fun W => sl_l (P := Try.prog) (t := 22) (by simp) (some ⟨g, 0, none⟩) l.length cap .i64 ((i : Int) + 1) (by omega) (by omega) W
  have e1 : ((i : Int) + 1).toNat = i + 1 := by omega
  have ht := own_take h i (by omega)
  have hd := own_drop h (i + 1) (by omega)
  rw [flat_take] at ht
  rw [flat_drop] at hd
  have hD := Ext.drew w
  obtain ⟨w2, hr, ho, hM, hsz⟩ := append_room (P := Try.prog) (t := 22) (ty := 22) (e := 30) (s := 7) (by simp) (by simp) (by kernel_rfl) (own_ext ht hD) (hd.ext hD) (wone _) (by omega) (Nat.zero_le _) (by omega)
  simp [slcH] at s2
  simp [e1] at s3
  have hN : i + (l.length - (i + 1)) = l.length - 1 := by omega
  rw [hN] at hr ho
  have hfl : (l.take i).flatMap wtC ++ (l.drop (i + 1)).flatMap wtC = (l.eraseIdx i).flatMap wtC := by rw [← List.flatMap_append, ← List.eraseIdx_eq_take_drop_succ]
  rw [hfl] at ho
  obtain ⟨w3, hr3, ho3, hM3, hsz3⟩ := clear_tail (P := Try.prog) (t := 22) (ty := 0) (by simp) (by simp) (zWt w2) (by simp) (by omega) (by simp; decide) ho (by omega)
  have e2 : l.length - 1 + 1 = l.length := by omega
  rw [e2] at hr3
  have s4 := sl_lh (P := Try.prog) (t := 22) (by simp) (some ⟨g, 0, none⟩) (l.length - 1) cap .i64 .i64 ((l.length - 1 : Nat) : Int) l.length (by omega) (by omega) (by omega) w2
  simp at s4
  simp [s2, s3, hr, s4, hr3]
  have hel : (l.eraseIdx i).length = l.length - 1 := List.length_eraseIdx_of_lt hi
  exact ⟨by show w3.ownsRow 0 30 7 _ (l.eraseIdx i).length _; rw [hel]; exact ho3, rfl, rfl, hD.mod.trans (hM.trans hM3)⟩
end Go.Proofs
namespace Go.Proofs
open Pk
set_option maxRecDepth 10000
/-! ### A line -/
abbrev MQ := List (Qu × (Value × List Wt))
abbrev MN := List (Nm × Qu)
def ewQ (x : Value × List Wt) : Value := x.1
def quOf (x : Wt) : Qu := (x.2.1, x.2.2.1)
def qof (s : List Wt) (q : Qu) : List Wt := s.filter fun x => decide (quOf x = q)
def findN (s : List Wt) (n : Nm) : Option Wt := s.find? fun x => decide (x.1 = n)
structure LineAt (w : World) (l Rq Rw : Nat) (M : MQ) (N : MN) (s : List Wt) (most : Int) : Prop where
  c0 : w.cell? ⟨l, 0, none⟩ = some (i64 most)
  c1 : w.cell? ⟨l, 1, none⟩ = some (.map (some Rq))
  c2 : w.cell? ⟨l, 2, none⟩ = some (.map (some Rw))
  mq : MapAt quV ewQ w Rq M
  mw : MapAt nmV quV w Rw N
  row : ∀ x ∈ M, WOwn w x.2.1 x.2.2
  nn : ∀ x ∈ M, x.2.2 ≠ []
  blk : (M.map fun x => slB x.2.1).Nodup
  lb : ∀ x ∈ M, slB x.2.1 ≠ l
  rq : Rw ≠ Rq
  qs : ∀ q, ((mget M q).map (·.2)).getD [] = qof s q
  ws : ∀ n, mget N n = (findN s n).map quOf
  nd : (s.map (·.1)).Nodup
  len : N.length = s.length
def Foot (l Rq Rw : Nat) (M : MQ) (k : Nat) : Prop := k = l ∨ k = Rq ∨ k = Rw ∨ ∃ x ∈ M, k = slB x.2.1
section
variable {w w' : World} {l Rq Rw : Nat} {M : MQ} {N : MN} {s : List Wt} {most : Int}
theorem LineAt.nil (h : LineAt w l Rq Rw M N s most) : ∀ x ∈ M, slN x.2.1 = false := fun x hx => own_nil (h.row x hx) (List.length_pos_iff.2 (h.nn x hx))
theorem LineAt.lt (h : LineAt w l Rq Rw M N s most) : ∀ k, Foot l Rq Rw M k → k < w.heap.size := by
  rintro k (rfl | rfl | rfl | ⟨x, hx, rfl⟩)
  · exact World.block_lt_of_cell? _ _ h.c0
  · exact h.mq.lt
  · exact h.mw.lt
  · obtain ⟨c, hc⟩ := own_obj (h.row x hx) (h.nil x hx)
    exact (Array.getElem?_eq_some_iff.1 hc).1
theorem LineAt.keep (h : LineAt w l Rq Rw M N s most) (hb : ∀ k, Foot l Rq Rw M k → k < w.heap.size → w'.heap[k]? = w.heap[k]?) : LineAt w' l Rq Rw M N s most := by
  have hl : w'.heap[l]? = w.heap[l]? := hb l (.inl rfl) (h.lt l (.inl rfl))
  refine ⟨?_, ?_, ?_, h.mq.keep (hb Rq (.inr (.inl rfl)) h.mq.lt), h.mw.keep (hb Rw (.inr (.inr (.inl rfl))) h.mw.lt), fun x hx => own_keep (h.row x hx) fun _ hlt => hb _ (.inr (.inr (.inr ⟨x, hx, rfl⟩))) hlt, h.nn, h.blk, h.lb, h.rq, h.qs, h.ws, h.nd, h.len⟩
  · rw [← h.c0]; unfold World.cell?; rw [hl]
  · rw [← h.c1]; unfold World.cell?; rw [hl]
  · rw [← h.c2]; unfold World.cell?; rw [hl]
theorem LineAt.ext (h : LineAt w l Rq Rw M N s most) (he : Ext w w') : LineAt w' l Rq Rw M N s most := h.keep fun k _ hk => he.blk k hk
theorem LineAt.mod {S : Nat → Prop} (h : LineAt w l Rq Rw M N s most) (he : Mod S w w') (hs : ∀ k, Foot l Rq Rw M k → ¬ S k) : LineAt w' l Rq Rw M N s most := h.keep fun k hf hk => he.blk k hk (hs k hf)
/-- The row of a queue. -/
def rowV (M : MQ) (q : Qu) : Value := ((mget M q).map ewQ).getD (.slice none 0 0)
theorem LineAt.hasQ (h : LineAt w l Rq Rw M N s most) {q : Qu} {v : Value} {r : List Wt} (hg : mget M q = some (v, r)) : r = qof s q ∧ qof s q ≠ [] := by
  have h1 := h.qs q
  rw [hg] at h1
  simp at h1
  exact ⟨h1, h1 ▸ h.nn _ (kget_mem hg)⟩
theorem LineAt.noQ (h : LineAt w l Rq Rw M N s most) {q : Qu} (hg : mget M q = none) : qof s q = [] := by
  have h1 := h.qs q
  rw [hg] at h1
  simpa using h1.symm
theorem LineAt.get (h : LineAt w l Rq Rw M N s most) {q : Qu} (hq : qof s q ≠ []) : ∃ v, mget M q = some (v, qof s q) := by
  cases hg : mget M q with
  | none => exact absurd (h.noQ hg) hq
  | some x => exact ⟨x.1, by rw [← (h.hasQ (v := x.1) (r := x.2) hg).1]⟩
theorem LineAt.sl (h : LineAt w l Rq Rw M N s most) (q : Qu) : WSl w (rowV M q) (qof s q) := by
  unfold rowV
  cases hg : mget M q with
  | none =>
    rw [h.noQ hg]
    exact Sl.nil w 7 0
  | some x =>
    have := sl_of_own (h.row _ (kget_mem hg))
    rw [← (h.hasQ (v := x.1) (r := x.2) hg).1]
    exact this
theorem LineAt.findQ (h : LineAt w l Rq Rw M N s most) (a b : Int) : (Instr.lookup 67 (.map (some Rq)) (.agg #[.int .u32 a, .int .i64 b]) false).run Try.prog w = .ok (rowV M (a, b)) w := by
  have := h.mq.lookup kQueue tmq (zSl w) (a, b) false
  simpa [rowV] using this
theorem LineAt.findW (h : LineAt w l Rq Rw M N s most) (a b c d : Int) (ok : Bool) : (Instr.lookup 68 (.map (some Rw)) (.agg #[.int .u32 a, .int .u32 b, .int .u64 c, .int .u32 d]) ok).run Try.prog w =
    .ok (if ok then .tuple #[quV (((findN s (a, b, c, d)).map quOf).getD (0, 0)), .bool (findN s (a, b, c, d)).isSome] else quV (((findN s (a, b, c, d)).map quOf).getD (0, 0))) w := by
  have := h.mw.lookup kName tmw (zQu w) (a, b, c, d) ok
  rw [h.ws] at this
  rw [this]
  cases findN s (a, b, c, d) <;> rfl
end
theorem none_c {w : World} {l Rq Rw : Nat} {M : MQ} {N : MN} {s : List Wt} {most : Int} (h : LineAt w l Rq Rw M N s most) : FN Try.prog 32 [ptr l] w fun e w' => e = .returned (.bool false) ∧ w' = w := by
  refine FN_enter Try.func32 rfl rfl (by kernel_rfl) ?_
  simp [h.c2]
/-! ### What is asked -/
theorem is_c (l : Nat) (w : World) : FN Try.prog 23 [ptr l] w fun e w' => e = .returned (.agg #[.func (.func 32) #[ptr l] #[], i64 1]) ∧ Ext w w' := by
  refine FN_enter Try.func23 rfl rfl (by kernel_rfl) ?_
  simp
  exact (Ext.refl w).alloc _
theorem right_c (n : Nm) (w : World) : FN Try.prog 24 [nmV n] w fun e w' => ∃ b, e = .returned (.agg #[.func (.func 55) #[] #[ptr b], i64 2]) ∧ NmAt w' b n ∧ Ext w w' := by
  refine FN_enter Try.func24 rfl rfl (by kernel_rfl) ?_
  have hn : NmAt (w.alloc (.cells #[u32 n.1, u32 n.2.1, u64 n.2.2.1, u32 n.2.2.2] 28)) w.heap.size n := NmAt.new w n 28
  have hE := (Ext.refl w).alloc (.cells #[u32 n.1, u32 n.2.1, u64 n.2.2.1, u32 n.2.2.2] 28)
  simp
  exact ⟨hn.ext ((Ext.refl _).alloc _), hE.alloc _⟩
theorem node_c (n : Int) (w : World) : FN Try.prog 25 [u32 n] w fun e w' => ∃ b, e = .returned (.agg #[.func (.func 57) #[] #[ptr b], i64 2]) ∧ Var w' b (u32 n) ∧ Ext w w' := by
  refine FN_enter Try.func25 rfl rfl (by kernel_rfl) ?_
  simp
  exact ⟨(Var.new w _ _).ext ((Ext.refl _).alloc _), ((Ext.refl w).alloc _).alloc _⟩
theorem waits_c (l : Nat) (n : Nm) (w : World) : FN Try.prog 35 [ptr l, nmV n] w fun e w' => ∃ b0 b1, e = .returned (.agg #[.func (.func 60) #[] #[ptr b0, ptr b1], i64 5]) ∧ Var w' b0 (ptr l) ∧ NmAt w' b1 n ∧ Ext w w' := by
  refine FN_enter Try.func35 rfl rfl (by kernel_rfl) ?_
  have hn : NmAt ((w.alloc (.cells #[ptr l] 32)).alloc (.cells #[u32 n.1, u32 n.2.1, u64 n.2.2.1, u32 n.2.2.2] 28)) (w.heap.size + 1) n := by
    have := NmAt.new (w.alloc (.cells #[ptr l] 32)) n 28
    simpa using this
  simp
  refine ⟨_, _, ⟨rfl, rfl⟩, ?_⟩
  exact ⟨(Var.new w _ _).ext (((Ext.refl _).alloc _).alloc _), hn.ext ((Ext.refl _).alloc _), (((Ext.refl w).alloc _).alloc _).alloc _⟩
theorem waitsF_c {w : World} {l Rq Rw b0 b1 : Nat} {M : MQ} {N : MN} {s : List Wt} {most : Int} {n : Nm} (h : LineAt w l Rq Rw M N s most) (v0 : Var w b0 (ptr l)) (hn : NmAt w b1 n) :
    FN Try.prog 60 [ptr b0, ptr b1] w fun e w' => e = .returned (.bool (findN s n).isNone) ∧ Ext w w' := by
  refine FN_enter Try.func60 rfl rfl (by kernel_rfl) ?_
  simp
  refine WC_drawL 11 (.F 0 <| .F 1 <| .F 2 <| .F 3 <| .F 4 <| .D 9 <| .L 5 <| .F 6 <| .F 7 <| .F 8 <| .W 9 <| .S 10 <| .Z) (fun _ => false) (fun _ => false) (fun _ u W => ∃ b, u = ptr b ∧ W.heap[b]? = some (.cells #[u32 0, i64 0] 80 (0, 0)) ∧ w.heap.size ≤ b) rfl (by kernel_rfl) (fun _ h => h)
    (fun _ _ _ _ ⟨b, h1, h2, h3⟩ h4 => ⟨b, h1, (agr_ext h4).obj h2, h3⟩) fun W hW => ?_
  have hWE : Ext w W := hW ▸ Ext.drew w
  have h0 := h.ext hWE
  have hn0 := hn.ext hWE
  simp [(v0.ext hWE).cell, h0.c2, hn0.c0, hn0.c1, hn0.c2, hn0.c3]
  refine RL_float (fun W1 h1 => ?_) ?_
  · simp
    have hs := (hWE.trans (agr_ext h1)).size
    exact ⟨(Ext.refl _).alloc _, by omega⟩
  simp
  refine RL_loose fun W1 h1 => ?_
  simp [(h0.ext h1).findW]
  refine KR_same ?_
  simp
  refine RL_wait fun _ W3 h3 ⟨b, hb, ho4, hlb⟩ => ?_
  subst hb
  have hE3 : Ext w W3 := hWE.trans (h1.trans h3)
  have z0 : W3.cell? ⟨b, 0, none⟩ = some (u32 0) := by simp [World.cell?, ho4]
  have z1 : W3.cell? ⟨b, 1, none⟩ = some (i64 0) := by simp [World.cell?, ho4]
  have zf : ∀ j, W3.frozen? ⟨b, j, none⟩ = false := fun j => by simp [World.frozen?, ho4]
  simp [z0, z1, zf, cell_setCell]
  refine KR_mk (agr_any (((Mod.refl _ _).any _ _).any _ _)) ?_
  have hX := fun (x y : Value) => (hE3.setCell ⟨b, 0, none⟩ x hlb).setCell ⟨b, 1, none⟩ y hlb
  simp
  cases findN s n <;> simp <;> exact hX _ _
/-! ### A name more -/
theorem mset_mset {κ ν : Type} [DecidableEq κ] (m : List (κ × ν)) (k : κ) (u v : ν) : mset (mset m k u) k v = mset m k v := by
  have h1 : (mget (mset m k u) k).isSome = true := by rw [kget_mset, if_pos rfl]; rfl
  unfold mset at h1 ⊢
  rw [if_pos h1]
  by_cases h : (mget m k).isSome = true
  · rw [if_pos h, if_pos h, List.map_map]
    apply List.map_congr_left
    intro p _
    simp only [Function.comp]
    by_cases hp : p.1 = k
    · simp [hp]
    · simp [hp]
  · rw [if_neg h, if_neg h, List.map_append]
    have hn : mget m k = none := by simpa using h
    have := kget_none hn
    congr 1
    · conv => rhs; rw [← List.map_id m]
      apply List.map_congr_left
      intro p hp
      rw [if_neg (this p hp)]; rfl
    · simp
theorem nodup_mset {κ ν β : Type} [DecidableEq κ] {m : List (κ × ν)} (hn : (m.map (·.1)).Nodup) (f : κ × ν → β) (hf : (m.map f).Nodup) (k : κ) (v : ν) (hv : ∀ y ∈ m, y.1 ≠ k → f y ≠ f (k, v)) : ((mset m k v).map f).Nodup := by
  unfold mset
  split
  · rename_i h
    rw [List.map_map]
    rw [List.Nodup, List.pairwise_map] at hf hn ⊢
    refine List.Pairwise.imp_of_mem ?_ (hf.and hn)
    rintro a b ha hb ⟨hab, hk⟩
    simp only [Function.comp]
    by_cases h1 : a.1 = k <;> by_cases h2 : b.1 = k
    · exact absurd (h1.trans h2.symm) hk
    · rw [if_pos h1, if_neg h2]; exact (hv b hb h2).symm
    · rw [if_neg h1, if_pos h2]; exact hv a ha h1
    · rw [if_neg h1, if_neg h2]; exact hab
  · rename_i h
    have hno := kget_none (by simpa using h : mget m k = none)
    rw [List.map_append, List.nodup_append]
    refine ⟨hf, by simp, ?_⟩
    intro a ha b hb
    simp at hb; subst hb
    obtain ⟨y, hy, rfl⟩ := List.mem_map.1 ha
    exact hv y hy (hno y hy)
theorem blk_uniq {M : MQ} (hn : (M.map (·.1)).Nodup) (hb : (M.map fun x => slB x.2.1).Nodup) {q : Qu} {z : Value × List Wt} (hg : mget M q = some z) : ∀ x ∈ M, x.1 ≠ q → slB x.2.1 ≠ slB z.1 := by
  intro x hx hne e
  have hm := kget_mem hg
  obtain ⟨i, hi, rfl⟩ := List.mem_iff_getElem.1 hx
  obtain ⟨j, hj, e2⟩ := List.mem_iff_getElem.1 hm
  have h1 : (M.map fun x => slB x.2.1)[i]'(by simpa using hi) = (M.map fun x => slB x.2.1)[j]'(by simpa using hj) := by simp [e, e2]
  have := (List.getElem_inj hb).1 h1
  subst this
  rw [e2] at hne
  exact hne rfl
theorem qof_snoc (s : List Wt) (x : Wt) (q : Qu) : qof (s ++ [x]) q = qof s q ++ (if quOf x = q then [x] else []) := by
  unfold qof
  rw [List.filter_append]
  congr 1
  by_cases h : quOf x = q <;> simp [h]
theorem findN_snoc (s : List Wt) (x : Wt) (n : Nm) : findN (s ++ [x]) n = (findN s n).or (if x.1 = n then some x else none) := by
  unfold findN
  rw [List.find?_append]
  congr 1
  by_cases h : x.1 = n <;> simp [h]
theorem findN_none {s : List Wt} {n : Nm} : findN s n = none ↔ n ∉ s.map (·.1) := by
  unfold findN
  rw [List.find?_eq_none]
  constructor
  · intro h hm
    obtain ⟨x, hx, rfl⟩ := List.mem_map.1 hm
    simpa using h x hx
  · intro h x hx
    have : x.1 ≠ n := fun e => h (e ▸ List.mem_map.2 ⟨x, hx, rfl⟩)
    simpa using this
theorem LineAt.maps {w : World} {l Rq Rw : Nat} {M : MQ} {N : MN} {s : List Wt} {most : Int} (h : LineAt w l Rq Rw M N s most) : Rq ≠ l ∧ Rw ≠ l ∧ (∀ x ∈ M, slB x.2.1 ≠ Rq ∧ slB x.2.1 ≠ Rw) := by
  have notC : ∀ {κ ν : Type} {ek : κ → Value} {ew : ν → Value} {r b : Nat} {m : List (κ × ν)} {c t fr}, MapAt ek ew w r m → w.heap[b]? = some (.cells c t fr) → b ≠ r := by
    rintro κ ν ek ew r b m c t fr ⟨⟨es, c, h1, _⟩, _⟩ h2 e
    rw [e, h1] at h2; cases h2
  obtain ⟨c, t, fr, hl⟩ := cell_blk h.c0
  refine ⟨(notC h.mq hl).symm, (notC h.mw hl).symm, fun x hx => ?_⟩
  obtain ⟨c, hc⟩ := own_obj (h.row x hx) (h.nil x hx)
  exact ⟨notC h.mq hc, notC h.mw hc⟩
theorem LineAt.push {w w' : World} {l Rq Rw : Nat} {M : MQ} {N : MN} {s : List Wt} {most : Int} (h : LineAt w l Rq Rw M N s most) {x : Wt} (hx : findN s x.1 = none) {v' : Value}
    (hmq : MapAt quV ewQ w' Rq (mset M (quOf x) (v', qof s (quOf x) ++ [x]))) (hmw : MapAt nmV quV w' Rw (mset N x.1 (quOf x))) (ho : WOwn w' v' (qof s (quOf x) ++ [x]))
    (hM : Mod (fun k => k = Rq ∨ k = Rw ∨ ((mget M (quOf x)).isSome = true ∧ k = slB (rowV M (quOf x)))) w w') (hb : ((mget M (quOf x)).isSome = true ∧ slB v' = slB (rowV M (quOf x))) ∨ w.heap.size ≤ slB v') :
    LineAt w' l Rq Rw (mset M (quOf x) (v', qof s (quOf x) ++ [x])) (mset N x.1 (quOf x)) (s ++ [x]) most ∧ Mod (Foot l Rq Rw M) w w' ∧ ∀ k, Foot l Rq Rw (mset M (quOf x) (v', qof s (quOf x) ++ [x])) k → Foot l Rq Rw M k ∨ w.heap.size ≤ k := by
  obtain ⟨m1, m2, m3⟩ := h.maps
  have hrow : (mget M (quOf x)).isSome = true → ∃ z, mget M (quOf x) = some z ∧ rowV M (quOf x) = z.1 := by
    intro hs
    obtain ⟨z, hz⟩ := Option.isSome_iff_exists.1 hs
    exact ⟨z, hz, by simp [rowV, hz, ewQ]⟩
  have hF : ∀ k, (k = Rq ∨ k = Rw ∨ ((mget M (quOf x)).isSome = true ∧ k = slB (rowV M (quOf x)))) → Foot l Rq Rw M k := by
    rintro k (rfl | rfl | ⟨hs, rfl⟩)
    · exact .inr (.inl rfl)
    · exact .inr (.inr (.inl rfl))
    · obtain ⟨z, hz, hr⟩ := hrow hs
      rw [hr]
      exact .inr (.inr (.inr ⟨_, kget_mem hz, rfl⟩))
  have hfoot : ∀ y ∈ M, y.1 ≠ quOf x → ¬ (slB y.2.1 = Rq ∨ slB y.2.1 = Rw ∨ ((mget M (quOf x)).isSome = true ∧ slB y.2.1 = slB (rowV M (quOf x)))) := by
    rintro y hy hne (e | e | ⟨hs, e⟩)
    · exact (m3 y hy).1 e
    · exact (m3 y hy).2 e
    · obtain ⟨z, hz, hr⟩ := hrow hs
      rw [hr] at e
      exact blk_uniq h.mq.nodup h.blk hz y hy hne e
  have hlS : ¬ (l = Rq ∨ l = Rw ∨ ((mget M (quOf x)).isSome = true ∧ l = slB (rowV M (quOf x)))) := by
    rintro (e | e | ⟨hs, e⟩)
    · exact m1 e.symm
    · exact m2 e.symm
    · obtain ⟨z, hz, hr⟩ := hrow hs
      rw [hr] at e
      exact h.lb _ (kget_mem hz) e.symm
  refine ⟨⟨hM.cell h.c0 hlS, hM.cell h.c1 hlS, hM.cell h.c2 hlS, hmq, hmw, ?_, ?_, ?_, ?_, h.rq, ?_, ?_, ?_, ?_⟩, hM.weaken hF, ?_⟩
  · intro y hy
    rcases kset_mem hy with rfl | ⟨hy, hne⟩
    · exact ho
    · exact own_keep (h.row y hy) fun _ hlt => hM.blk _ hlt (hfoot y hy hne)
  · intro y hy
    rcases kset_mem hy with rfl | ⟨hy, hne⟩
    · simp
    · exact h.nn y hy
  · refine nodup_mset h.mq.nodup _ h.blk _ _ fun y hy hne => ?_
    have hlt := h.lt _ (.inr (.inr (.inr ⟨y, hy, rfl⟩)))
    rcases hb with ⟨hs, hb⟩ | hb
    · obtain ⟨z, hz, hr⟩ := hrow hs
      simp only
      rw [hb, hr]
      exact blk_uniq h.mq.nodup h.blk hz y hy hne
    · simp only; omega
  · intro y hy
    have hll := h.lt l (.inl rfl)
    rcases kset_mem hy with rfl | ⟨hy, hne⟩
    · rcases hb with ⟨hs, hb⟩ | hb
      · obtain ⟨z, hz, hr⟩ := hrow hs
        simp only
        rw [hb, hr]
        exact h.lb _ (kget_mem hz)
      · simp only; omega
    · exact h.lb y hy
  · intro q
    rw [kget_mset, qof_snoc]
    by_cases hq : q = quOf x
    · subst hq; simp
    · rw [if_neg hq, if_neg (fun e => hq e.symm), List.append_nil]
      exact h.qs q
  · intro n
    rw [kget_mset, findN_snoc]
    by_cases hn : n = x.1
    · subst hn; rw [if_pos rfl, hx]; simp
    · rw [if_neg hn, if_neg (fun e => hn e.symm), Option.or_none]
      exact h.ws n
  · rw [List.map_append, List.nodup_append]
    refine ⟨h.nd, by simp, fun a ha b hb => ?_⟩
    simp at hb; subst hb
    rintro rfl
    exact findN_none.1 hx ha
  · have : mget N x.1 = none := by rw [h.ws, hx]; rfl
    rw [kset_len, this, h.len]
    simp
  · rintro k (e | e | e | ⟨y, hy, e⟩)
    · exact .inl (.inl e)
    · exact .inl (.inr (.inl e))
    · exact .inl (.inr (.inr (.inl e)))
    · rcases kset_mem hy with rfl | ⟨hy, hne⟩
      · rcases hb with ⟨hs, hb⟩ | hb
        · left; refine hF k (.inr (.inr ⟨hs, ?_⟩)); rw [e]; exact hb
        · right; rw [e]; exact hb
      · exact .inl (.inr (.inr (.inr ⟨y, hy, e⟩)))
/-- Blocks that a row may be written in. -/
def Xq (Rq : Nat) (v : Value) (k : Nat) : Bool := decide (k = Rq) || (!slN v && decide (k = slB v))
theorem Xq_f {Rq : Nat} {v : Value} {k : Nat} (h1 : k ≠ Rq) (h2 : slN v = false → k ≠ slB v) : Xq Rq v k = false := by
  unfold Xq
  cases hn : slN v with
  | true => simp [h1]
  | false => simp [h1, h2 hn]
theorem Xq_agr {Rq : Nat} {v : Value} {w w' : World} (h : Mod (fun k => k = Rq ∨ (slN v = false ∧ k = slB v)) w w') : Agr (fun k => Xq Rq v k = false) w w' := h.agr fun k hk hc => by
  unfold Xq at hk
  rcases hc with rfl | ⟨h1, rfl⟩
  · simp at hk
  · simp [h1] at hk
theorem LineAt.rowV_ne {w : World} {l Rq Rw : Nat} {M : MQ} {N : MN} {s : List Wt} {most : Int} (h : LineAt w l Rq Rw M N s most) (q : Qu) (hn : slN (rowV M q) = false) : ∃ z, mget M q = some z ∧ rowV M q = z.1 := by
  unfold rowV at hn ⊢
  cases hg : mget M q with
  | none => rw [hg] at hn; simp [slN] at hn
  | some z => exact ⟨z, rfl, rfl⟩
set_option maxHeartbeats 1000000 in
theorem push_c {w : World} {l Rq Rw : Nat} {M : MQ} {N : MN} {s : List Wt} {most : Int} (h : LineAt w l Rq Rw M N s most) (x : Wt) (hx : findN s x.1 = none) (hb : s.length ≤ 1048575) :
    FN Try.prog 31 [ptr l, wtV x] w fun e w' => (∃ u, e = .returned u) ∧ ∃ M' N', LineAt w' l Rq Rw M' N' (s ++ [x]) most ∧ Mod (Foot l Rq Rw M) w w' ∧ ∀ k, Foot l Rq Rw M' k → Foot l Rq Rw M k ∨ w.heap.size ≤ k := by
  refine FN_enter Try.func31 rfl rfl (by kernel_rfl) ?_
  simp
  have hE1 : Ext w ((w.alloc (.cells #[u32 x.1.1, u32 x.1.2.1, u64 x.1.2.2.1, u32 x.1.2.2.2, u32 x.2.1, i64 x.2.2.1, i64 x.2.2.2] 30)).alloc (.cells #[u32 x.2.1, i64 x.2.2.1] 80)) := ((Ext.refl w).alloc _).alloc _
  have hx1 : WtAt ((w.alloc (.cells #[u32 x.1.1, u32 x.1.2.1, u64 x.1.2.2.1, u32 x.1.2.2.2, u32 x.2.1, i64 x.2.2.1, i64 x.2.2.2] 30)).alloc (.cells #[u32 x.2.1, i64 x.2.2.1] 80)) w.heap.size x := (WtAt.new w x 30).ext ((Ext.refl _).alloc _)
  have q0 : ((w.alloc (.cells #[u32 x.1.1, u32 x.1.2.1, u64 x.1.2.2.1, u32 x.1.2.2.2, u32 x.2.1, i64 x.2.2.1, i64 x.2.2.2] 30)).alloc (.cells #[u32 x.2.1, i64 x.2.2.1] 80)).cell? ⟨w.heap.size + 1, 0, none⟩ = some (u32 x.2.1) := by simp
  have q1 : ((w.alloc (.cells #[u32 x.1.1, u32 x.1.2.1, u64 x.1.2.2.1, u32 x.1.2.2.2, u32 x.2.1, i64 x.2.2.1, i64 x.2.2.2] 30)).alloc (.cells #[u32 x.2.1, i64 x.2.2.1] 80)).cell? ⟨w.heap.size + 1, 1, none⟩ = some (i64 x.2.2.1) := by simp
  have hsz : ((w.alloc (.cells #[u32 x.1.1, u32 x.1.2.1, u64 x.1.2.2.1, u32 x.1.2.2.2, u32 x.2.1, i64 x.2.2.1, i64 x.2.2.2] 30)).alloc (.cells #[u32 x.2.1, i64 x.2.2.1] 80)).heap.size = w.heap.size + 1 + 1 := by simp
  generalize ((w.alloc (.cells #[u32 x.1.1, u32 x.1.2.1, u64 x.1.2.2.1, u32 x.1.2.2.2, u32 x.2.1, i64 x.2.2.1, i64 x.2.2.2] 30)).alloc (.cells #[u32 x.2.1, i64 x.2.2.1] 80)) = w1 at *
  have h1 := h.ext hE1
  obtain ⟨m1, m2, m3⟩ := h.maps
  have hlt := h.lt
  have hll := hlt l (.inl rfl)
  have hlq := hlt Rq (.inr (.inl rfl))
  have hlw := hlt Rw (.inr (.inr (.inl rfl)))
  obtain ⟨v, hv⟩ : ∃ v, v = rowV M (quOf x) := ⟨_, rfl⟩
  have hvb : slN v = false → slB v < w.heap.size ∧ slB v ≠ l ∧ slB v ≠ Rw ∧ slB v ≠ Rq := fun hn => by
    obtain ⟨z, hz, e⟩ := h.rowV_ne (quOf x) (hv ▸ hn)
    rw [hv, e]
    have hm := kget_mem hz
    exact ⟨hlt _ (.inr (.inr (.inr ⟨_, hm, rfl⟩))), h.lb _ hm, (m3 _ hm).2, (m3 _ hm).1⟩
  have X0 : Xq Rq v l = false := Xq_f (Ne.symm m1) fun hn => (hvb hn).2.1.symm
  have X1 : Xq Rq v w.heap.size = false := Xq_f (by omega) fun hn => by have := (hvb hn).1; omega
  have X2 : Xq Rq v (w.heap.size + 1) = false := Xq_f (by omega) fun hn => by have := (hvb hn).1; omega
  refine WC_drawC 11 (.F 0 <| .F 1 <| .F 2 <| .F 3 <| .F 4 <| .F 5 <| .C 6 <| .C 7 <| .F 8 <| .F 10 <| .C 9 <| .Z) (Xq Rq v) rfl (by kernel_rfl) fun W hW => ?_
  have hWE : Ext w1 W := hW ▸ Ext.drew _
  have h2 := h1.ext hWE
  have hx2 := hx1.ext hWE
  simp [h2.c1, hx2.c0, hx2.c1, hx2.c2, hx2.c3, hx2.c4, hx2.c5, hx2.c6, hWE.cell_eq q0, hWE.cell_eq q1, X0, X1, X2]
  have hE3 : Ext W (W.alloc (.cells #[u32 x.1.1, u32 x.1.2.1, u64 x.1.2.2.1, u32 x.1.2.2.2, u32 x.2.1, i64 x.2.2.1, i64 x.2.2.2] 30)) := (Ext.refl W).alloc _
  have hsl : Sl (W.alloc (.cells #[u32 x.1.1, u32 x.1.2.1, u64 x.1.2.2.1, u32 x.1.2.2.2, u32 x.2.1, i64 x.2.2.1, i64 x.2.2.2] 30)) 7 (.slice (some ⟨W.heap.size, 0, none⟩) 1 1) 1 (wtC x) := Sl.made W (wtC x) 30 7 1 rfl
  have hWs := hWE.size
  refine KR_ext hE3 ?_
  simp
  generalize (W.alloc (.cells #[u32 x.1.1, u32 x.1.2.1, u64 x.1.2.2.1, u32 x.1.2.2.2, u32 x.2.1, i64 x.2.2.1, i64 x.2.2.2] 30)) = W3 at *
  have h3 := h2.ext hE3
  obtain ⟨W4, n, hr4, hm4, he4, hM4, hs4⟩ := h3.mq.entry (P := Try.prog) kQueue tmq (z := (.slice none 0 0, [])) (zSl W3) (quOf x)
  have hzv : (mget M (quOf x)).getD (.slice none 0 0, []) = (v, qof s (quOf x)) := by
    rw [hv]
    unfold rowV
    cases hg : mget M (quOf x) with
    | none => rw [h.noQ hg]; rfl
    | some z => rw [← (h.hasQ (v := z.1) (r := z.2) hg).1]; rfl
  rw [hzv] at hr4 hm4
  simp [quOf, ewQ] at hr4
  simp [hr4]
  have hA4 : Agr (fun k => Xq Rq v k = false) W3 W4 := Xq_agr (hM4.weaken fun k hk => .inl hk)
  refine KR_mk hA4 ?_
  simp
  have hown3 : W3.ownsRow 0 30 7 v (qof s (quOf x)).length ((qof s (quOf x)).flatMap wtC) := by
    rw [hv]
    unfold rowV
    cases hg : mget M (quOf x) with
    | none => rw [h.noQ hg]; exact World.ownsRow_nil _ _ _ _
    | some z =>
      have := h3.row _ (kget_mem hg)
      rw [(h.hasQ (v := z.1) (r := z.2) hg).1] at this
      exact this
  have hown4 : W4.ownsRow 0 30 7 v (qof s (quOf x)).length ((qof s (quOf x)).flatMap wtC) := own_keep hown3 fun hn hlt => hM4.blk _ hlt (hvb hn).2.2.2
  have hsl4 := hsl.mod hM4 (show ¬ (slB (.slice (some ⟨W.heap.size, 0, none⟩) 1 1) = Rq) from by simp only [slB]; omega)
  have hlen : (qof s (quOf x)).length ≤ s.length := List.length_filter_le _ _
  obtain ⟨v', W5, hr5, ho5, hM5, hb5⟩ := append_own (P := Try.prog) (t := 22) (ty := 22) (e := 30) (s := 7) (by simp) (by simp) (by kernel_rfl) hown4 hsl4 (fun u hu => wone [x] u (by simpa using hu)) (by omega) (Nat.zero_le _)
  simp [hr5]
  refine KR_mk (Xq_agr (hM5.weaken fun k hk => .inr hk)) ?_
  have hm5 := hm4.mod hM5 (fun hk => (hvb hk.1).2.2.2 hk.2.symm)
  have he5 := he4.mod hM5 (fun hk => (hvb hk.1).2.2.2 hk.2.symm)
  obtain ⟨W6, hr6, hm6, hM6, hs6⟩ := hm5.entryStore (P := Try.prog) (T := 67) qu_inj he5 (v', qof s (quOf x) ++ [x])
  rw [mset_mset] at hm6
  simp [ewQ] at hr6
  simp [hr6]
  have hEall : Mod (fun k => k = Rq ∨ (slN v = false ∧ k = slB v)) w1 W6 :=
    (hWE.trans hE3).mod.trans ((hM4.weaken fun k hk => .inl hk).trans ((hM5.weaken fun k hk => .inr hk).trans (hM6.weaken fun k hk => .inl hk)))
  have n1 : ¬ (l = Rq ∨ (slN v = false ∧ l = slB v)) := fun e => by rcases e with e | ⟨e1, e2⟩; exact m1 e.symm; exact (hvb e1).2.1 e2.symm
  have n2 : ∀ b, w.heap.size ≤ b → ¬ (b = Rq ∨ (slN v = false ∧ b = slB v)) := fun b hb e => by rcases e with e | ⟨e1, e2⟩; omega; have := (hvb e1).1; omega
  have n3 : ¬ (Rw = Rq ∨ (slN v = false ∧ Rw = slB v)) := fun e => by
    rcases e with e | ⟨e1, e2⟩
    · exact h.rq e
    · exact (hvb e1).2.2.1 e2.symm
  have hd := Ext.drew W6
  have hx6 := (hx1.mod hEall (n2 _ (Nat.le_refl _))).ext hd
  have c2 := hd.cell_eq (hEall.cell h1.c2 n1)
  have g0 := hd.cell_eq (hEall.cell q0 (n2 _ (by simp only; omega)))
  have g1 := hd.cell_eq (hEall.cell q1 (n2 _ (by simp only; omega)))
  have hw6 := (h1.mw.mod hEall n3).ext hd
  refine WC_drawQ 7 rfl (by kernel_rfl) ?_
  obtain ⟨W7, hr7, hm7, hM7, hs7⟩ := hw6.update (P := Try.prog) kName tmw x.1 (quOf x)
  simp [quOf] at hr7
  simp [c2, g0, g1, hx6.c0, hx6.c1, hx6.c2, hx6.c3, hr7]
  have hM17 : Mod (fun k => k = Rq ∨ k = Rw ∨ (slN v = false ∧ k = slB v)) w W7 :=
    hE1.mod.trans ((hEall.weaken fun k hk => by rcases hk with hk | hk; exact .inl hk; exact .inr (.inr hk)).trans (hd.mod.trans (hM7.weaken fun k hk => .inr (.inl hk))))
  have hsome : slN v = false → (mget M (quOf x)).isSome = true := fun hn => by
    obtain ⟨z, hz, _⟩ := h.rowV_ne (quOf x) (hv ▸ hn)
    rw [hz]; rfl
  have hv' : slN v' = false := own_nil ho5 (by omega)
  have hb' : slB v' ≠ Rw ∧ slB v' ≠ Rq := by
    rcases hb5 hv' with ⟨e1, e2⟩ | e
    · rw [e2]; exact ⟨(hvb e1).2.2.1, (hvb e1).2.2.2⟩
    · have := hE3.size; have := hE1.size; constructor <;> omega
  have ho7 : WOwn W7 v' (qof s (quOf x) ++ [x]) := by
    have h1 := own_keep ho5 fun hn hlt => hM6.blk _ hlt hb'.2
    have h2 := own_ext h1 hd
    have h3 := own_keep h2 fun hn hlt => hM7.blk _ hlt hb'.1
    show W7.ownsRow 0 30 7 v' (qof s (quOf x) ++ [x]).length _
    rw [List.length_append, List.flatMap_append]
    simpa using h3
  have hmq7 := (hm6.ext hd).mod hM7 (fun e => h.rq e.symm)
  have hfin := h.push hx hmq7 hm7 ho7 (hM17.weaken fun k hk => by
    rcases hk with hk | hk | ⟨e1, e2⟩
    · exact .inl hk
    · exact .inr (.inl hk)
    · exact .inr (.inr ⟨hsome e1, hv ▸ e2⟩)) (by
    rcases hb5 hv' with ⟨e1, e2⟩ | e
    · exact .inl ⟨hsome e1, hv ▸ e2⟩
    · right; have := hE3.size; have := hE1.size; omega)
  exact ⟨_, ⟨_, hfin.1⟩, hfin.2⟩
end Go.Proofs
namespace Go.Proofs
open Pk
set_option maxRecDepth 10000
theorem findN_mget (s : List Wt) (n : Nm) : findN s n = (mget s n).map fun r => (n, r) := by
  unfold findN mget
  cases h : s.find? (fun x => decide (x.1 = n)) with
  | none => rfl
  | some x =>
    have := List.find?_some h
    simp at this
    simp [← this]
theorem findN_some {s : List Wt} {n : Nm} {x : Wt} (h : findN s n = some x) : x ∈ s ∧ x.1 = n := by
  unfold findN at h
  have h1 := List.find?_some h
  exact ⟨List.mem_of_find?_eq_some h, by simpa using h1⟩
theorem findN_of {s : List Wt} (hn : (s.map (·.1)).Nodup) {x : Wt} (hx : x ∈ s) : findN s x.1 = some x := by
  rw [findN_mget, (kget_iff hn).2 (show (x.1, x.2) ∈ s from hx)]
  rfl
theorem uniqN {s : List Wt} (hn : (s.map (·.1)).Nodup) {x y : Wt} (hx : x ∈ s) (hy : y ∈ s) (h : x.1 = y.1) : x = y := by
  have h1 := findN_of hn hx
  have h2 := findN_of hn hy
  rw [h, h2] at h1
  exact (Option.some.inj h1).symm
theorem findN_drop (s : List Wt) (n m : Nm) : findN (mdel s n) m = if m = n then none else findN s m := by
  rw [findN_mget, findN_mget, kget_mdel]
  by_cases h : m = n
  · rw [if_pos h, if_pos h]; rfl
  · rw [if_neg h, if_neg h]
theorem qof_drop (s : List Wt) (n : Nm) (q : Qu) : qof (mdel s n) q = (qof s q).filter fun y => decide (y.1 ≠ n) := by
  unfold qof mdel
  rw [List.filter_filter, List.filter_filter]
  congr 1
  funext y
  rw [Bool.and_comm]
theorem qof_drop_ne {s : List Wt} (hn : (s.map (·.1)).Nodup) {n : Nm} {x : Wt} (hx : findN s n = some x) {q : Qu} (hq : q ≠ quOf x) : qof (mdel s n) q = qof s q := by
  rw [qof_drop, List.filter_eq_self]
  intro y hy
  obtain ⟨h1, h2⟩ := List.mem_filter.1 hy
  obtain ⟨h3, h4⟩ := findN_some hx
  simp only [decide_eq_true_eq] at h2 ⊢
  intro e
  have := uniqN hn h1 h3 (e.trans h4.symm)
  exact hq (by rw [← h2, this])
theorem erase_name {r : List Wt} (hn : (r.map (·.1)).Nodup) {n : Nm} {i : Nat} (hi : r.findIdx? (fun x => decide (x.1 = n)) = some i) : r.eraseIdx i = r.filter fun y => decide (y.1 ≠ n) := by
  obtain ⟨hil, hpi, hlt'⟩ := List.findIdx?_eq_some_iff_getElem.1 hi
  have hpk : (r[i]).1 = n := by simpa using hpi
  have hnd := List.pairwise_iff_getElem.1 hn
  rw [List.eraseIdx_eq_take_drop_succ]
  conv => rhs; rw [← List.take_append_drop i r]
  rw [List.filter_append, List.drop_eq_getElem_cons hil, List.filter_cons]
  simp only [hpk, ne_eq, not_true_eq_false, decide_false, Bool.false_eq_true, if_false]
  congr 1
  · symm
    rw [List.filter_eq_self]
    intro p hp
    obtain ⟨j, hj, rfl⟩ := List.mem_iff_getElem.1 hp
    simp only [List.length_take] at hj
    have := hlt' j (by omega)
    simp only [List.getElem_take]
    simpa using this
  · symm
    rw [List.filter_eq_self]
    intro p hp
    obtain ⟨j, hj, rfl⟩ := List.mem_iff_getElem.1 hp
    simp only [List.length_drop] at hj
    simp only [List.getElem_drop, decide_eq_true_eq]
    intro e
    exact hnd i (i + 1 + j) (by simpa using hil) (by simp; omega) (by omega) (by simp [hpk, e])
theorem qof_nodup {s : List Wt} (hn : (s.map (·.1)).Nodup) (q : Qu) : ((qof s q).map (·.1)).Nodup := hn.sublist ((List.filter_sublist).map _)
theorem mdel_mset {κ ν : Type} [DecidableEq κ] (m : List (κ × ν)) (k : κ) (v : ν) : mdel (mset m k v) k = mdel m k := by
  unfold mset
  split
  · unfold mdel
    rw [List.filter_map]
    have : ∀ p : κ × ν, ((fun p => decide (p.1 ≠ k)) ∘ fun p => if p.1 = k then (k, v) else p) p = decide (p.1 ≠ k) := by
      intro p
      by_cases h : p.1 = k <;> simp [h]
    rw [funext this]
    conv => rhs; rw [← List.map_id (m.filter _)]
    apply List.map_congr_left
    intro p hp
    have := (List.mem_filter.1 hp).2
    simp only [decide_eq_true_eq] at this
    rw [if_neg this]; rfl
  · unfold mdel
    rw [List.filter_append]
    simp
theorem LineAt.drop {w w' : World} {l Rq Rw : Nat} {M M' : MQ} {N : MN} {s : List Wt} {most : Int} (h : LineAt w l Rq Rw M N s most) {n : Nm} {x : Wt} (hx : findN s n = some x) {v v' : Value} {r : List Wt} (hg : mget M (quOf x) = some (v, r))
    (hM' : M' = if qof (mdel s n) (quOf x) = [] then mdel M (quOf x) else mset M (quOf x) (v', qof (mdel s n) (quOf x)))
    (hmq : MapAt quV ewQ w' Rq M') (hmw : MapAt nmV quV w' Rw (mdel N n)) (ho : WOwn w' v' (qof (mdel s n) (quOf x))) (hb : slB v' = slB v) (hM : Mod (fun k => k = Rq ∨ k = Rw ∨ k = slB v) w w') :
    LineAt w' l Rq Rw M' (mdel N n) (mdel s n) most ∧ Mod (Foot l Rq Rw M) w w' ∧ ∀ k, Foot l Rq Rw M' k → Foot l Rq Rw M k := by
  obtain ⟨m1, m2, m3⟩ := h.maps
  have hm := kget_mem hg
  have hF : ∀ k, (k = Rq ∨ k = Rw ∨ k = slB v) → Foot l Rq Rw M k := by
    rintro k (rfl | rfl | rfl)
    · exact .inr (.inl rfl)
    · exact .inr (.inr (.inl rfl))
    · exact .inr (.inr (.inr ⟨_, hm, rfl⟩))
  have hfoot : ∀ y ∈ M, y.1 ≠ quOf x → ¬ (slB y.2.1 = Rq ∨ slB y.2.1 = Rw ∨ slB y.2.1 = slB v) := by
    rintro y hy hne (e | e | e)
    · exact (m3 y hy).1 e
    · exact (m3 y hy).2 e
    · exact blk_uniq h.mq.nodup h.blk hg y hy hne e
  have hlS : ¬ (l = Rq ∨ l = Rw ∨ l = slB v) := by
    rintro (e | e | e)
    · exact m1 e.symm
    · exact m2 e.symm
    · exact h.lb _ hm e.symm
  have hmem : ∀ y ∈ M', (y = (quOf x, (v', qof (mdel s n) (quOf x))) ∧ qof (mdel s n) (quOf x) ≠ []) ∨ (y ∈ M ∧ y.1 ≠ quOf x) := by
    intro y hy
    rw [hM'] at hy
    split at hy
    · exact .inr (kdel_mem.1 hy)
    · rename_i hne
      rcases kset_mem hy with h1 | h1
      · exact .inl ⟨h1, hne⟩
      · exact .inr h1
  have hnds : ((mdel s n).map (·.1)).Nodup := kdel_nodup h.nd n
  refine ⟨⟨hM.cell h.c0 hlS, hM.cell h.c1 hlS, hM.cell h.c2 hlS, hmq, hmw, ?_, ?_, ?_, ?_, h.rq, ?_, ?_, hnds, ?_⟩, hM.weaken hF, ?_⟩
  · intro y hy
    rcases hmem y hy with ⟨rfl, _⟩ | ⟨hy, hne⟩
    · exact ho
    · exact own_keep (h.row y hy) fun _ hlt => hM.blk _ hlt (hfoot y hy hne)
  · intro y hy
    rcases hmem y hy with ⟨rfl, hn⟩ | ⟨hy, hne⟩
    · exact hn
    · exact h.nn y hy
  · rw [hM']
    split
    · exact h.blk.sublist ((List.filter_sublist).map _)
    · refine nodup_mset h.mq.nodup _ h.blk _ _ fun y hy hne => ?_
      simp only
      rw [hb]
      exact blk_uniq h.mq.nodup h.blk hg y hy hne
  · intro y hy
    rcases hmem y hy with ⟨rfl, _⟩ | ⟨hy, hne⟩
    · simp only
      rw [hb]
      exact h.lb _ hm
    · exact h.lb y hy
  · intro q
    by_cases hq : q = quOf x
    · subst hq
      rw [hM']
      split
      · rename_i h0
        rw [kget_mdel, if_pos rfl, h0]; rfl
      · rw [kget_mset, if_pos rfl]; rfl
    · rw [qof_drop_ne h.nd hx hq, ← h.qs q, hM']
      split
      · rw [kget_mdel, if_neg hq]
      · rw [kget_mset, if_neg hq]
  · intro m
    rw [kget_mdel, findN_drop]
    by_cases hmn : m = n
    · rw [if_pos hmn, if_pos hmn]; rfl
    · rw [if_neg hmn, if_neg hmn]; exact h.ws m
  · have h1 := kdel_len h.mw.nodup n
    have h2 := kdel_len h.nd n
    have h3 : (mget N n).isSome = true := by rw [h.ws, hx]; rfl
    have h4 : (mget s n).isSome = true := by
      rw [findN_mget] at hx
      cases hh : mget s n with
      | none => rw [hh] at hx; cases hx
      | some _ => rfl
    have h5 := h.len
    rw [if_pos h3] at h1
    rw [if_pos h4] at h2
    omega
  · rintro k (e | e | e | ⟨y, hy, e⟩)
    · exact .inl e
    · exact .inr (.inl e)
    · exact .inr (.inr (.inl e))
    · rcases hmem y hy with ⟨rfl, _⟩ | ⟨hy, hne⟩
      · refine hF k (.inr (.inr ?_)); rw [e]; exact hb
      · exact .inr (.inr (.inr ⟨y, hy, e⟩))
set_option maxHeartbeats 1000000 in
theorem pull_c {w : World} {l Rq Rw : Nat} {M : MQ} {N : MN} {s : List Wt} {most : Int} (h : LineAt w l Rq Rw M N s most) {n : Nm} {x : Wt} (hx : findN s n = some x) (hbd : s.length ≤ 1048575) :
    FN Try.prog 36 [ptr l, nmV n] w fun e w' => e = .returned (wtV x) ∧ ∃ M', LineAt w' l Rq Rw M' (mdel N n) (mdel s n) most ∧ Mod (Foot l Rq Rw M) w w' ∧ ∀ k, Foot l Rq Rw M' k → Foot l Rq Rw M k := by
  refine FN_enter Try.func36 rfl rfl (by kernel_rfl) ?_
  obtain ⟨hxs, hxn⟩ := findN_some hx
  have hq0 : x ∈ qof s (quOf x) := List.mem_filter.2 ⟨hxs, by simp⟩
  obtain ⟨v, hg⟩ := h.get (q := quOf x) (List.ne_nil_of_mem hq0)
  have hrv : rowV M (quOf x) = v := by simp [rowV, hg, ewQ]
  have hm := kget_mem hg
  obtain ⟨m1, m2, m3⟩ := h.maps
  have hlt := h.lt
  have hll := hlt l (.inl rfl)
  have hlq := hlt Rq (.inr (.inl rfl))
  have hlw := hlt Rw (.inr (.inr (.inl rfl)))
  have hlv := hlt _ (.inr (.inr (.inr ⟨_, hm, rfl⟩)))
  simp at hlv
  have hE1 : Ext w ((w.alloc (.cells #[u32 n.1, u32 n.2.1, u64 n.2.2.1, u32 n.2.2.2] 28)).alloc (.cells #[u32 0, u32 0, u64 0, u32 0, u32 0, i64 0, i64 0] 30)) := ((Ext.refl w).alloc _).alloc _
  have hn1 : NmAt ((w.alloc (.cells #[u32 n.1, u32 n.2.1, u64 n.2.2.1, u32 n.2.2.2] 28)).alloc (.cells #[u32 0, u32 0, u64 0, u32 0, u32 0, i64 0, i64 0] 30)) w.heap.size n := (NmAt.new w n 28).ext ((Ext.refl _).alloc _)
  have hob : ((w.alloc (.cells #[u32 n.1, u32 n.2.1, u64 n.2.2.1, u32 n.2.2.2] 28)).alloc (.cells #[u32 0, u32 0, u64 0, u32 0, u32 0, i64 0, i64 0] 30)).heap[w.heap.size + 1]? = some (.cells #[u32 0, u32 0, u64 0, u32 0, u32 0, i64 0, i64 0] 30 (0, 0)) := by
    have := World.alloc_heap_new (w.alloc (.cells #[u32 n.1, u32 n.2.1, u64 n.2.2.1, u32 n.2.2.2] 28)) (.cells #[u32 0, u32 0, u64 0, u32 0, u32 0, i64 0, i64 0] 30 (0, 0))
    simpa using this
  have hsz : ((w.alloc (.cells #[u32 n.1, u32 n.2.1, u64 n.2.2.1, u32 n.2.2.2] 28)).alloc (.cells #[u32 0, u32 0, u64 0, u32 0, u32 0, i64 0, i64 0] 30)).heap.size = w.heap.size + 1 + 1 := by simp
  simp
  generalize ((w.alloc (.cells #[u32 n.1, u32 n.2.1, u64 n.2.2.1, u32 n.2.2.2] 28)).alloc (.cells #[u32 0, u32 0, u64 0, u32 0, u32 0, i64 0, i64 0] 30)) = w1 at *
  have h1 := h.ext hE1
  refine WC_drawL 7 (.F 0 <| .F 1 <| .F 2 <| .F 3 <| .F 4 <| .D 6 <| .L 5 <| .W 6 <| .Z) (fun _ => false) (fun _ => false) (fun _ u W => ∃ b, u = ptr b ∧ W.heap[b]? = some (.cells #[u32 0, i64 0] 80 (0, 0)) ∧ w1.heap.size ≤ b) rfl (by kernel_rfl) (fun _ h => h)
    (fun _ _ _ _ ⟨b, h1, h2, h3⟩ h4 => ⟨b, h1, (agr_ext h4).obj h2, h3⟩) fun W hW => ?_
  have hWE : Ext w1 W := hW ▸ Ext.drew w1
  have h0 := h1.ext hWE
  have hn0 := hn1.ext hWE
  simp [h0.c2, hn0.c0, hn0.c1, hn0.c2, hn0.c3]
  refine RL_float (fun W1 h1 => ?_) ?_
  · simp
    have hs := (hWE.trans (agr_ext h1)).size
    exact ⟨(Ext.refl _).alloc _, by omega⟩
  simp
  refine RL_loose fun W1 hx1 => ?_
  simp [(h0.ext hx1).findW, hx]
  refine KR_same ?_
  simp
  refine RL_wait fun _ W3 hx3 ⟨b, hb, ho4, hlb⟩ => ?_
  subst hb
  have hE3 : Ext w1 W3 := hWE.trans (hx1.trans hx3)
  have z0 : W3.cell? ⟨b, 0, none⟩ = some (u32 0) := by simp [World.cell?, ho4]
  have z1 : W3.cell? ⟨b, 1, none⟩ = some (i64 0) := by simp [World.cell?, ho4]
  have zf : ∀ j, W3.frozen? ⟨b, j, none⟩ = false := fun j => by simp [World.frozen?, ho4]
  simp [z0, z1, zf, cell_setCell]
  have hE4 : Ext w1 ((W3.setCell ⟨b, 0, none⟩ (u32 (quOf x).1)).setCell ⟨b, 1, none⟩ (i64 (quOf x).2)) := (hE3.setCell ⟨b, 0, none⟩ _ hlb).setCell ⟨b, 1, none⟩ _ hlb
  have q0 : ((W3.setCell ⟨b, 0, none⟩ (u32 (quOf x).1)).setCell ⟨b, 1, none⟩ (i64 (quOf x).2)).cell? ⟨b, 0, none⟩ = some (u32 (quOf x).1) := by simp [cell_setCell, z0]
  have q1 : ((W3.setCell ⟨b, 0, none⟩ (u32 (quOf x).1)).setCell ⟨b, 1, none⟩ (i64 (quOf x).2)).cell? ⟨b, 1, none⟩ = some (i64 (quOf x).2) := by simp [cell_setCell, z1]
  generalize ((W3.setCell ⟨b, 0, none⟩ (u32 (quOf x).1)).setCell ⟨b, 1, none⟩ (i64 (quOf x).2)) = w2 at *
  refine WC_drawC 7 (.F 0 <| .F 1 <| .F 2 <| .F 3 <| .F 4 <| .F 6 <| .C 5 <| .Z) (fun _ => false) rfl (by kernel_rfl) fun W hW => ?_
  have hWE2 : Ext w2 W := hW ▸ Ext.drew w2
  have hE5 := hE4.trans hWE2
  have h5 := h1.ext hE5
  have hn5 := hn1.ext hE5
  have hrow5 : WSl W v (qof s (quOf x)) := by have := h5.sl (quOf x); rwa [hrv] at this
  have hlenq : (qof s (quOf x)).length ≤ s.length := List.length_filter_le _ _
  obtain ⟨i, hi⟩ : ∃ i, (qof s (quOf x)).findIdx? (fun y => decide (y.1 = n)) = some i := by
    cases hf : (qof s (quOf x)).findIdx? (fun y => decide (y.1 = n)) with
    | some i => exact ⟨i, rfl⟩
    | none =>
      rw [List.findIdx?_eq_none_iff] at hf
      have := hf x hq0
      simp [hxn] at this
  obtain ⟨hil, hpi, -⟩ := List.findIdx?_eq_some_iff_getElem.1 hi
  have hix : (qof s (quOf x))[i] = x := uniqN h.nd (List.mem_filter.1 (List.getElem_mem hil)).1 hxs (by rw [hxn]; simpa using hpi)
  simp [h5.c1, hWE2.cell_eq q0, hWE2.cell_eq q1, h5.findQ, hrv]
  refine KR_same ?_
  simp
  refine FN.mono (indexF_c hrow5 hn5 (by omega)) ?_
  rintro _ w3 ⟨rfl, hE6⟩
  rw [hi]
  simp
  have hE36 := hE5.trans hE6
  have hE26 := hWE2.trans hE6
  have h6 := h1.ext hE36
  have hrow6 := WSl.row (Sl.ext hrow5 hE6) (List.getElem?_eq_getElem hil)
  rw [hix] at hrow6
  refine WC_drawL 10 (.F 0 <| .F 1 <| .F 2 <| .F 3 <| .F 4 <| .F 6 <| .D 9 <| .L 5 <| .F 7 <| .F 8 <| .W 9 <| .Z) (fun _ => false) (fun _ => false) (fun _ u W => ∃ b, u = ptr b ∧ W.heap[b]? = some (.cells #[u32 0, u32 0, u64 0, u32 0, u32 0, i64 0, i64 0] 30 (0, 0)) ∧ w3.heap.size ≤ b) rfl (by kernel_rfl) (fun _ h => h)
    (fun _ _ _ _ ⟨b, h1, h2, h3⟩ h4 => ⟨b, h1, (agr_ext h4).obj h2, h3⟩) fun W' hW' => ?_
  have hWE3 : Ext w3 W' := hW' ▸ Ext.drew w3
  have h7 := h6.ext hWE3
  simp [h7.c1, hWE3.cell_eq (hE26.cell_eq q0), hWE3.cell_eq (hE26.cell_eq q1)]
  refine RL_float (fun W1 h1 => ?_) ?_
  · simp
    have hs := (hWE3.trans (agr_ext h1)).size
    exact ⟨(Ext.refl _).alloc _, by omega⟩
  simp
  refine RL_loose fun W1 hx1 => ?_
  have h8 := h7.ext hx1
  have r8 := hrow6.ext (hWE3.trans hx1)
  simp [h8.findQ, hrv]
  refine KR_same ?_
  have ix := WSl.index hrow5 i hil W1
  simp [ix, r8.c0, r8.c1, r8.c2, r8.c3, r8.c4, r8.c5, r8.c6]
  refine RL_wait fun _ W4 hx4 ⟨b2, hb2, ho5, hlb2⟩ => ?_
  subst hb2
  have hE7 : Ext w3 W4 := hWE3.trans (hx1.trans hx4)
  have z0 : W4.cell? ⟨b2, 0, none⟩ = some (u32 0) := by simp [World.cell?, ho5]
  have z1 : W4.cell? ⟨b2, 1, none⟩ = some (u32 0) := by simp [World.cell?, ho5]
  have z2 : W4.cell? ⟨b2, 2, none⟩ = some (u64 0) := by simp [World.cell?, ho5]
  have z3 : W4.cell? ⟨b2, 3, none⟩ = some (u32 0) := by simp [World.cell?, ho5]
  have z4 : W4.cell? ⟨b2, 4, none⟩ = some (u32 0) := by simp [World.cell?, ho5]
  have z5 : W4.cell? ⟨b2, 5, none⟩ = some (i64 0) := by simp [World.cell?, ho5]
  have z6 : W4.cell? ⟨b2, 6, none⟩ = some (i64 0) := by simp [World.cell?, ho5]
  have zf : ∀ j, W4.frozen? ⟨b2, j, none⟩ = false := fun j => by simp [World.frozen?, ho5]
  simp [z0, z1, z2, z3, z4, z5, z6, zf, cell_setCell]
  have hE8 : Ext w3 (((((((W4.setCell ⟨b2, 0, none⟩ (u32 x.1.1)).setCell ⟨b2, 1, none⟩ (u32 x.1.2.1)).setCell ⟨b2, 2, none⟩ (u64 x.1.2.2.1)).setCell ⟨b2, 3, none⟩ (u32 x.1.2.2.2)).setCell ⟨b2, 4, none⟩ (u32 x.2.1)).setCell ⟨b2, 5, none⟩ (i64 x.2.2.1)).setCell ⟨b2, 6, none⟩ (i64 x.2.2.2)) := ((((((hE7.setCell ⟨b2, 0, none⟩ _ hlb2).setCell ⟨b2, 1, none⟩ _ hlb2).setCell ⟨b2, 2, none⟩ _ hlb2).setCell ⟨b2, 3, none⟩ _ hlb2).setCell ⟨b2, 4, none⟩ _ hlb2).setCell ⟨b2, 5, none⟩ _ hlb2).setCell ⟨b2, 6, none⟩ _ hlb2
  have hx8 : WtAt (((((((W4.setCell ⟨b2, 0, none⟩ (u32 x.1.1)).setCell ⟨b2, 1, none⟩ (u32 x.1.2.1)).setCell ⟨b2, 2, none⟩ (u64 x.1.2.2.1)).setCell ⟨b2, 3, none⟩ (u32 x.1.2.2.2)).setCell ⟨b2, 4, none⟩ (u32 x.2.1)).setCell ⟨b2, 5, none⟩ (i64 x.2.2.1)).setCell ⟨b2, 6, none⟩ (i64 x.2.2.2)) b2 x := by refine ⟨?_, ?_, ?_, ?_, ?_, ?_, ?_⟩ <;> simp [z0, z1, z2, z3, z4, z5, z6, cell_setCell]
  generalize (((((((W4.setCell ⟨b2, 0, none⟩ (u32 x.1.1)).setCell ⟨b2, 1, none⟩ (u32 x.1.2.1)).setCell ⟨b2, 2, none⟩ (u64 x.1.2.2.1)).setCell ⟨b2, 3, none⟩ (u32 x.1.2.2.2)).setCell ⟨b2, 4, none⟩ (u32 x.2.1)).setCell ⟨b2, 5, none⟩ (i64 x.2.2.1)).setCell ⟨b2, 6, none⟩ (i64 x.2.2.2)) = w4 at *
  have hE9 := hE36.trans hE8
  have h9 := h1.ext hE9
  have q09 := (hE26.trans hE8).cell_eq q0
  have q19 := (hE26.trans hE8).cell_eq q1
  have hs1 := hE1.size
  have Xl : decide (l = slB v) = false := by simpa using fun e : l = slB v => h.lb _ hm e.symm
  have Xb : decide (b = slB v) = false := by simp; omega
  have Xq' : slB v ≠ Rq := (m3 _ hm).1
  have Xw' : slB v ≠ Rw := (m3 _ hm).2
  refine WC_drawC 15 (.F 0 <| .F 1 <| .F 2 <| .F 3 <| .F 4 <| .F 5 <| .F 6 <| .F 7 <| .F 8 <| .F 9 <| .F 11 <| .F 12 <| .F 13 <| .C 10 <| .C 14 <| .Z) (fun k => decide (k = slB v)) rfl (by kernel_rfl) fun W5 hW5 => ?_
  have hWE5 : Ext w4 W5 := hW5 ▸ Ext.drew w4
  have h10 := h9.ext hWE5
  have hw1 : IntKind.i64.wrap ((i : Int) + 1) = (i : Int) + 1 := wrap64 _ (by omega) (by omega)
  simp [h10.c1, hWE5.cell_eq q09, hWE5.cell_eq q19, Xl, Xb, hw1, h10.findQ, hrv]
  refine KR_same ?_
  simp
  have ho10 : WOwn W5 v (qof s (quOf x)) := h10.row _ hm
  refine FN.mono (delete_c ho10 i hil (by omega)) ?_
  rintro _ w5 ⟨v', rfl, ho11, hn11, hb11, hM11⟩
  simp
  refine KR_mk (hM11.agr fun k hk e => by simp at hk; exact hk e) ?_
  have hr' : (qof s (quOf x)).eraseIdx i = qof (mdel s n) (quOf x) := by rw [qof_drop]; exact erase_name (qof_nodup h.nd _) hi
  rw [hr'] at ho11
  have hm11 := h10.mq.mod hM11 Xq'.symm
  obtain ⟨w6, hr12, hm12, hM12, hs12⟩ := hm11.update (P := Try.prog) kQueue tmq (quOf x) (v', qof (mdel s n) (quOf x))
  simp [ewQ] at hr12
  simp [hr12]
  have hM46 : Mod (fun k => k = Rq ∨ k = slB v) w4 w6 := hWE5.mod.trans ((hM11.weaken fun k hk => .inr hk).trans (hM12.weaken fun k hk => .inl hk))
  have hx3s := hE36.size
  have hw1s : w1.heap.size ≤ w3.heap.size := hE36.size
  have nl : ¬ (l = Rq ∨ l = slB v) := fun e => by rcases e with e | e; exact m1 e.symm; exact h.lb _ hm e.symm
  have nw : ¬ (Rw = Rq ∨ Rw = slB v) := fun e => by rcases e with e | e; exact h.rq e; exact Xw' e.symm
  have nb : ∀ k, w.heap.size ≤ k → ¬ (k = Rq ∨ k = slB v) := fun k hk e => by rcases e with e | e <;> omega
  have ho12 : WOwn w6 v' (qof (mdel s n) (quOf x)) := own_keep ho11 fun _ hlt => hM12.blk _ hlt (by rw [hb11]; exact Xq')
  have q06 := hM46.cell q09 (nb _ (by simp only; omega))
  have q16 := hM46.cell q19 (nb _ (by simp only; omega))
  have lk12 := fun W (hW : Ext w6 W) => (hm12.ext hW).lookup (P := Try.prog) kQueue tmq (zSl _) (quOf x) false
  have hgm : ((mget (mset M (quOf x) (v', qof (mdel s n) (quOf x))) (quOf x)).map ewQ).getD (.slice none 0 0) = v' := by rw [kget_mset, if_pos rfl]; rfl
  rw [hgm] at lk12
  have lkd := lk12 w6.drew (Ext.drew _)
  simp at lkd
  have hlen12 := fun ty W => (sl_of_own ho12).isLen (P := Try.prog) (t := 22) (by simp) ty W
  refine WC_drawQ 5 rfl (by kernel_rfl) ?_
  refine with_tail (T := ∀ (σ : Env) (W : World) (M' : MQ), (σ 0 = ptr l ∧ σ 3 = ptr w.heap.size ∧ σ 4 = ptr (w.heap.size + 1) ∧ σ 7 = ptr b2) → (MapAt quV ewQ W Rq M' ∧ (M' = if qof (mdel s n) (quOf x) = [] then mdel M (quOf x) else mset M (quOf x) (v', qof (mdel s n) (quOf x))) ∧ Mod (fun k => k = Rq ∨ k = slB v) w4 W ∧ WOwn W v' (qof (mdel s n) (quOf x))) →
    WC Try.prog 65 none ?cA ?QA σ [] W) (fun tail => ?_) ?_
  rotate_left 2
  · have cl6 := (hM46.cell h9.c1 nl)
    by_cases h0 : qof (mdel s n) (quOf x) = []
    · rw [h0] at hlen12
      simp [cl6, q06, q16, lkd, hlen12]
      refine WC_drawQ 5 rfl (by kernel_rfl) ?_
      obtain ⟨w7, hr13, hm13, hM13, hs13⟩ := (hm12.ext ((Ext.drew w6).trans (Ext.drew _))).delete (P := Try.prog) kQueue tmq (quOf x) 80 0
      rw [mdel_mset] at hm13
      simp [cl6, q06, q16, hr13]
      have hdd := (Ext.drew w6).trans (Ext.drew _)
      refine tail _ _ (mdel M (quOf x)) ?_ ?_
      · simp
      · exact ⟨hm13, by rw [if_pos h0], hM46.trans (hdd.mod.trans (hM13.weaken fun k hk => .inl hk)), own_keep (own_ext ho12 hdd) fun _ hlt => hM13.blk _ hlt (by rw [hb11]; exact Xq')⟩
    · simp [cl6, q06, q16, lkd, hlen12, h0]
      refine tail _ _ _ ?_ ⟨hm12.ext (Ext.drew _), by rw [if_neg h0], hM46.trans (Ext.drew w6).mod, own_ext ho12 (Ext.drew _)⟩
      simp
  · rintro σ W M' ⟨e0, e3, e4, e7⟩ ⟨hmM, hM'e, hMW, hoW⟩
    have nbW : ∀ k, w.heap.size ≤ k → ¬ (k = Rq ∨ k = slB v) := nb
    have hd := Ext.drew W
    have c2W := hd.cell_eq (hMW.cell h9.c2 nl)
    have hnW := ((hn1.ext hE9).mod hMW (nb _ (Nat.le_refl _))).ext hd
    have hxW := (hx8.mod hMW (nb _ (by omega))).ext hd
    have hoW' := hd.obj (hMW.obj (hE9.obj hob) (nb _ (by omega)))
    have hwW := (h9.mw.mod hMW nw).ext hd
    refine WC_drawQ 5 rfl (by kernel_rfl) ?_
    obtain ⟨w8, hr14, hm14, hM14, hs14⟩ := hwW.delete (P := Try.prog) kName tmw n 28 0
    simp [e0, e3, e7, c2W, hnW.c0, hnW.c1, hnW.c2, hnW.c3, hr14]
    have nb8 : ∀ k, w.heap.size ≤ k → ¬ k = Rw := fun k hk e => by omega
    have hx8' := hxW.mod hM14 (nb8 _ (by omega))
    have ho8 := hM14.obj hoW' (nb8 _ (by omega))
    have y0 : ∀ j u, (#[u32 0, u32 0, u64 0, u32 0, u32 0, i64 0, i64 0] : Array Value)[j]? = some u → w8.cell? ⟨w.heap.size + 1, j, none⟩ = some u := fun j u hj => by simpa [World.cell?, ho8] using hj
    have yf : ∀ j, w8.frozen? ⟨w.heap.size + 1, j, none⟩ = false := fun j => by simp [World.frozen?, ho8]
    simp [e4, hx8'.c0, hx8'.c1, hx8'.c2, hx8'.c3, hx8'.c4, hx8'.c5, hx8'.c6, y0 0 _ rfl, y0 1 _ rfl, y0 2 _ rfl, y0 3 _ rfl, y0 4 _ rfl, y0 5 _ rfl, y0 6 _ rfl, yf, cell_setCell]
    have hM18 : Mod (fun k => k = Rq ∨ k = Rw ∨ k = slB v) w w8 := (hE1.trans hE9).mod.trans ((hMW.weaken fun k hk => by rcases hk with hk | hk; exact .inl hk; exact .inr (.inr hk)).trans (hd.mod.trans (hM14.weaken fun k hk => .inr (.inl hk))))
    have hmq8 := (hmM.ext hd).mod hM14 (fun e => h.rq e.symm)
    have ho8' : WOwn w8 v' (qof (mdel s n) (quOf x)) := own_keep (own_ext hoW hd) fun _ hlt => hM14.blk _ hlt (by rw [hb11]; exact Xw')
    obtain ⟨g1, g2, g3⟩ := h.drop hx hg hM'e hmq8 hm14 ho8' hb11 hM18
    have hS : Mod (fun k => k = w.heap.size + 1) w8 (((((((w8.setCell ⟨(w.heap.size + 1), 0, none⟩ (u32 x.1.1)).setCell ⟨(w.heap.size + 1), 1, none⟩ (u32 x.1.2.1)).setCell ⟨(w.heap.size + 1), 2, none⟩ (u64 x.1.2.2.1)).setCell ⟨(w.heap.size + 1), 3, none⟩ (u32 x.1.2.2.2)).setCell ⟨(w.heap.size + 1), 4, none⟩ (u32 x.2.1)).setCell ⟨(w.heap.size + 1), 5, none⟩ (i64 x.2.2.1)).setCell ⟨(w.heap.size + 1), 6, none⟩ (i64 x.2.2.2)) := (((((((Mod.refl _ w8).setC 0 (u32 x.1.1)).setC 1 (u32 x.1.2.1)).setC 2 (u64 x.1.2.2.1)).setC 3 (u32 x.1.2.2.2)).setC 4 (u32 x.2.1)).setC 5 (i64 x.2.2.1)).setC 6 (i64 x.2.2.2)
    refine ⟨M', g1.mod hS fun k hk e => ?_, g2.trans' hS fun k hk => .inr (by omega), g3⟩
    have := hlt k (g3 k hk)
    omega
end Go.Proofs
namespace Go.Proofs
open Pk
set_option maxRecDepth 10000
def badR (x : Wt) : Bool := !decide (0 ≤ x.2.2.1 ∧ x.2.2.1 ≤ 2) || (decide (x.2.2.2 < 1) || decide (65536 < x.2.2.2))
theorem put1_c {w : World} {b : Nat} {x : Wt} (h : WtAt w b x) : FN Try.prog 26 [ptr b] w fun e w' => e = .returned (.bool (badR x)) ∧ Ext w w' := by
  refine FN_enter Try.func26 rfl rfl (by kernel_rfl) ?_
  simp [h.c5]
  have hE := (Ext.refl w).alloc (.cells #[i64 0, i64 1, i64 2] 3)
  have hs : Sl (w.alloc (.cells #[i64 0, i64 1, i64 2] 3)) 1 (.slice (some ⟨w.heap.size, 0, none⟩) 3 3) 3 [i64 0, i64 1, i64 2] := Sl.made w [i64 0, i64 1, i64 2] _ 1 3 rfl
  refine FN.mono (contains_c hs x.2.2.1) ?_
  rintro _ w1 ⟨rfl, hw⟩
  rw [hw]
  have h5 := (h.ext hE).c5
  have h6 := (h.ext hE).c6
  by_cases g1 : 0 ≤ x.2.2.1 ∧ x.2.2.1 ≤ 2
  · simp [g1, h6]
    by_cases g2 : x.2.2.2 < 1
    · simp [g2, badR]
      exact hE
    · simp [g2, h6, badR, g1]
      exact hE
  · simp [g1, badR]
    exact hE
theorem put2_c {w : World} {l Rq Rw b0 b1 : Nat} {M : MQ} {N : MN} {s : List Wt} {most : Int} {x : Wt} (h : LineAt w l Rq Rw M N s most) (v0 : Var w b0 (ptr l)) (hn : WtAt w b1 x) :
    FN Try.prog 28 [ptr b0, ptr b1] w fun e w' => e = .returned (.bool (findN s x.1).isSome) ∧ Ext w w' := by
  refine FN_enter Try.func28 rfl rfl (by kernel_rfl) ?_
  simp
  refine WC_drawL 12 (.F 0 <| .F 1 <| .F 2 <| .F 3 <| .F 4 <| .F 5 <| .D 10 <| .L 6 <| .F 7 <| .F 8 <| .F 9 <| .W 10 <| .S 11 <| .Z) (fun _ => false) (fun _ => false) (fun _ u W => ∃ b, u = ptr b ∧ W.heap[b]? = some (.cells #[u32 0, i64 0] 80 (0, 0)) ∧ w.heap.size ≤ b) rfl (by kernel_rfl) (fun _ h => h)
    (fun _ _ _ _ ⟨b, h1, h2, h3⟩ h4 => ⟨b, h1, (agr_ext h4).obj h2, h3⟩) fun W hW => ?_
  have hWE : Ext w W := hW ▸ Ext.drew w
  have h0 := h.ext hWE
  have hn0 := hn.ext hWE
  simp [(v0.ext hWE).cell, h0.c2, hn0.c0, hn0.c1, hn0.c2, hn0.c3]
  refine RL_float (fun W1 h1 => ?_) ?_
  · simp
    have hs := (hWE.trans (agr_ext h1)).size
    exact ⟨(Ext.refl _).alloc _, by omega⟩
  simp
  refine RL_loose fun W1 h1 => ?_
  simp [(h0.ext h1).findW]
  refine KR_same ?_
  simp
  refine RL_wait fun _ W3 h3 ⟨b, hb, ho4, hlb⟩ => ?_
  subst hb
  have hE3 : Ext w W3 := hWE.trans (h1.trans h3)
  have z0 : W3.cell? ⟨b, 0, none⟩ = some (u32 0) := by simp [World.cell?, ho4]
  have z1 : W3.cell? ⟨b, 1, none⟩ = some (i64 0) := by simp [World.cell?, ho4]
  have zf : ∀ j, W3.frozen? ⟨b, j, none⟩ = false := fun j => by simp [World.frozen?, ho4]
  simp [z0, z1, zf, cell_setCell]
  refine KR_mk (agr_any (((Mod.refl _ _).any _ _).any _ _)) ?_
  have hX := fun (x y : Value) => (hE3.setCell ⟨b, 0, none⟩ x hlb).setCell ⟨b, 1, none⟩ y hlb
  simp
  exact hX _ _
theorem full_c (m n : Int) (w : World) : FN Try.prog 30 [.agg #[i64 m], i64 n] w fun e w' => e = .returned (.bool (decide (m ≤ n))) ∧ Ext w w' := by
  refine FN_enter Try.func30 rfl rfl (by kernel_rfl) ?_
  simp
  exact (Ext.refl w).alloc _
theorem put3_c {w : World} {l Rq Rw b0 : Nat} {M : MQ} {N : MN} {s : List Wt} {most : Int} (h : LineAt w l Rq Rw M N s most) (v0 : Var w b0 (ptr l)) :
    FN Try.prog 29 [ptr b0] w fun e w' => e = .returned (.bool (decide (most ≤ (s.length : Int)))) ∧ Ext w w' := by
  refine FN_enter Try.func29 rfl rfl (by kernel_rfl) ?_
  simp
  refine WC_drawQ 9 rfl (by kernel_rfl) ?_
  have hd := Ext.drew w
  have hl := (h.mw.ext hd).len (P := Try.prog) (T := 68) (by simp)
  rw [h.len] at hl
  simp [(v0.ext hd).cell, (h.ext hd).c0, (h.ext hd).c2, hl]
  refine FN.mono (full_c most s.length w.drew) ?_
  rintro _ w1 ⟨rfl, hE⟩
  simp
  exact hd.trans hE
def putE (s : List Wt) (most : Int) (x : Wt) : Int :=
  if badN x.1 then 2 else if x.2.1 = 0 then 2 else if badR x then 2 else if (findN s x.1).isSome then 150 else if most ≤ (s.length : Int) then 220 else 0
set_option maxHeartbeats 1000000 in
theorem put_c {w : World} {l Rq Rw : Nat} {M : MQ} {N : MN} {s : List Wt} {most : Int} (h : LineAt w l Rq Rw M N s most) (hbd : s.length ≤ 1048575) (x : Wt) :
    FN Try.prog 8 [ptr l, wtV x] w fun e w' => e = .returned (i64 (putE s most x)) ∧ ∃ M' N', LineAt w' l Rq Rw M' N' (if putE s most x = 0 then s ++ [x] else s) most ∧ Mod (Foot l Rq Rw M) w w' ∧ ∀ k, Foot l Rq Rw M' k → Foot l Rq Rw M k ∨ w.heap.size ≤ k := by
  refine FN_enter Try.func8 rfl rfl (by kernel_rfl) ?_
  simp
  have hE1 : Ext w ((w.alloc (.cells #[ptr l] 32)).alloc (.cells #[u32 x.1.1, u32 x.1.2.1, u64 x.1.2.2.1, u32 x.1.2.2.2, u32 x.2.1, i64 x.2.2.1, i64 x.2.2.2] 30)) := ((Ext.refl w).alloc _).alloc _
  have v0 : Var ((w.alloc (.cells #[ptr l] 32)).alloc (.cells #[u32 x.1.1, u32 x.1.2.1, u64 x.1.2.2.1, u32 x.1.2.2.2, u32 x.2.1, i64 x.2.2.1, i64 x.2.2.2] 30)) w.heap.size (ptr l) := (Var.new w _ _).ext ((Ext.refl _).alloc _)
  have hx : WtAt ((w.alloc (.cells #[ptr l] 32)).alloc (.cells #[u32 x.1.1, u32 x.1.2.1, u64 x.1.2.2.1, u32 x.1.2.2.2, u32 x.2.1, i64 x.2.2.1, i64 x.2.2.2] 30)) (w.heap.size + 1) x := by
    have := WtAt.new (w.alloc (.cells #[ptr l] 32)) x 30
    simpa using this
  generalize ((w.alloc (.cells #[ptr l] 32)).alloc (.cells #[u32 x.1.1, u32 x.1.2.1, u64 x.1.2.2.1, u32 x.1.2.2.2, u32 x.2.1, i64 x.2.2.1, i64 x.2.2.2] 30)) = w1 at *
  refine WC_drawC 14 (.F 0 <| .F 2 <| .F 3 <| .F 5 <| .F 6 <| .F 8 <| .F 9 <| .F 10 <| .F 11 <| .F 12 <| .F 13 <| .C 1 <| .C 4 <| .C 7 <| .Z) (fun _ => false) rfl (by kernel_rfl) fun W hW => ?_
  have hWE : Ext w1 W := hW ▸ Ext.drew _
  have hx2 := hx.ext hWE
  simp [(v0.ext hWE).cell, hx2.c0, hx2.c1, hx2.c2, hx2.c3, hx2.c4]
  refine FN.mono (is_c l W) ?_
  rintro _ W1 ⟨rfl, hE2⟩
  simp
  refine KR_ext hE2 ?_
  simp
  refine FN.mono (right_c x.1 W1) ?_
  rintro _ W2 ⟨rb, rfl, hr, hE3⟩
  simp
  refine KR_ext hE3 ?_
  simp
  refine FN.mono (node_c x.2.1 W2) ?_
  rintro _ W3 ⟨nb, rfl, hnv, hE4⟩
  simp
  refine KR_ext hE4 ?_
  simp
  have hE41 := ((hWE.trans hE2).trans hE3).trans hE4
  let qs : List Qn := [⟨.func (.func 32) #[ptr l] #[], 1, false⟩, ⟨.func (.func 55) #[] #[ptr rb], 2, badN x.1⟩, ⟨.func (.func 57) #[] #[ptr nb], 2, decide (x.2.1 = 0)⟩, ⟨.func (.func 26) #[] #[ptr (w.heap.size + 1)], 2, badR x⟩,
    ⟨.func (.func 28) #[] #[ptr w.heap.size, ptr (w.heap.size + 1)], 150, (findN s x.1).isSome⟩, ⟨.func (.func 29) #[] #[ptr w.heap.size], 220, decide (most ≤ (s.length : Int))⟩]
  have hsl := Sl.made W3 (askCells qs) 73 2 6 rfl
  have hE5 := (Ext.refl W3).alloc (.cells (askCells qs).toArray 73)
  refine asked_go (w0 := W3) qs hsl (by simp [qs]) ?_ hE5 ?_ ?_
  · intro q hq
    simp [qs] at hq
    rcases hq with rfl | rfl | rfl | rfl | rfl | rfl <;> exact ⟨_, _, _, rfl⟩
  · intro i q hq hno w' hw'
    have hx := hE41.trans hw'
    match i, hq with
    | 0, hq =>
      simp [qs] at hq; subst hq
      exact FN.mono (none_c (h.ext (hE1.trans hx))) fun _ _ h => ⟨h.1, h.2 ▸ Ext.refl _⟩
    | 1, hq =>
      simp [qs] at hq; subst hq
      exact rightF_c (hr.ext (hE4.trans hw'))
    | 2, hq =>
      simp [qs] at hq; subst hq
      exact FN.mono (nodeF_c (hnv.ext hw')) fun _ _ h => ⟨by rw [h.1, beq_dec], h.2 ▸ Ext.refl _⟩
    | 3, hq =>
      simp [qs] at hq; subst hq
      exact put1_c (WtAt.ext ‹WtAt w1 _ x› hx)
    | 4, hq =>
      simp [qs] at hq; subst hq
      exact put2_c (h.ext (hE1.trans hx)) (v0.ext hx) (WtAt.ext ‹WtAt w1 _ x› hx)
    | 5, hq =>
      simp [qs] at hq; subst hq
      exact put3_c (h.ext (hE1.trans hx)) (v0.ext hx)
    | i + 6, hq => simp [qs] at hq
  · intro w4 hw4
    have hX := hE41.trans hw4
    have hE : askE qs = putE s most x := by
      simp [qs, askE, putE]
    rw [hE]
    have h4 := h.ext (hE1.trans hX)
    have v04 := v0.ext hX
    have hx4 := hx.ext hX
    by_cases h0 : putE s most x = 0
    · simp [h0, v04.cell, hx4.c0, hx4.c1, hx4.c2, hx4.c3, hx4.c4, hx4.c5, hx4.c6]
      have hno : findN s x.1 = none := by
        cases hf : findN s x.1 with
        | none => rfl
        | some y =>
          exfalso
          unfold putE at h0
          rw [hf] at h0
          simp only [Option.isSome_some, if_true] at h0
          split at h0
          · omega
          · split at h0
            · omega
            · split at h0 <;> omega
      refine FN.mono (push_c h4 x hno hbd) ?_
      rintro _ w5 ⟨⟨u, rfl⟩, M', N', g1, g2, g3⟩
      simp
      exact ⟨M', ⟨N', g1⟩, (hE1.trans hX).mod.trans g2, fun k hk => by
        rcases g3 k hk with h | h
        · exact .inl h
        · have := (hE1.trans hX).size; exact .inr (by omega)⟩
    · simp [h0]
      exact ⟨M, ⟨N, h4⟩, (hE1.trans hX).mod, fun k hk => .inl hk⟩
end Go.Proofs
