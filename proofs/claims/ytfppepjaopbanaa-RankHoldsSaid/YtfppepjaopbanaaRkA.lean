/-
  Contracts of the functions that the law reaches, step by step.
-/
import Derived.Test.YtfppepjaopbanaaRkO
namespace Go.Proofs
open Pk
set_option maxRecDepth 10000
attribute [simp] beq_dec bne_dec prod_eta
/-! ### Names, things that wait, queues -/
abbrev Nm := Int × Int × Int × Int
abbrev Wt := Nm × Int × Int × Int
abbrev Qu := Int × Int
abbrev nmC (n : Nm) : List Value := [u32 n.1, u32 n.2.1, u64 n.2.2.1, u32 n.2.2.2]
abbrev wtC (x : Wt) : List Value := [u32 x.1.1, u32 x.1.2.1, u64 x.1.2.2.1, u32 x.1.2.2.2, u32 x.2.1, i64 x.2.2.1, i64 x.2.2.2]
abbrev quC (q : Qu) : List Value := [u32 q.1, i64 q.2]
abbrev nmV (n : Nm) : Value := .agg #[u32 n.1, u32 n.2.1, u64 n.2.2.1, u32 n.2.2.2]
abbrev wtV (x : Wt) : Value := .agg #[u32 x.1.1, u32 x.1.2.1, u64 x.1.2.2.1, u32 x.1.2.2.2, u32 x.2.1, i64 x.2.2.1, i64 x.2.2.2]
abbrev quV (q : Qu) : Value := .agg #[u32 q.1, i64 q.2]
theorem fName : flatA Try.prog 28 = some [.int .u32, .int .u32, .int .u64, .int .u32] := by kernel_rfl
theorem fWait : flatA Try.prog 30 = some [.int .u32, .int .u32, .int .u64, .int .u32, .int .u32, .int .i64, .int .i64] := by kernel_rfl
theorem fQueue : flatA Try.prog 80 = some [.int .u32, .int .i64] := by kernel_rfl
theorem eqInt (k : IntKind) (a b : Int) : eqc (.int k a) (.int k b) = decide (a = b) := by
  by_cases h : a = b <;> simp [eqc, h]
theorem nm_eq (a b : Nm) : eqcs (nmC a) (nmC b) = decide (a = b) := by
  obtain ⟨a1, a2, a3, a4⟩ := a
  obtain ⟨b1, b2, b3, b4⟩ := b
  by_cases h1 : a1 = b1 <;> by_cases h2 : a2 = b2 <;> by_cases h3 : a3 = b3 <;> by_cases h4 : a4 = b4 <;> simp [eqcs, eqInt, h1, h2, h3, h4]
theorem wt_eq (a b : Wt) : eqcs (wtC a) (wtC b) = decide (a = b) := by
  obtain ⟨⟨a1, a2, a3, a4⟩, a5, a6, a7⟩ := a
  obtain ⟨⟨b1, b2, b3, b4⟩, b5, b6, b7⟩ := b
  rw [Bool.eq_iff_iff]
  simp [eqcs, eqInt, and_assoc]
theorem qu_eq (a b : Qu) : eqcs (quC a) (quC b) = decide (a = b) := by
  obtain ⟨a1, a2⟩ := a
  obtain ⟨b1, b2⟩ := b
  by_cases h1 : a1 = b1 <;> by_cases h2 : a2 = b2 <;> simp [eqcs, eqInt, h1, h2]
theorem kName : KeyEq Try.prog 28 nmV := keyEq_flat (g := nmC) fName (fun _ => rfl) nm_eq
theorem kQueue : KeyEq Try.prog 80 quV := keyEq_flat (g := quC) fQueue (fun _ => rfl) qu_eq
theorem tmq : Try.prog.underlying 67 = some (.map 80 22) := by simp
theorem tmw : Try.prog.underlying 68 = some (.map 28 80) := by simp
theorem zSl (w : World) : (zeroValue 22).run Try.prog w = .ok (.slice none 0 0) w := by simp
theorem zQu (w : World) : (zeroValue 80).run Try.prog w = .ok (quV (0, 0)) w := by simp
def nmB (a b : Nm) : Bool := decide (a = b)
def wtB (a b : Wt) : Bool := decide (a = b)
theorem nmB_t {a b : Nm} (h : a = b) : nmB a b = true := by simp [nmB, h]
theorem nmB_f {a b : Nm} (h : a ≠ b) : nmB a b = false := by simp [nmB, h]
theorem wtB_t {a b : Wt} (h : a = b) : wtB a b = true := by simp [wtB, h]
theorem wtB_f {a b : Wt} (h : a ≠ b) : wtB a b = false := by simp [wtB, h]
section
variable (w : World) (a1 a2 a3 a4 a5 a6 a7 b1 b2 b3 b4 b5 b6 b7 : Int)
@[simp] theorem eqN : (binOp .eql 28 (.agg #[.int .u32 a1, .int .u32 a2, .int .u64 a3, .int .u32 a4]) (.agg #[.int .u32 b1, .int .u32 b2, .int .u64 b3, .int .u32 b4])).run Try.prog w = .ok (.bool (nmB (a1, a2, a3, a4) (b1, b2, b3, b4))) w := by
  unfold nmB
  rw [← nm_eq (a1, a2, a3, a4) (b1, b2, b3, b4)]
  exact run_eql_flat w fName _ _ rfl rfl
@[simp] theorem neN : (binOp .neq 28 (.agg #[.int .u32 a1, .int .u32 a2, .int .u64 a3, .int .u32 a4]) (.agg #[.int .u32 b1, .int .u32 b2, .int .u64 b3, .int .u32 b4])).run Try.prog w = .ok (.bool (!nmB (a1, a2, a3, a4) (b1, b2, b3, b4))) w := by
  unfold nmB
  rw [← nm_eq (a1, a2, a3, a4) (b1, b2, b3, b4)]
  exact run_neq_flat w fName _ _ rfl rfl
@[simp] theorem eqW : (binOp .eql 30 (.agg #[.int .u32 a1, .int .u32 a2, .int .u64 a3, .int .u32 a4, .int .u32 a5, .int .i64 a6, .int .i64 a7]) (.agg #[.int .u32 b1, .int .u32 b2, .int .u64 b3, .int .u32 b4, .int .u32 b5, .int .i64 b6, .int .i64 b7])).run Try.prog w = .ok (.bool (wtB ((a1, a2, a3, a4), a5, a6, a7) ((b1, b2, b3, b4), b5, b6, b7))) w := by
  unfold wtB
  rw [← wt_eq ((a1, a2, a3, a4), a5, a6, a7) ((b1, b2, b3, b4), b5, b6, b7)]
  exact run_eql_flat w fWait _ _ rfl rfl
@[simp] theorem neW : (binOp .neq 30 (.agg #[.int .u32 a1, .int .u32 a2, .int .u64 a3, .int .u32 a4, .int .u32 a5, .int .i64 a6, .int .i64 a7]) (.agg #[.int .u32 b1, .int .u32 b2, .int .u64 b3, .int .u32 b4, .int .u32 b5, .int .i64 b6, .int .i64 b7])).run Try.prog w = .ok (.bool (!wtB ((a1, a2, a3, a4), a5, a6, a7) ((b1, b2, b3, b4), b5, b6, b7))) w := by
  unfold wtB
  rw [← wt_eq ((a1, a2, a3, a4), a5, a6, a7) ((b1, b2, b3, b4), b5, b6, b7)]
  exact run_neq_flat w fWait _ _ rfl rfl
end
theorem nm_inj : ∀ a b : Nm, nmV a = nmV b → a = b := by
  rintro ⟨a1, a2, a3, a4⟩ ⟨b1, b2, b3, b4⟩ h
  simpa using h
theorem qu_inj : ∀ a b : Qu, quV a = quV b → a = b := by
  rintro ⟨a1, a2⟩ ⟨b1, b2⟩ h
  simpa using h
/-- A thing's cells, in a block. -/
structure WtAt (w : World) (b : Nat) (x : Wt) : Prop where
  c0 : w.cell? ⟨b, 0, none⟩ = some (u32 x.1.1)
  c1 : w.cell? ⟨b, 1, none⟩ = some (u32 x.1.2.1)
  c2 : w.cell? ⟨b, 2, none⟩ = some (u64 x.1.2.2.1)
  c3 : w.cell? ⟨b, 3, none⟩ = some (u32 x.1.2.2.2)
  c4 : w.cell? ⟨b, 4, none⟩ = some (u32 x.2.1)
  c5 : w.cell? ⟨b, 5, none⟩ = some (i64 x.2.2.1)
  c6 : w.cell? ⟨b, 6, none⟩ = some (i64 x.2.2.2)
structure NmAt (w : World) (b : Nat) (x : Nm) : Prop where
  c0 : w.cell? ⟨b, 0, none⟩ = some (u32 x.1)
  c1 : w.cell? ⟨b, 1, none⟩ = some (u32 x.2.1)
  c2 : w.cell? ⟨b, 2, none⟩ = some (u64 x.2.2.1)
  c3 : w.cell? ⟨b, 3, none⟩ = some (u32 x.2.2.2)
theorem WtAt.ext {w w' : World} {b : Nat} {x : Wt} (h : WtAt w b x) (hE : Ext w w') : WtAt w' b x := ⟨hE.cell_eq h.c0, hE.cell_eq h.c1, hE.cell_eq h.c2, hE.cell_eq h.c3, hE.cell_eq h.c4, hE.cell_eq h.c5, hE.cell_eq h.c6⟩
theorem NmAt.ext {w w' : World} {b : Nat} {x : Nm} (h : NmAt w b x) (hE : Ext w w') : NmAt w' b x := ⟨hE.cell_eq h.c0, hE.cell_eq h.c1, hE.cell_eq h.c2, hE.cell_eq h.c3⟩
theorem WtAt.mod {w w' : World} {b : Nat} {x : Wt} {S : Nat → Prop} (h : WtAt w b x) (hE : Mod S w w') (hs : ¬ S b) : WtAt w' b x := ⟨hE.cell h.c0 hs, hE.cell h.c1 hs, hE.cell h.c2 hs, hE.cell h.c3 hs, hE.cell h.c4 hs, hE.cell h.c5 hs, hE.cell h.c6 hs⟩
theorem NmAt.mod {w w' : World} {b : Nat} {x : Nm} {S : Nat → Prop} (h : NmAt w b x) (hE : Mod S w w') (hs : ¬ S b) : NmAt w' b x := ⟨hE.cell h.c0 hs, hE.cell h.c1 hs, hE.cell h.c2 hs, hE.cell h.c3 hs⟩
theorem WtAt.new (w : World) (x : Wt) (t : TypeId) : WtAt (w.alloc (.cells (wtC x).toArray t)) w.heap.size x := ⟨cells_new w _ t 0, cells_new w _ t 1, cells_new w _ t 2, cells_new w _ t 3, cells_new w _ t 4, cells_new w _ t 5, cells_new w _ t 6⟩
theorem NmAt.new (w : World) (x : Nm) (t : TypeId) : NmAt (w.alloc (.cells (nmC x).toArray t)) w.heap.size x := ⟨cells_new w _ t 0, cells_new w _ t 1, cells_new w _ t 2, cells_new w _ t 3⟩
theorem WtAt.nm {w : World} {b : Nat} {x : Wt} (h : WtAt w b x) : NmAt w b x.1 := ⟨h.c0, h.c1, h.c2, h.c3⟩
theorem WtAt.lt {w : World} {b : Nat} {x : Wt} (h : WtAt w b x) : b < w.heap.size := World.block_lt_of_cell? _ _ h.c0
theorem NmAt.lt {w : World} {b : Nat} {x : Nm} (h : NmAt w b x) : b < w.heap.size := World.block_lt_of_cell? _ _ h.c0
theorem flat_at {α : Type} {s : Nat} (g : α → List Value) (hg : ∀ x, (g x).length = s) : ∀ (l : List α) (i j : Nat) (x : α), l[i]? = some x → j < s → (l.flatMap g)[i * s + j]? = (g x)[j]?
  | [], i, j, x, h, _ => by simp at h
  | a :: l, 0, j, x, h, hj => by
    simp at h; subst h
    rw [List.flatMap_cons, Nat.zero_mul, Nat.zero_add, List.getElem?_append_left (by rw [hg]; exact hj)]
  | a :: l, i + 1, j, x, h, hj => by
    have := flat_at g hg l i j x (by simpa using h) hj
    rw [List.flatMap_cons, Nat.add_mul, Nat.one_mul, List.getElem?_append_right (by rw [hg]; omega), hg]
    rw [show i * s + s + j - s = i * s + j from by omega]
    exact this
theorem flat_len {α : Type} {s : Nat} (g : α → List Value) (hg : ∀ x, (g x).length = s) : ∀ l : List α, (l.flatMap g).length = l.length * s
  | [] => by simp
  | a :: l => by
    rw [List.flatMap_cons, List.length_append, hg, flat_len g hg l, List.length_cons, Nat.add_mul, Nat.one_mul]; omega
/-- The cells of a row's i-th thing. -/
structure RowAt (w : World) (v : Value) (i : Nat) (x : Wt) : Prop where
  c0 : w.cell? ⟨slB v, slO v + i * 7, none⟩ = some (u32 x.1.1)
  c1 : w.cell? ⟨slB v, slO v + i * 7 + 1, none⟩ = some (u32 x.1.2.1)
  c2 : w.cell? ⟨slB v, slO v + i * 7 + 2, none⟩ = some (u64 x.1.2.2.1)
  c3 : w.cell? ⟨slB v, slO v + i * 7 + 3, none⟩ = some (u32 x.1.2.2.2)
  c4 : w.cell? ⟨slB v, slO v + i * 7 + 4, none⟩ = some (u32 x.2.1)
  c5 : w.cell? ⟨slB v, slO v + i * 7 + 5, none⟩ = some (i64 x.2.2.1)
  c6 : w.cell? ⟨slB v, slO v + i * 7 + 6, none⟩ = some (i64 x.2.2.2)
/-- A row of things that wait. -/
abbrev WSl (w : World) (v : Value) (l : List Wt) := Sl w 7 v l.length (l.flatMap wtC)
abbrev WSlA (w : World) (v : Value) (l : List Wt) := SlA w 7 v l.length (l.flatMap wtC)
theorem WSlA.row {w : World} {v : Value} {l : List Wt} (h : WSlA w v l) {i : Nat} {x : Wt} (hi : l[i]? = some x) : RowAt w v i x := by
  have d := fun (j : Nat) (u : Value) (hj : j < 7) (e : (wtC x)[j]? = some u) => h.at_ (i * 7 + j) u ((flat_at wtC (fun _ => rfl) l i j x hi hj).trans e)
  simp only [← Nat.add_assoc] at d
  exact ⟨d 0 _ (by omega) rfl, d 1 _ (by omega) rfl, d 2 _ (by omega) rfl, d 3 _ (by omega) rfl, d 4 _ (by omega) rfl, d 5 _ (by omega) rfl, d 6 _ (by omega) rfl⟩
theorem Sl.toA {w : World} {s : Nat} {v : Value} {n : Nat} {cs : List Value} (h : Sl w s v n cs) : SlA w s v n cs := by
  refine ⟨h.len, ?_, h.at_⟩
  rcases h.val with ⟨c, rfl, rfl⟩ | ⟨b, o, c, rfl, _⟩
  · exact ⟨none, c, rfl, fun h => by omega⟩
  · exact ⟨_, c, rfl, fun _ => ⟨b, o, rfl⟩⟩
theorem WSl.row {w : World} {v : Value} {l : List Wt} (h : WSl w v l) {i : Nat} {x : Wt} (hi : l[i]? = some x) : RowAt w v i x := WSlA.row (Sl.toA h) hi
theorem RowAt.ext {w w' : World} {v : Value} {i : Nat} {x : Wt} (h : RowAt w v i x) (hE : Ext w w') : RowAt w' v i x := ⟨hE.cell_eq h.c0, hE.cell_eq h.c1, hE.cell_eq h.c2, hE.cell_eq h.c3, hE.cell_eq h.c4, hE.cell_eq h.c5, hE.cell_eq h.c6⟩
theorem WSlA.index {w : World} {v : Value} {l : List Wt} (h : WSlA w v l) (i : Nat) (hi : i < l.length) (W : World) : (Instr.indexAt 22 v (.int .i64 (i : Int))).run Try.prog W = .ok (.pointer (some ⟨slB v, slO v + i * 7, none⟩)) W := by
  have := SlA.index (P := Try.prog) (t := 22) h (by simp) .i64 i (by omega) (by omega) W
  simpa using this
theorem WSl.index {w : World} {v : Value} {l : List Wt} (h : WSl w v l) (i : Nat) (hi : i < l.length) (W : World) : (Instr.indexAt 22 v (.int .i64 (i : Int))).run Try.prog W = .ok (.pointer (some ⟨slB v, slO v + i * 7, none⟩)) W := WSlA.index (Sl.toA h) i hi W
end Go.Proofs
