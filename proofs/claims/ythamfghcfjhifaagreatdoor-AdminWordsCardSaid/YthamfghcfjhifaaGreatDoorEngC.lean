/-
  The engine, part C: how the operations run, as rules of simp; worlds.
-/
import Derived.Test.YthamfghcfjhifaaGreatDoorEngB
import Derived.WalkSpells
namespace Pk
open Go

@[simp] theorem add_mk (b o n : Nat) : Addr.add ⟨b, o, none⟩ n = ⟨b, o + n, none⟩ := by
  unfold Addr.add; split <;> simp_all
attribute [simp] Instr.loadAt Instr.sureAddr loadVar loadCells loadCellsFrom Instr.storeAt storeVar storeCells Instr.fieldAt fieldPlace Instr.extract Instr.makeFunc asBool asInt asIntOf asAgg asAddr resE packE Instr.makeInterface Op.intArith Op.intCmp Op.intDiv Op.unary eqGuard goInt BV Value.cells stuck

section
variable (P : Program) (w : World)
@[simp] theorem run_box (t : TypeId) (v : Value) : (Instr.box t v).run P w = .ok (.pointer (some ⟨w.heap.size, 0, none⟩)) (w.alloc (.cells v.cells t)) := by
  simp [Instr.box, newVar, newRow, newObj, Sem.run]
@[simp] theorem run_alloc (t : TypeId) : (Instr.alloc t true (.tuple #[])).run P w = ((zeroValue t).run P w).andThen fun z w' => .ok (.pointer (some ⟨w'.heap.size, 0, none⟩)) (w'.alloc (.cells z.cells t)) := by
  simp [Instr.alloc, newVar, newRow, newObj, Sem.run]
@[simp] theorem run_makeMap0 (t : TypeId) : (Instr.makeMap t none).run P w = .ok (.map (some w.heap.size)) (w.alloc (.map #[] 0)) := by
  simp [Instr.makeMap, newObj, Sem.run]
def oneV : Value → Bool
  | .agg _ => false
  | .tuple _ => false
  | _ => true
def sto (P : Program) (w : World) (a : Addr) (v : Value) : Option Value → Bool → Result Unit
  | some _, false => .ok () (w.setCell a v)
  | _, _ => (store a v).run P w
@[simp] theorem sto_some (a : Addr) (v x : Value) : sto P w a v (some x) false = .ok () (w.setCell a v) := _root_.id rfl
theorem run_store_sto (a : Addr) (v : Value) (h : oneV v = true) : (store a v).run P w = sto P w a v (w.cell? a) (w.frozen? a) := by
  unfold sto
  split
  · rename_i h1 h2
    cases v <;> simp [oneV] at h <;> simp [store, Sem.run, h1, h2]
  · rfl
@[simp] theorem st_int (a : Addr) (k : IntKind) (n : Int) : (store a (.int k n)).run P w = sto P w a (.int k n) (w.cell? a) (w.frozen? a) := run_store_sto P w a _ rfl
@[simp] theorem st_bool (a : Addr) (b : Bool) : (store a (.bool b)).run P w = sto P w a (.bool b) (w.cell? a) (w.frozen? a) := run_store_sto P w a _ rfl
@[simp] theorem st_string (a : Addr) (b : ByteArray) : (store a (.string b)).run P w = sto P w a (.string b) (w.cell? a) (w.frozen? a) := run_store_sto P w a _ rfl
@[simp] theorem st_pointer (a : Addr) (b : Option Addr) : (store a (.pointer b)).run P w = sto P w a (.pointer b) (w.cell? a) (w.frozen? a) := run_store_sto P w a _ rfl
@[simp] theorem st_slice (a : Addr) (b : Option Addr) (l c : Nat) : (store a (.slice b l c)).run P w = sto P w a (.slice b l c) (w.cell? a) (w.frozen? a) := run_store_sto P w a _ rfl
@[simp] theorem st_map (a : Addr) (b : Option Nat) : (store a (.map b)).run P w = sto P w a (.map b) (w.cell? a) (w.frozen? a) := run_store_sto P w a _ rfl
@[simp] theorem st_func (a : Addr) (f : Fn) (x y : Array Value) : (store a (.func f x y)).run P w = sto P w a (.func f x y) (w.cell? a) (w.frozen? a) := run_store_sto P w a _ rfl
@[simp] theorem st_nilFunc (a : Addr) : (store a .nilFunc).run P w = sto P w a .nilFunc (w.cell? a) (w.frozen? a) := run_store_sto P w a _ rfl
@[simp] theorem st_iface (a : Addr) (t : TypeId) (v : Value) : (store a (.iface t v)).run P w = sto P w a (.iface t v) (w.cell? a) (w.frozen? a) := run_store_sto P w a _ rfl
@[simp] theorem st_nilIface (a : Addr) : (store a .nilIface).run P w = sto P w a .nilIface (w.cell? a) (w.frozen? a) := run_store_sto P w a _ rfl
end

/-! ### Worlds -/
section
variable (w : World)
/-- What a new object has at a cell. -/
def ocell (o : Obj) (i : Nat) : Option Value := match o with | .cells c _ _ => c[i]? | _ => none
@[simp] theorem ocell_cells (c : Array Value) (t : TypeId) (fr : Nat × Nat) (i : Nat) : ocell (.cells c t fr) i = c[i]? := _root_.id rfl
@[simp] theorem ocell_map (es : Array MapEntry) (k : Nat) (i : Nat) : ocell (.map es k) i = none := _root_.id rfl
@[simp] theorem cell_alloc (o : Obj) (b i : Nat) : (w.alloc o).cell? ⟨b, i, none⟩ = (w.cell? ⟨b, i, none⟩).or (if b = w.heap.size then ocell o i else none) := by
  unfold World.cell? World.alloc
  simp only [Array.getElem?_push]
  by_cases h : b = w.heap.size
  · subst h
    simp [ocell]
    cases o <;> rfl
  · simp [h]
@[simp] theorem cell_fresh (i : Nat) : w.cell? ⟨w.heap.size, i, none⟩ = none := by simp [World.cell?]
@[simp] theorem cell_fresh_add (k i : Nat) : w.cell? ⟨w.heap.size + k, i, none⟩ = none := by simp [World.cell?]
@[simp] theorem blk_alloc (o : Obj) (b : Nat) : (w.alloc o).heap[b]? = (w.heap[b]?).or (if b = w.heap.size then some o else none) := by
  unfold World.alloc
  simp only [Array.getElem?_push]
  by_cases h : b = w.heap.size
  · subst h; simp
  · simp [h]
@[simp] theorem blk_fresh : w.heap[w.heap.size]? = none := by simp
@[simp] theorem blk_fresh_add (k : Nat) : w.heap[w.heap.size + k]? = none := by simp
@[simp] theorem frozen_alloc (c : Array Value) (t : TypeId) (a : Addr) : (w.alloc (.cells c t (0, 0))).frozen? a = w.frozen? a := by
  unfold World.frozen? World.alloc
  simp only [Array.getElem?_push]
  by_cases h : a.block = w.heap.size
  · simp [h]
  · simp [h]
@[simp] theorem frozen_alloc_map (es : Array MapEntry) (k : Nat) (a : Addr) : (w.alloc (.map es k)).frozen? a = w.frozen? a := by
  unfold World.frozen? World.alloc
  simp only [Array.getElem?_push]
  by_cases h : a.block = w.heap.size
  · simp [h]
  · simp [h]
@[simp] theorem frozen_fresh (i : Nat) : w.frozen? ⟨w.heap.size, i, none⟩ = false := by simp [World.frozen?]
@[simp] theorem frozen_fresh_add (k i : Nat) : w.frozen? ⟨w.heap.size + k, i, none⟩ = false := by simp [World.frozen?]
@[simp] theorem setCell_alloc (c : Array Value) (t : TypeId) (fr : Nat × Nat) (b i : Nat) (v : Value) (h : b = w.heap.size) :
    (w.alloc (.cells c t fr)).setCell ⟨b, i, none⟩ v = w.alloc (.cells (c.setIfInBounds i v) t fr) := by
  subst h
  unfold World.setCell World.alloc
  simp only [World.mk.injEq, and_true]
  apply Array.ext_getElem?
  intro k
  simp only [Array.getElem?_modify, Array.getElem?_push]
  by_cases h : k = w.heap.size
  · simp [h]
  · simp [h, Ne.symm h]
@[simp] theorem setCell_alloc_old (o : Obj) (b i : Nat) (v : Value) (h : b < w.heap.size) :
    (w.alloc o).setCell ⟨b, i, none⟩ v = (w.setCell ⟨b, i, none⟩ v).alloc o := by
  unfold World.setCell World.alloc
  simp only [World.mk.injEq, and_true]
  apply Array.ext_getElem?
  intro k
  simp only [Array.getElem?_modify, Array.getElem?_push, Array.size_modify]
  by_cases h1 : b = k
  · subst h1
    have : b ≠ w.heap.size := by omega
    simp [this]
  · simp [h1]
end

/-- Below the heap's size all is as it was; new blocks may have come. -/
structure Ext (w w' : World) : Prop where
  os : w'.os = w.os
  tape : w'.tape = w.tape
  out : w'.output = w.output
  size : w.heap.size ≤ w'.heap.size
  blk : ∀ b, b < w.heap.size → w'.heap[b]? = w.heap[b]?
theorem Ext.refl (w : World) : Ext w w := ⟨rfl, rfl, rfl, Nat.le_refl _, fun _ _ => rfl⟩
theorem Ext.trans {a b c : World} (h : Ext a b) (k : Ext b c) : Ext a c :=
  ⟨k.os.trans h.os, k.tape.trans h.tape, k.out.trans h.out, Nat.le_trans h.size k.size, fun i hi => (k.blk i (Nat.lt_of_lt_of_le hi h.size)).trans (h.blk i hi)⟩
theorem Ext.alloc {a w : World} (h : Ext a w) (o : Obj) : Ext a (w.alloc o) :=
  h.trans ⟨rfl, rfl, rfl, by simp, fun b hb => Go.RowKit.Below.heap_alloc w o b hb⟩
theorem Ext.cell {w w' : World} (h : Ext w w') (a : Addr) (ha : (w.cell? a).isSome = true) : w'.cell? a = w.cell? a := by
  have hb : a.block < w.heap.size := by
    cases hc : w.cell? a with
    | none => simp [hc] at ha
    | some v => exact World.block_lt_of_cell? _ _ hc
  unfold World.cell?
  rw [h.blk _ hb]
theorem Ext.cell_eq {w w' : World} (h : Ext w w') {a : Addr} {v : Value} (ha : w.cell? a = some v) : w'.cell? a = some v := by
  rw [h.cell a (by simp [ha]), ha]
theorem Ext.obj {w w' : World} (h : Ext w w') {b : Nat} {o : Obj} (hb : w.heap[b]? = some o) : w'.heap[b]? = some o := by
  rw [h.blk b (Array.getElem?_eq_some_iff.1 hb).1, hb]
end Pk
