/-
  The engine, part W: maps that may be nil.
-/
import Derived.Test.YthamfghcfjhifaaGreatDoorEngV
import Derived.Test.YthamfghcfjhifaaGreatDoorEngJ
namespace Pk
open Go
section
variable {κ ν : Type} {ek : κ → Value} {ew : ν → Value} {P : Program} {w : World} {v : Value} {m : List (κ × ν)}
def MapV (ek : κ → Value) (ew : ν → Value) (w : World) (v : Value) (m : List (κ × ν)) : Prop :=
  (∃ r, v = .map (some r) ∧ MapAt ek ew w r m) ∨ (v = .map none ∧ m = [])
theorem MapAt.val {r : Nat} (h : MapAt ek ew w r m) : MapV ek ew w (.map (some r)) m := .inl ⟨r, rfl, h⟩
theorem MapV.nil : MapV ek ew w (.map none) ([] : List (κ × ν)) := .inr ⟨rfl, rfl⟩
theorem MapV.keep {w' : World} (h : MapV ek ew w v m) (hb : ∀ r, v = .map (some r) → r < w.heap.size → w'.heap[r]? = w.heap[r]?) : MapV ek ew w' v m := by
  rcases h with ⟨r, rfl, h⟩ | h
  · exact .inl ⟨r, rfl, h.keep (hb r rfl h.lt)⟩
  · exact .inr h
theorem MapV.ext {w' : World} (h : MapV ek ew w v m) (he : Ext w w') : MapV ek ew w' v m := h.keep fun r _ hr => he.blk r hr
theorem MapV.mod {w' : World} {S : Nat → Prop} (h : MapV ek ew w v m) (he : Mod S w w') (hs : ∀ r, v = .map (some r) → ¬ S r) : MapV ek ew w' v m := h.keep fun r e hr => he.blk r hr (hs r e)
theorem MapV.agr {w' : World} {S : Nat → Prop} (h : MapV ek ew w v m) (he : Agr S w w') (hs : ∀ r, v = .map (some r) → S r) : MapV ek ew w' v m := h.keep fun r e hr => he.blk r hr (hs r e)
theorem MapV.lt (h : MapV ek ew w v m) {r : Nat} (e : v = .map (some r)) : r < w.heap.size := by
  rcases h with ⟨r', rfl, h⟩ | ⟨rfl, _⟩
  · cases e; exact h.lt
  · cases e
theorem MapV.isMap (h : MapV ek ew w v m) : ∃ o, v = .map o := by
  rcases h with ⟨r, rfl, _⟩ | ⟨rfl, _⟩
  · exact ⟨_, rfl⟩
  · exact ⟨_, rfl⟩
theorem MapV.nodup (h : MapV ek ew w v m) : (m.map (·.1)).Nodup := by
  rcases h with ⟨r, rfl, h⟩ | ⟨rfl, rfl⟩
  · exact h.nodup
  · exact List.nodup_nil
theorem MapV.lookup [DecidableEq κ] {T K E : TypeId} (h : MapV ek ew w v m) (hK : KeyEq P K ek) (hT : P.underlying T = some (.map K E)) {z : Value} (hz : (zeroValue E).run P w = .ok z w) (k : κ) (ok : Bool) :
    (Instr.lookup T v (ek k) ok).run P w = .ok (if ok then .tuple #[((mget m k).map ew).getD z, .bool (mget m k).isSome] else ((mget m k).map ew).getD z) w := by
  rcases h with ⟨r, rfl, h⟩ | ⟨rfl, rfl⟩
  · exact h.lookup hK hT hz k ok
  · have hu := run_und hT w
    have hc := hK.check true k w
    have hf := hK.find k [] [] w rfl
    unfold Instr.lookup
    simp only [Sem.run_bind, hu, Result.andThen_ok, Sem.run_pure, Array.isEmpty_empty, hc, hf]
    cases ok <;> simp [hz, mget]
theorem MapV.len {T : TypeId} (h : MapV ek ew w v m) (hT : isM (P.underlying T) = true) (ty : TypeId) : (Builtin.len_ #[T] ty #[v]).run P w = .ok (.int .i64 m.length) w := by
  rcases h with ⟨r, rfl, h⟩ | ⟨rfl, rfl⟩
  · exact h.len hT ty
  · have hu := run_und (isM_inv hT) w
    simp [Builtin.len_, hu, goInt]
def VIter (ek : κ → Value) (ew : ν → Value) (w : World) (b : Nat) (v : Value) (m : List (κ × ν)) (idxs : List Nat) : Prop :=
  (∃ r, v = .map (some r) ∧ MIter ek ew w b r m idxs) ∨ (v = .map none ∧ m = [] ∧ idxs = [] ∧ ∃ c s d, w.heap[b]? = some (.mapIter none c s d))
variable {b : Nat} {idxs : List Nat}
theorem VIter.keep {w' : World} (h : VIter ek ew w b v m idxs) (h1 : ∀ r, v = .map (some r) → w'.heap[r]? = w.heap[r]?) (h2 : w'.heap[b]? = w.heap[b]?) : VIter ek ew w' b v m idxs := by
  rcases h with ⟨r, rfl, h⟩ | ⟨rfl, h3, h4, c, s, d, h5⟩
  · exact .inl ⟨r, rfl, h.keep (h1 r rfl) h2⟩
  · exact .inr ⟨rfl, h3, h4, c, s, d, h2.trans h5⟩
theorem VIter.lt (h : VIter ek ew w b v m idxs) : (∀ r, v = .map (some r) → r < w.heap.size) ∧ b < w.heap.size := by
  rcases h with ⟨r, rfl, h⟩ | ⟨rfl, h3, h4, c, s, d, h5⟩
  · exact ⟨fun r' e => by cases e; exact h.lt.1, h.lt.2⟩
  · exact ⟨fun r' e => (by cases e), (Array.getElem?_eq_some_iff.1 h5).1⟩
theorem VIter.ext {w' : World} (h : VIter ek ew w b v m idxs) (he : Ext w w') : VIter ek ew w' b v m idxs := h.keep (fun r e => he.blk _ (h.lt.1 r e)) (he.blk _ h.lt.2)
theorem VIter.mod {w' : World} {S : Nat → Prop} (h : VIter ek ew w b v m idxs) (hM : Mod S w w') (h1 : ∀ r, v = .map (some r) → ¬ S r) (h2 : ¬ S b) : VIter ek ew w' b v m idxs := h.keep (fun r e => hM.blk _ (h.lt.1 r e) (h1 r e)) (hM.blk _ h.lt.2 h2)
theorem VIter.agr {w' : World} {S : Nat → Prop} (h : VIter ek ew w b v m idxs) (hM : Agr S w w') (h1 : ∀ r, v = .map (some r) → S r) (h2 : S b) : VIter ek ew w' b v m idxs := h.keep (fun r e => hM.blk _ (h.lt.1 r e) (h1 r e)) (hM.blk _ h.lt.2 h2)
theorem VIter.obj (h : VIter ek ew w b v m idxs) : ∃ a c s d, w.heap[b]? = some (.mapIter a c s d) := by
  rcases h with ⟨r, rfl, h⟩ | ⟨rfl, h3, h4, c, s, d, h5⟩
  · exact h.obj
  · exact ⟨_, _, _, _, h5⟩
theorem VIter.bound (h : VIter ek ew w b v m idxs) : idxs.length ≤ m.length := by
  rcases h with ⟨r, rfl, h⟩ | ⟨rfl, rfl, rfl, _⟩
  · exact h.bound
  · exact Nat.le_refl _
theorem MapV.range (h : MapV ek ew w v m) {T K E : TypeId} (hT : P.underlying T = some (.map K E)) :
    ∃ o, (Instr.range T v).run P w = .ok (.pointer (some ⟨w.heap.size, 0, none⟩)) (w.alloc o) ∧ VIter ek ew (w.alloc o) w.heap.size v m [] := by
  rcases h with ⟨r, rfl, h⟩ | ⟨rfl, rfl⟩
  · obtain ⟨o, h1, h2⟩ := h.range hT
    exact ⟨o, h1, .inl ⟨r, rfl, h2⟩⟩
  · have hu := run_und hT w
    refine ⟨.mapIter none 0 #[] 0, ?_, .inr ⟨rfl, rfl, rfl, _, _, _, World.alloc_heap_new w _⟩⟩
    unfold Instr.range
    simp [hu, newObj, Sem.run]
theorem VIter.next (h : VIter ek ew w b v m idxs) (ty : TypeId) :
    (idxs.Perm (List.range m.length) ∧ (Instr.next (.pointer (some ⟨b, 0, none⟩)) false ty).run P w = .ok (.tuple #[.bool false]) w) ∨
    ∃ (i : Nat) (p : κ × ν) (w' : World), m[i]? = some p ∧ i ∉ idxs ∧ (Instr.next (.pointer (some ⟨b, 0, none⟩)) false ty).run P w = .ok (.tuple #[.bool true, ek p.1, ew p.2]) w' ∧ VIter ek ew w' b v m (idxs ++ [i]) ∧ Mod (· = b) w w' ∧
      (Instr.entry (.pointer (some ⟨b, 0, none⟩))).run P w' = .ok (.tuple #[ek p.1, ew p.2]) w' ∧ w'.heap.size = w.heap.size := by
  rcases h with ⟨r, rfl, h⟩ | ⟨rfl, rfl, rfl, c, s, d, h5⟩
  · rcases h.next (P := P) ty with h1 | ⟨i, p, w', h1, h2, h3, h4, h5⟩
    · exact .inl h1
    · exact .inr ⟨i, p, w', h1, h2, h3, .inl ⟨r, rfl, h4⟩, h5⟩
  · left
    refine ⟨by simp, ?_⟩
    have hg : (getObj b).run P w = .ok (.mapIter none c s d) w := by simp [getObj, Sem.run, h5]
    unfold Instr.next
    simp [hg]
/-- What has been gone over. -/
def seenOf (m : List (κ × ν)) (idxs : List Nat) : List (κ × ν) := idxs.filterMap fun i => m[i]?
theorem seenOf_snoc {m : List (κ × ν)} {idxs : List Nat} {i : Nat} {p : κ × ν} (hp : m[i]? = some p) : seenOf m (idxs ++ [i]) = seenOf m idxs ++ [p] := by
  unfold seenOf
  rw [List.filterMap_append]
  simp [hp]
theorem seenOf_all {m : List (κ × ν)} {idxs : List Nat} (h : idxs.Perm (List.range m.length)) : (seenOf m idxs).Perm m := by
  have h2 : ∀ l : List (κ × ν), (List.range l.length).filterMap (fun i => l[i]?) = l := by
    intro l
    induction l with
    | nil => rfl
    | cons a l ih =>
      rw [List.length_cons, List.range_succ_eq_map, List.filterMap_cons]
      simp [List.filterMap_map, Function.comp_def]
      exact ih
  have := h.filterMap (fun i => m[i]?)
  rw [h2] at this
  exact this
theorem seenOf_len (m : List (κ × ν)) (idxs : List Nat) : (seenOf m idxs).length ≤ idxs.length := List.length_filterMap_le _ _
theorem seenOf_mem {m : List (κ × ν)} {idxs : List Nat} {p : κ × ν} (h : p ∈ seenOf m idxs) : p ∈ m := by
  unfold seenOf at h
  rw [List.mem_filterMap] at h
  obtain ⟨i, _, hi⟩ := h
  exact List.mem_of_getElem? hi
end

/-! ### Several new blocks -/
theorem cell_far (w : World) (b j : Nat) (h : w.heap.size ≤ b) : w.cell? ⟨b, j, none⟩ = none := by
  unfold World.cell?
  simp only [Array.getElem?_eq_none h]
@[simp] theorem cell_far1 (w : World) (j : Nat) : w.cell? ⟨w.heap.size + 1, j, none⟩ = none := cell_far w _ j (by omega)
@[simp] theorem cell_far2 (w : World) (j : Nat) : w.cell? ⟨w.heap.size + 1 + 1, j, none⟩ = none := cell_far w _ j (by omega)
@[simp] theorem cell_far3 (w : World) (j : Nat) : w.cell? ⟨w.heap.size + 1 + 1 + 1, j, none⟩ = none := cell_far w _ j (by omega)
@[simp] theorem cell_far4 (w : World) (j : Nat) : w.cell? ⟨w.heap.size + 1 + 1 + 1 + 1, j, none⟩ = none := cell_far w _ j (by omega)
@[simp] theorem cell_far5 (w : World) (j : Nat) : w.cell? ⟨w.heap.size + 1 + 1 + 1 + 1 + 1, j, none⟩ = none := cell_far w _ j (by omega)
@[simp] theorem cell_far6 (w : World) (j : Nat) : w.cell? ⟨w.heap.size + 1 + 1 + 1 + 1 + 1 + 1, j, none⟩ = none := cell_far w _ j (by omega)
theorem frozen_far (w : World) (b j : Nat) (h : w.heap.size ≤ b) : w.frozen? ⟨b, j, none⟩ = false := by
  unfold World.frozen?
  simp only [Array.getElem?_eq_none h]
@[simp] theorem frozen_far1 (w : World) (j : Nat) : w.frozen? ⟨w.heap.size + 1, j, none⟩ = false := frozen_far w _ j (by omega)
@[simp] theorem frozen_far2 (w : World) (j : Nat) : w.frozen? ⟨w.heap.size + 1 + 1, j, none⟩ = false := frozen_far w _ j (by omega)
@[simp] theorem frozen_far3 (w : World) (j : Nat) : w.frozen? ⟨w.heap.size + 1 + 1 + 1, j, none⟩ = false := frozen_far w _ j (by omega)
@[simp] theorem frozen_far4 (w : World) (j : Nat) : w.frozen? ⟨w.heap.size + 1 + 1 + 1 + 1, j, none⟩ = false := frozen_far w _ j (by omega)
@[simp] theorem frozen_far5 (w : World) (j : Nat) : w.frozen? ⟨w.heap.size + 1 + 1 + 1 + 1 + 1, j, none⟩ = false := frozen_far w _ j (by omega)
@[simp] theorem frozen_far6 (w : World) (j : Nat) : w.frozen? ⟨w.heap.size + 1 + 1 + 1 + 1 + 1 + 1, j, none⟩ = false := frozen_far w _ j (by omega)
@[simp] theorem ne_far2 (n : Nat) : (n + 1 + 1 = n) = False := eq_false (by omega)
@[simp] theorem ne_far3 (n : Nat) : (n + 1 + 1 + 1 = n) = False := eq_false (by omega)
@[simp] theorem ne_far4 (n : Nat) : (n + 1 + 1 + 1 + 1 = n) = False := eq_false (by omega)
@[simp] theorem ne_far5 (n : Nat) : (n + 1 + 1 + 1 + 1 + 1 = n) = False := eq_false (by omega)
@[simp] theorem ne_far6 (n : Nat) : (n + 1 + 1 + 1 + 1 + 1 + 1 = n) = False := eq_false (by omega)
@[simp] theorem ne_far2' (n : Nat) : (n = n + 1 + 1) = False := eq_false (by omega)
@[simp] theorem ne_far3' (n : Nat) : (n = n + 1 + 1 + 1) = False := eq_false (by omega)
@[simp] theorem ne_far4' (n : Nat) : (n = n + 1 + 1 + 1 + 1) = False := eq_false (by omega)
@[simp] theorem ne_far5' (n : Nat) : (n = n + 1 + 1 + 1 + 1 + 1) = False := eq_false (by omega)
@[simp] theorem ne_far6' (n : Nat) : (n = n + 1 + 1 + 1 + 1 + 1 + 1) = False := eq_false (by omega)
theorem cells_new (w : World) (cs : Array Value) (t : TypeId) (j : Nat) : (w.alloc (.cells cs t)).cell? ⟨w.heap.size, j, none⟩ = cs[j]? := by
  have := World.alloc_heap_new w (.cells cs t)
  unfold World.cell?
  simp only [this]
  simp
end Pk
