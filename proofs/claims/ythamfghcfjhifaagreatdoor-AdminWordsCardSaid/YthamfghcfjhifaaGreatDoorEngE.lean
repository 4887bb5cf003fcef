/-
  The engine, part E: what changes between two worlds; maps.
-/
import Derived.Test.YthamfghcfjhifaaGreatDoorEngD
namespace Pk
open Go

/-- All blocks that lay in w, but those in S, lie in w' as they lay. -/
structure Mod (S : Nat → Prop) (w w' : World) : Prop where
  os : w'.os = w.os
  tape : w'.tape = w.tape
  out : w'.output = w.output
  size : w.heap.size ≤ w'.heap.size
  blk : ∀ b, b < w.heap.size → ¬ S b → w'.heap[b]? = w.heap[b]?
theorem Mod.refl (S : Nat → Prop) (w : World) : Mod S w w := ⟨rfl, rfl, rfl, Nat.le_refl _, fun _ _ _ => rfl⟩
theorem Mod.trans {S : Nat → Prop} {a b c : World} (h : Mod S a b) (k : Mod S b c) : Mod S a c :=
  ⟨k.os.trans h.os, k.tape.trans h.tape, k.out.trans h.out, Nat.le_trans h.size k.size, fun i hi hs => (k.blk i (Nat.lt_of_lt_of_le hi h.size) hs).trans (h.blk i hi hs)⟩
/-- What is new in b may be written, too. -/
theorem Mod.trans' {S S' : Nat → Prop} {a b c : World} (h : Mod S a b) (k : Mod S' b c) (hs : ∀ i, S' i → S i ∨ a.heap.size ≤ i) : Mod S a c :=
  ⟨k.os.trans h.os, k.tape.trans h.tape, k.out.trans h.out, Nat.le_trans h.size k.size, fun i hi hn => (k.blk i (Nat.lt_of_lt_of_le hi h.size) (fun h' => by
    rcases hs i h' with h1 | h1
    · exact hn h1
    · omega)).trans (h.blk i hi hn)⟩
theorem Mod.weaken {S S' : Nat → Prop} {a b : World} (h : Mod S a b) (hs : ∀ i, S i → S' i) : Mod S' a b := ⟨h.os, h.tape, h.out, h.size, fun i hi hn => h.blk i hi (fun h' => hn (hs i h'))⟩
theorem Ext.mod {S : Nat → Prop} {a b : World} (h : Ext a b) : Mod S a b := ⟨h.os, h.tape, h.out, h.size, fun i hi _ => h.blk i hi⟩
theorem Mod.ext {S : Nat → Prop} {a b : World} (h : Mod S a b) (hs : ∀ i, S i → a.heap.size ≤ i) : Ext a b := ⟨h.os, h.tape, h.out, h.size, fun i hi => h.blk i hi (fun h' => by have := hs i h'; omega)⟩
theorem Mod.alloc {S : Nat → Prop} {a w : World} (h : Mod S a w) (o : Obj) : Mod S a (w.alloc o) := h.trans (Ext.mod ((Ext.refl w).alloc o))
theorem Mod.setCell {S : Nat → Prop} {a w : World} (h : Mod S a w) (p : Addr) (v : Value) (hp : S p.block ∨ a.heap.size ≤ p.block) : Mod S a (w.setCell p v) :=
  h.trans' (S' := fun i => i = p.block) ⟨rfl, rfl, rfl, by simp, fun b _ hn => Go.RowKit.Below.heap_setCell w p v b hn⟩ (fun i e => by subst e; exact hp)
theorem Ext.setCell {a w : World} (h : Ext a w) (p : Addr) (v : Value) (hp : a.heap.size ≤ p.block) : Ext a (w.setCell p v) :=
  (Mod.setCell (S := fun _ => False) (Ext.mod h) p v (.inr hp)).ext (fun _ h => h.elim)
theorem Mod.obj {S : Nat → Prop} {w w' : World} (h : Mod S w w') {b : Nat} {o : Obj} (hb : w.heap[b]? = some o) (hs : ¬ S b) : w'.heap[b]? = some o := by
  rw [h.blk b (Array.getElem?_eq_some_iff.1 hb).1 hs, hb]
theorem cell_blk {w : World} {a : Addr} {v : Value} (h : w.cell? a = some v) : ∃ c t fr, w.heap[a.block]? = some (.cells c t fr) := by
  unfold World.cell? at h
  split at h
  · rename_i c t fr hb; exact ⟨c, t, fr, hb⟩
  · cases h
theorem Mod.cell {S : Nat → Prop} {w w' : World} (h : Mod S w w') {a : Addr} {v : Value} (ha : w.cell? a = some v) (hs : ¬ S a.block) : w'.cell? a = some v := by
  have hb := World.block_lt_of_cell? _ _ ha
  rw [← ha]
  unfold World.cell?
  rw [h.blk _ hb hs]
/-- Where only a map is written every cell stays. -/
theorem Mod.cellM {r : Nat} {w w' : World} (h : Mod (· = r) w w') {es : Array MapEntry} {c : Nat} (hr : w.heap[r]? = some (.map es c)) {a : Addr} (ha : (w.cell? a).isSome = true) : w'.cell? a = w.cell? a := by
  cases hv : w.cell? a with
  | none => simp [hv] at ha
  | some v =>
    refine h.cell hv ?_
    intro e
    obtain ⟨cs, t, fr, hb⟩ := cell_blk hv
    rw [e, hr] at hb
    cases hb

/-! ### Maps -/
structure KeyEq {κ : Type} [DecidableEq κ] (P : Program) (K : TypeId) (ek : κ → Value) : Prop where
  find : ∀ (k : κ) (es : List MapEntry) (m : List κ) (w : World), es.map (·.key) = m.map ek →
    (Instr.findKey K (ek k) es).run P w = .ok ((m.findIdx? (fun x => decide (x = k))).bind fun i => (es[i]?).map fun e => (i, e.val)) w
  check : ∀ (b : Bool) (k : κ) (w : World), (Instr.checkKey b 10000 K (ek k)).run P w = .ok () w
  same : ∀ (k : κ) (w : World), (Instr.keyThatStays (ek k) (ek k)).run P w = .ok (ek k) w

structure MapAt {κ ν : Type} (ek : κ → Value) (ew : ν → Value) (w : World) (r : Nat) (m : List (κ × ν)) : Prop where
  ex : ∃ es clock, w.heap[r]? = some (.map es clock) ∧ es.toList.map (fun e => (e.key, e.val)) = m.map (fun p => (ek p.1, ew p.2)) ∧
    (es.toList.map (·.born)).Pairwise (· < ·) ∧ (∀ e ∈ es.toList, e.born < clock)
  nodup : (m.map (·.1)).Nodup
def mget {κ ν : Type} [DecidableEq κ] (m : List (κ × ν)) (k : κ) : Option ν := (m.find? (fun p => decide (p.1 = k))).map (·.2)
def mset {κ ν : Type} [DecidableEq κ] (m : List (κ × ν)) (k : κ) (v : ν) : List (κ × ν) :=
  if (mget m k).isSome then m.map (fun p => if p.1 = k then (k, v) else p) else m ++ [(k, v)]
def mdel {κ ν : Type} [DecidableEq κ] (m : List (κ × ν)) (k : κ) : List (κ × ν) := m.filter (fun p => decide (p.1 ≠ k))

theorem MapAt.alloc0 {κ ν : Type} (ek : κ → Value) (ew : ν → Value) (w : World) : MapAt ek ew (w.alloc (.map #[] 0)) w.heap.size [] :=
  ⟨⟨#[], 0, World.alloc_heap_new w _, rfl, List.Pairwise.nil, fun e he => by cases he⟩, List.nodup_nil⟩
theorem MapAt.keep {κ ν : Type} {ek : κ → Value} {ew : ν → Value} {w w' : World} {r : Nat} {m : List (κ × ν)} (h : MapAt ek ew w r m) (hb : w'.heap[r]? = w.heap[r]?) : MapAt ek ew w' r m := by
  obtain ⟨⟨es, c, h1, h2⟩, h3⟩ := h
  exact ⟨⟨es, c, hb.trans h1, h2⟩, h3⟩
theorem MapAt.lt {κ ν : Type} {ek : κ → Value} {ew : ν → Value} {w : World} {r : Nat} {m : List (κ × ν)} (h : MapAt ek ew w r m) : r < w.heap.size := by
  obtain ⟨⟨es, c, h1, h2⟩, h3⟩ := h
  exact (Array.getElem?_eq_some_iff.1 h1).1
theorem MapAt.ext {κ ν : Type} {ek : κ → Value} {ew : ν → Value} {w w' : World} {r : Nat} {m : List (κ × ν)} (h : MapAt ek ew w r m) (he : Ext w w') : MapAt ek ew w' r m := h.keep (he.blk r h.lt)
theorem MapAt.mod {κ ν : Type} {ek : κ → Value} {ew : ν → Value} {w w' : World} {r : Nat} {m : List (κ × ν)} {S : Nat → Prop} (h : MapAt ek ew w r m) (he : Mod S w w') (hs : ¬ S r) : MapAt ek ew w' r m := h.keep (he.blk r h.lt hs)
theorem MapAt.cells {κ ν : Type} {ek : κ → Value} {ew : ν → Value} {w w' : World} {r : Nat} {m : List (κ × ν)} (h : MapAt ek ew w r m) (he : Mod (· = r) w w') (a : Addr) (ha : (w.cell? a).isSome = true) : w'.cell? a = w.cell? a := by
  obtain ⟨⟨es, c, h1, h2⟩, h3⟩ := h
  exact he.cellM h1 ha

section
variable {κ ν : Type} [DecidableEq κ]
theorem findIdx_get (m : List (κ × ν)) (k : κ) : (m.map (·.1)).findIdx? (fun x => decide (x = k)) = m.findIdx? (fun p => decide (p.1 = k)) := by
  rw [List.findIdx?_map]; rfl
theorem mget_eq (m : List (κ × ν)) (k : κ) : mget m k = (m.findIdx? (fun p => decide (p.1 = k))).bind fun i => (m[i]?).map (·.2) := by
  unfold mget
  induction m with
  | nil => rfl
  | cons p m ih =>
    simp only [List.find?_cons, List.findIdx?_cons]
    by_cases h : p.1 = k
    · simp [h]
    · simp only [h, decide_false]
      rw [ih]
      cases m.findIdx? (fun p => decide (p.1 = k)) <;> simp
variable {P : Program} {T K E : TypeId} {ek : κ → Value} {ew : ν → Value} {w : World} {r : Nat} {m : List (κ × ν)}
theorem MapAt.found (h : MapAt ek ew w r m) (hK : KeyEq P K ek) (k : κ) : ∃ es clock, w.heap[r]? = some (.map es clock) ∧ es.toList.map (fun e => (e.key, e.val)) = m.map (fun p => (ek p.1, ew p.2)) ∧
    (es.toList.map (·.born)).Pairwise (· < ·) ∧ (∀ e ∈ es.toList, e.born < clock) ∧
    (Instr.findKey K (ek k) es.toList).run P w = .ok ((m.findIdx? (fun p => decide (p.1 = k))).bind fun i => (m[i]?).map fun p => (i, ew p.2)) w := by
  obtain ⟨⟨es, c, h1, h2, h3, h4⟩, h5⟩ := h
  refine ⟨es, c, h1, h2, h3, h4, ?_⟩
  have hk : es.toList.map (·.key) = (m.map (·.1)).map ek := by
    have := congrArg (List.map Prod.fst) h2
    simpa [List.map_map, Function.comp_def] using this
  rw [hK.find k _ _ w hk, findIdx_get]
  congr 1
  cases m.findIdx? (fun p => decide (p.1 = k)) with
  | none => rfl
  | some i =>
    simp only [Option.bind_some]
    have := congrArg (fun l => l[i]?) h2
    simp only [List.getElem?_map] at this
    cases he : es.toList[i]? <;> cases hm : m[i]? <;> simp_all
theorem MapAt.lookup (h : MapAt ek ew w r m) (hK : KeyEq P K ek) (hT : P.underlying T = some (.map K E)) {z : Value} (hz : (zeroValue E).run P w = .ok z w) (k : κ) (ok : Bool) :
    (Instr.lookup T (.map (some r)) (ek k) ok).run P w = .ok (if ok then .tuple #[((mget m k).map ew).getD z, .bool (mget m k).isSome] else ((mget m k).map ew).getD z) w := by
  obtain ⟨es, c, h1, h2, h3, h4, hf⟩ := h.found hK k
  have hu := run_und hT w
  have hg : (getObj r).run P w = .ok (.map es c) w := by simp [getObj, Sem.run, h1]
  have hc := hK.check es.isEmpty k w
  unfold Instr.lookup
  simp only [Sem.run_bind, hu, Result.andThen_ok, hg, Sem.run_pure, hc, hf, mget_eq]
  cases hi : m.findIdx? (fun p => decide (p.1 = k)) with
  | none => cases ok <;> simp [hz]
  | some i =>
    cases hm : m[i]? with
    | none => cases ok <;> simp [hz, hm]
    | some p => cases ok <;> simp [hm]
theorem MapAt.update (h : MapAt ek ew w r m) (hK : KeyEq P K ek) (hT : P.underlying T = some (.map K E)) (k : κ) (v : ν) :
    ∃ w', (Instr.mapUpdate T (.map (some r)) (ek k) (ew v)).run P w = .ok () w' ∧ MapAt ek ew w' r (mset m k v) ∧ Mod (· = r) w w' ∧ w'.heap.size = w.heap.size := by
  obtain ⟨es, c, h1, h2, h3, h4, hf⟩ := h.found hK k
  have hu := run_und hT w
  have hg : (getObj r).run P w = .ok (.map es c) w := by simp [getObj, Sem.run, h1]
  have hc := hK.check false k w
  have hlt := (Array.getElem?_eq_some_iff.1 h1).1
  have hset : ∀ o, (setObj r o).run P w = .ok () (w.putObj r o) := fun o => by simp [setObj, Sem.run, h1, World.putObj]
  have hlen : es.toList.length = m.length := by have := congrArg List.length h2; simpa using this
  have hmod : ∀ o, Mod (· = r) w (w.putObj r o) := fun o => ⟨rfl, rfl, rfl, by simp, fun b _ hb => World.putObj_heap_other hb⟩
  unfold Instr.mapUpdate
  simp only [Sem.run_bind, hu, Result.andThen_ok, hg, hc, hf]
  cases hi : m.findIdx? (fun p => decide (p.1 = k)) with
  | none =>
    refine ⟨_, by simp only [Option.bind_none, hset], ⟨⟨es.push { key := ek k, val := ew v, born := c }, c + 1, World.putObj_heap_same hlt, ?_, ?_, ?_⟩, ?_⟩, hmod _, by simp⟩
    · have hn : (mget m k).isSome = false := by rw [mget_eq, hi]; rfl
      simp [mset, hn, h2]
    · simp only [Array.toList_push, List.map_append, List.map_cons, List.map_nil]
      rw [List.pairwise_append]
      refine ⟨h3, by simp, ?_⟩
      intro a ha b hb
      simp at hb; subst hb
      obtain ⟨e, he, rfl⟩ := List.mem_map.1 ha
      exact h4 e he
    · intro e he
      simp only [Array.toList_push, List.mem_append, List.mem_singleton] at he
      rcases he with he | rfl
      · have := h4 e he; omega
      · exact Nat.lt_succ_self _
    · have hn : (mget m k).isSome = false := by rw [mget_eq, hi]; rfl
      simp only [mset, hn, Bool.false_eq_true, if_false, List.map_append, List.map_cons, List.map_nil]
      refine List.nodup_append.2 ⟨h.nodup, by simp, ?_⟩
      intro a ha b hb
      simp at hb; subst hb
      rintro rfl
      rw [List.findIdx?_eq_none_iff] at hi
      obtain ⟨p, hp, rfl⟩ := List.mem_map.1 ha
      have := hi p hp
      simp at this
  | some i =>
    obtain ⟨hil, hpi, hlt'⟩ := List.findIdx?_eq_some_iff_getElem.1 hi
    have hpk : (m[i]).1 = k := by simpa using hpi
    have hmi : m[i]? = some m[i] := List.getElem?_eq_getElem hil
    have hei : i < es.size := by rw [← Array.length_toList, hlen]; exact hil
    have hkey : (es[i]'hei).key = ek k := by
      have := congrArg (fun l => l[i]?) h2
      simp only [List.getElem?_map, hmi, Option.map_some, Array.getElem?_toList, Array.getElem?_eq_getElem hei, Option.some.injEq, Prod.mk.injEq] at this
      rw [this.1, hpk]
    have hk2 : ((es[i]?).map (·.key)).getD (ek k) = ek k := by simp [hei, hkey]
    refine ⟨_, by simp only [Option.bind_some, hmi, Option.map_some, Sem.run_bind, hk2, hK.same, Result.andThen_ok, hset], ⟨⟨es.modify i fun e => { e with key := ek k, val := ew v }, c, World.putObj_heap_same hlt, ?_, ?_, ?_⟩, ?_⟩, hmod _, by simp⟩
    · have hs : (mget m k).isSome = true := by rw [mget_eq, hi]; simp [hmi]
      simp only [mset, hs, if_true]
      apply List.ext_getElem?
      intro j
      have hj := congrArg (fun l => l[j]?) h2
      simp only [List.getElem?_map, Array.getElem?_toList, Array.getElem?_modify] at hj ⊢
      by_cases e : i = j
      · subst e
        rw [if_pos rfl]
        simp [hei, hmi, hpk]
      · rw [if_neg e, hj]
        cases hmj : m[j]? with
        | none => rfl
        | some p =>
          have hne : p.1 ≠ k := by
            intro hpk'
            have hjl : j < m.length := (List.getElem?_eq_some_iff.1 hmj).1
            have hpj : m[j] = p := by have := List.getElem?_eq_getElem hjl; rw [hmj] at this; exact (Option.some.inj this).symm
            have hnd := List.pairwise_iff_getElem.1 h.nodup
            rcases Nat.lt_or_ge i j with hij | hij
            · exact hnd i j (by simpa using hil) (by simpa using hjl) hij (by simp [hpk, hpj, hpk'])
            · exact hnd j i (by simpa using hjl) (by simpa using hil) (by omega) (by simp [hpk, hpj, hpk'])
          simp [hne]
    · have : (es.modify i fun e => { e with key := ek k, val := ew v }).toList.map (·.born) = es.toList.map (·.born) := by
        apply List.ext_getElem?
        intro j
        simp only [List.getElem?_map, Array.getElem?_toList, Array.getElem?_modify]
        by_cases e : i = j
        · subst e; simp [hei]
        · simp [e]
      rw [this]; exact h3
    · intro e he
      obtain ⟨j, hj⟩ := List.mem_iff_getElem?.1 he
      simp only [Array.getElem?_toList, Array.getElem?_modify] at hj
      by_cases e' : i = j
      · subst e'
        simp [hei] at hj
        subst hj
        exact h4 es[i] (by simp)
      · rw [if_neg e'] at hj
        exact h4 e (List.mem_iff_getElem?.2 ⟨j, by simpa using hj⟩)
    · have hs : (mget m k).isSome = true := by rw [mget_eq, hi]; simp [hmi]
      simp only [mset, hs, if_true, List.map_map]
      have : m.map ((·.1) ∘ fun p => if p.1 = k then (k, v) else p) = m.map (·.1) := by
        apply List.map_congr_left
        intro p _
        simp only [Function.comp]
        by_cases e : p.1 = k
        · simp [e]
        · simp [e]
      rw [this]; exact h.nodup
theorem map_eraseIdx' {α β : Type} (f : α → β) : ∀ (l : List α) (i : Nat), (l.eraseIdx i).map f = (l.map f).eraseIdx i
  | [], _ => by simp
  | a :: l, 0 => by simp
  | a :: l, i + 1 => by simp [map_eraseIdx' f l i]
theorem MapAt.delete (h : MapAt ek ew w r m) (hK : KeyEq P K ek) (hT : P.underlying T = some (.map K E)) (k : κ) (kt ty : TypeId) :
    ∃ w', (Builtin.delete_ #[T, kt] ty #[.map (some r), ek k]).run P w = .ok (.tuple #[]) w' ∧ MapAt ek ew w' r (mdel m k) ∧ Mod (· = r) w w' ∧ w'.heap.size = w.heap.size := by
  obtain ⟨es, c, h1, h2, h3, h4, hf⟩ := h.found hK k
  have hu := run_und hT w
  have hg : (getObj r).run P w = .ok (.map es c) w := by simp [getObj, Sem.run, h1]
  have hc := hK.check es.isEmpty k w
  have hlt := (Array.getElem?_eq_some_iff.1 h1).1
  have hset : ∀ o, (setObj r o).run P w = .ok () (w.putObj r o) := fun o => by simp [setObj, Sem.run, h1, World.putObj]
  have hlen : es.toList.length = m.length := by have := congrArg List.length h2; simpa using this
  have hmod : ∀ o, Mod (· = r) w (w.putObj r o) := fun o => ⟨rfl, rfl, rfl, by simp, fun b _ hb => World.putObj_heap_other hb⟩
  unfold Builtin.delete_
  cases hi : m.findIdx? (fun p => decide (p.1 = k)) with
  | none =>
    refine ⟨w.putObj r (.map es c), ?_, ⟨⟨es, c, World.putObj_heap_same hlt, ?_, h3, h4⟩, ?_⟩, hmod _, by simp⟩
    · simp [hu, hg, hc, hf, hi, hset]
    · have : mdel m k = m := by
        unfold mdel
        rw [List.filter_eq_self]
        intro p hp
        have := (List.findIdx?_eq_none_iff.1 hi) p hp
        simpa using this
      rw [this]; exact h2
    · exact (h.nodup).sublist ((List.filter_sublist).map _)
  | some i =>
    obtain ⟨hil, hpi, hlt'⟩ := List.findIdx?_eq_some_iff_getElem.1 hi
    have hpk : (m[i]).1 = k := by simpa using hpi
    have hmi : m[i]? = some m[i] := List.getElem?_eq_getElem hil
    have hei : i < es.size := by rw [← Array.length_toList, hlen]; exact hil
    have hdel : mdel m k = m.eraseIdx i := by
      unfold mdel
      have hnd := List.pairwise_iff_getElem.1 h.nodup
      rw [List.eraseIdx_eq_take_drop_succ]
      conv => lhs; rw [← List.take_append_drop i m]
      rw [List.filter_append, List.drop_eq_getElem_cons hil, List.filter_cons]
      simp only [hpk, ne_eq, not_true_eq_false, decide_false, Bool.false_eq_true, if_false]
      congr 1
      · rw [List.filter_eq_self]
        intro p hp
        obtain ⟨j, hj, rfl⟩ := List.mem_iff_getElem.1 hp
        simp only [List.length_take] at hj
        have := hlt' j (by omega)
        simp only [List.getElem_take]
        simpa using this
      · rw [List.filter_eq_self]
        intro p hp
        obtain ⟨j, hj, rfl⟩ := List.mem_iff_getElem.1 hp
        simp only [List.length_drop] at hj
        simp only [List.getElem_drop, decide_eq_true_eq]
        intro e
        exact hnd i (i + 1 + j) (by simpa using hil) (by simp; omega) (by omega) (by simp [hpk, e])
    refine ⟨w.putObj r (.map (es.eraseIdxIfInBounds i) c), ?_, ⟨⟨es.eraseIdxIfInBounds i, c, World.putObj_heap_same hlt, ?_, ?_, ?_⟩, ?_⟩, hmod _, by simp⟩
    · simp [hu, hg, hc, hf, hi, hmi, hset]
    · have he : (es.eraseIdxIfInBounds i).toList = es.toList.eraseIdx i := by simp [Array.eraseIdxIfInBounds, hei]
      rw [he, hdel, map_eraseIdx', map_eraseIdx', h2]
    · have he : (es.eraseIdxIfInBounds i).toList = es.toList.eraseIdx i := by simp [Array.eraseIdxIfInBounds, hei]
      rw [he, map_eraseIdx']
      exact h3.sublist (List.eraseIdx_sublist _ _)
    · have he : (es.eraseIdxIfInBounds i).toList = es.toList.eraseIdx i := by simp [Array.eraseIdxIfInBounds, hei]
      rw [he]
      exact fun e hm => h4 e (List.mem_of_mem_eraseIdx hm)
    · exact (h.nodup).sublist ((List.filter_sublist).map _)
theorem MapAt.len {κ ν : Type} {ek : κ → Value} {ew : ν → Value} {P : Program} {T : TypeId} {w : World} {r : Nat} {m : List (κ × ν)} (h : MapAt ek ew w r m) (hT : isM (P.underlying T) = true) (ty : TypeId) : (Builtin.len_ #[T] ty #[.map (some r)]).run P w = .ok (.int .i64 m.length) w := by
  obtain ⟨⟨es, c, h1, h2, h3, h4⟩, h5⟩ := h
  have hu := run_und (isM_inv hT) w
  have hg : (getObj r).run P w = .ok (.map es c) w := by simp [getObj, Sem.run, h1]
  have hlen : es.toList.length = m.length := by have := congrArg List.length h2; simpa using this
  simp [Builtin.len_, hu, hg, ← hlen]
theorem MapAt.clone {κ ν : Type} {ek : κ → Value} {ew : ν → Value} {P : Program} {w : World} {r : Nat} {m : List (κ × ν)} (h : MapAt ek ew w r m) : ∃ o, w.heap[r]? = some o ∧ (∀ t, (Extern.MapsClone.clone #[.iface t (.map (some r))]).run P w = .ok (.iface t (.map (some w.heap.size))) (w.alloc o)) ∧ MapAt ek ew (w.alloc o) w.heap.size m := by
  obtain ⟨⟨es, c, h1, h2, h3, h4⟩, h5⟩ := h
  have hg : (getObj r).run P w = .ok (.map es c) w := by simp [getObj, Sem.run, h1]
  refine ⟨_, h1, fun t => ?_, ⟨⟨es, c, World.alloc_heap_new w _, h2, h3, h4⟩, h5⟩⟩
  have e : Extern.MapsClone.clone #[.iface t (.map (some r))] = (do
    let .map entries clock ← getObj r | stuck "maps.clone: a map expected"
    pure (.iface t (.map (some (← newObj (.map entries clock)))))) := rfl
  rw [e]
  simp [hg, newObj, Sem.run]
end
/-- Keys of an integer kind. -/
theorem keyEq_int {P : Program} {K : TypeId} {q : IntKind} (hK : P.underlying K = some (.int q)) : KeyEq P K (Value.int q) where
  find := by
    intro k es m w he
    have hu := run_und hK w
    have key : ∀ (es : List MapEntry) (m : List Int) (i : Nat), es.map (·.key) = m.map (Value.int q) →
        Instr.findNow (.int q) (.int q k) es i = some ((m.findIdx? (fun x => decide (x = k))).bind fun j => (es[j]?).map fun e => (i + j, e.val)) := by
      intro es
      induction es with
      | nil => intro m i h; cases m with
        | nil => rfl
        | cons => simp at h
      | cons e es ih =>
        intro m i h
        cases m with
        | nil => simp at h
        | cons x m =>
          simp only [List.map_cons, List.cons.injEq] at h
          simp only [Instr.findNow, h.1, Instr.sameNow, if_true, List.findIdx?_cons]
          by_cases hx : x = k
          · subst hx; simp
          · have h1 : (k == x) = false := by simpa using Ne.symm hx
            simp only [h1, ih m (i + 1) h.2, hx, decide_false]
            cases m.findIdx? (fun x => decide (x = k)) with
            | none => rfl
            | some j => simp only [Option.map_some, Option.bind_some]; congr 2; funext e; congr 1; omega
    unfold Instr.findKey
    simp only [Sem.run_bind, hu, Result.andThen_ok, key es m 0 he, Sem.run_pure]
    simp
  check := by
    intro b k w
    have hu := run_und hK w
    have e : ∀ d, (Instr.checkKey b (d + 1) K (.int q k)).run P w = .ok () w := fun d => by
      simp only [Instr.checkKey, Sem.run_bind, hu, Result.andThen_ok, Sem.run_pure]
    exact e 9999
  same := by
    intro k w
    have e : Instr.sameBits 10000 (.int q k) (.int q k) = true := by
      have h : (q == q && k == k) = true := Bool.and_eq_true_iff.2 ⟨by cases q <;> rfl, beq_self_eq_true k⟩
      exact h
    unfold Instr.keyThatStays
    rw [if_pos e]
    rfl
end Pk
