/-
  The engine, part J: a range over a map.
-/
import Derived.Test.YthamfghcfjhifaaGreatDoorEngI
import Derived.Maps.Range
namespace Pk
open Go

/-- An iterator b over the map r, that has given the entries of these places. -/
def MIter {κ ν : Type} (ek : κ → Value) (ew : ν → Value) (w : World) (b r : Nat) (m : List (κ × ν)) (idxs : List Nat) : Prop :=
  ∃ es clock seen, w.heap[r]? = some (.map es clock) ∧ es.toList.map (fun e => (e.key, e.val)) = m.map (fun p => (ek p.1, ew p.2)) ∧ (es.toList.map (·.born)).Pairwise (· < ·) ∧ (∀ e ∈ es.toList, e.born < clock) ∧
    w.heap[b]? = some (.mapIter (some r) clock seen clock) ∧ (∀ i ∈ idxs, i < m.length) ∧ idxs.Nodup ∧ seen.toList = idxs.map (fun i => (es.toList.map (·.born)).getD i 0)
section
variable {κ ν : Type} {ek : κ → Value} {ew : ν → Value} {P : Program} {w : World} {b r : Nat} {m : List (κ × ν)} {idxs : List Nat}
theorem MIter.keep {w' : World} (h : MIter ek ew w b r m idxs) (h1 : w'.heap[r]? = w.heap[r]?) (h2 : w'.heap[b]? = w.heap[b]?) : MIter ek ew w' b r m idxs := by
  obtain ⟨es, c, s, a1, a2, a3, a4, a5, a6⟩ := h
  exact ⟨es, c, s, h1.trans a1, a2, a3, a4, h2.trans a5, a6⟩
theorem MIter.lt (h : MIter ek ew w b r m idxs) : r < w.heap.size ∧ b < w.heap.size := by
  obtain ⟨es, c, s, a1, a2, a3, a4, a5, a6⟩ := h
  exact ⟨(Array.getElem?_eq_some_iff.1 a1).1, (Array.getElem?_eq_some_iff.1 a5).1⟩
theorem MIter.mod {w' : World} {S : Nat → Prop} (h : MIter ek ew w b r m idxs) (hM : Mod S w w') (h1 : ¬ S r) (h2 : ¬ S b) : MIter ek ew w' b r m idxs := h.keep (hM.blk _ h.lt.1 h1) (hM.blk _ h.lt.2 h2)
theorem MIter.obj (h : MIter ek ew w b r m idxs) : ∃ a c s d, w.heap[b]? = some (.mapIter a c s d) := by
  obtain ⟨es, c, s, a1, a2, a3, a4, a5, a6⟩ := h
  exact ⟨_, _, _, _, a5⟩
theorem MapAt.range (h : MapAt ek ew w r m) {T K E : TypeId} (hT : P.underlying T = some (.map K E)) :
    ∃ o, (Instr.range T (.map (some r))).run P w = .ok (.pointer (some ⟨w.heap.size, 0, none⟩)) (w.alloc o) ∧ MIter ek ew (w.alloc o) w.heap.size r m [] := by
  have hlt := h.lt
  obtain ⟨⟨es, c, h1, h2, h3, h4⟩, h5⟩ := h
  exact ⟨_, run_range_map w T K E r es c hT h1, es, c, #[], ((Ext.refl w).alloc _).obj h1, h2, h3, h4, World.alloc_heap_new w _, by simp, List.nodup_nil, rfl⟩
theorem MIter.next (h : MIter ek ew w b r m idxs) (ty : TypeId) :
    (idxs.Perm (List.range m.length) ∧ (Instr.next (.pointer (some ⟨b, 0, none⟩)) false ty).run P w = .ok (.tuple #[.bool false]) w) ∨
    ∃ (i : Nat) (p : κ × ν) (w' : World), m[i]? = some p ∧ i ∉ idxs ∧ (Instr.next (.pointer (some ⟨b, 0, none⟩)) false ty).run P w = .ok (.tuple #[.bool true, ek p.1, ew p.2]) w' ∧ MIter ek ew w' b r m (idxs ++ [i]) ∧ Mod (· = b) w w' ∧
      (Instr.entry (.pointer (some ⟨b, 0, none⟩))).run P w' = .ok (.tuple #[ek p.1, ew p.2]) w' ∧ w'.heap.size = w.heap.size := by
  obtain ⟨es, c, s, a1, a2, a3, a4, a5, a6, a7, a8⟩ := h
  have hlen : es.toList.length = m.length := by have := congrArg List.length a2; simpa using this
  have hbn : (es.toList.map (·.born)).Nodup := a3.imp (fun h => by omega)
  have hseen : ∀ i (hi : i < es.toList.length), s.contains (es.toList[i]).born = true ↔ i ∈ idxs := by
    intro i hi
    rw [← Array.contains_toList, a8, List.contains_iff_mem, List.mem_map]
    constructor
    · rintro ⟨j, hj, e⟩
      have hjl := a6 j hj
      have : (es.toList.map (·.born))[j]'(by simp; rw [← Array.length_toList]; omega) = (es.toList.map (·.born))[i]'(by simpa using hi) := by
        rw [List.getD_eq_getElem?_getD, List.getElem?_eq_getElem (by rw [List.length_map]; omega)] at e
        simpa using e
      have := (List.getElem_inj hbn).1 this
      rwa [← this]
    · intro hi'
      refine ⟨i, hi', ?_⟩
      rw [List.getD_eq_getElem?_getD, List.getElem?_map, List.getElem?_eq_getElem hi]; rfl
  rcases run_next_at (P := P) w ty b r c c s es c a5 a1 a4 (Nat.le_refl _) with ⟨h0, hrun⟩ | ⟨e, he, w1, hal, hrun⟩
  · left
    refine ⟨(List.perm_ext_iff_of_nodup a7 List.nodup_range).2 fun i => ⟨fun hi => by simpa using a6 i hi, fun hi => ?_⟩, hrun⟩
    have hi' : i < es.toList.length := by rw [hlen]; simpa using hi
    refine (hseen i hi').1 ?_
    exact all_seen es s h0 _ (List.getElem_mem hi')
  · right
    obtain ⟨hem, hes⟩ := Go.mem_left he
    obtain ⟨i, hi, rfl⟩ := List.mem_iff_getElem.1 hem
    have him : i < m.length := by omega
    have hkv : ((es.toList[i]).key, (es.toList[i]).val) = (ek m[i].1, ew m[i].2) := by
      have := congrArg (·[i]?) a2
      simp only [List.getElem?_map, List.getElem?_eq_getElem hi, List.getElem?_eq_getElem him, Option.map_some, Option.some.injEq] at this
      exact this
    have hk := congrArg Prod.fst hkv
    have hv := congrArg Prod.snd hkv
    simp only at hk hv
    rw [hk, hv] at hrun
    have hne : b ≠ r := by
      rintro rfl
      rw [a1] at a5; cases a5
    have hr1 : w1.heap[b]? = some (.mapIter (some r) c s c) := by rcases hal with rfl | rfl <;> exact a5
    have hb1 : w1.heap[r]? = some (.map es c) := by rcases hal with rfl | rfl <;> exact a1
    have hset := Go.MapKept.heap_set (o' := .mapIter (some r) c (s.push (es.toList[i]).born) c) hr1
    have hb' : (Go.ChangeMaps.setBlock w1 b (.mapIter (some r) c (s.push (es.toList[i]).born) c)).heap[r]? = some (.map es c) := (hset.2 r (Ne.symm hne)).trans hb1
    have hent := run_entry_at (P := P) (Go.ChangeMaps.setBlock w1 b (.mapIter (some r) c (s.push (es.toList[i]).born) c)) b r c s es c (es.toList[i]) hset.1 hb' hem hbn
    rw [hk, hv] at hent
    have hni : i ∉ idxs := fun hc => by
      have := (hseen i hi).2 hc
      rw [hes] at this; cases this
    refine ⟨i, m[i], _, List.getElem?_eq_getElem him, hni, hrun, ⟨es, c, _, hb', a2, a3, a4, hset.1, ?_, ?_, ?_⟩, ?_, hent, ?_⟩
    · intro j hj
      rcases List.mem_append.1 hj with hj | hj
      · exact a6 j hj
      · rw [List.mem_singleton] at hj; omega
    · rw [List.nodup_append]
      refine ⟨a7, by simp, fun a ha b hb => ?_⟩
      rw [List.mem_singleton] at hb
      subst hb
      rintro rfl
      exact hni ha
    · rw [Array.toList_push, a8, List.map_append, List.map_singleton]
      congr 2
      rw [List.getD_eq_getElem?_getD, List.getElem?_map, List.getElem?_eq_getElem hi]; rfl
    · rcases hal with rfl | rfl <;> exact ⟨rfl, rfl, rfl, by simp [Go.ChangeMaps.setBlock], fun k _ hk => hset.2 k hk⟩
    · rcases hal with rfl | rfl <;> simp [Go.ChangeMaps.setBlock]
theorem nodup_le : ∀ (n : Nat) (l : List Nat), l.Nodup → (∀ i ∈ l, i < n) → l.length ≤ n
  | 0, [], _, _ => Nat.le_refl _
  | 0, a :: _, _, h => by have := h a (by simp); omega
  | n + 1, l, hn, h => by
    have h1 := nodup_le n (l.erase n) (hn.erase n) fun i hi => by
      have h2 := h i (List.mem_of_mem_erase hi)
      have h3 : i ≠ n := fun e => by subst e; exact (hn.not_mem_erase) hi
      omega
    have := List.length_erase_of_mem (a := n) (l := l)
    by_cases hm : n ∈ l
    · have := this hm; omega
    · rw [List.erase_of_not_mem hm] at h1; omega
theorem MIter.bound (h : MIter ek ew w b r m idxs) : idxs.length ≤ m.length := by
  obtain ⟨es, c, s, a1, a2, a3, a4, a5, a6, a7, a8⟩ := h
  exact nodup_le _ _ a7 a6
end
end Pk
