/-
  The engine, part AE: a range over a map out of which what has been given is deleted.
-/
import Derived.Test.YtjagbfaklckagaaGreatEngJ
import Derived.Test.YtjagbfaklckagaaGreatEngAD
namespace Pk
open Go
section
variable {κ ν : Type} {ek : κ → Value} {ew : ν → Value} {P : Program}
/-- An iterator b over the map r, which has m now; it has given the entries of these keys. -/
def DIter (ek : κ → Value) (ew : ν → Value) (w : World) (b r : Nat) (m : List (κ × ν)) (vis : List κ) : Prop :=
  ∃ es c seen, w.heap[r]? = some (.map es c) ∧ es.toList.map (fun e => (e.key, e.val)) = m.map (fun p => (ek p.1, ew p.2)) ∧ (es.toList.map (·.born)).Pairwise (· < ·) ∧ (∀ e ∈ es.toList, e.born < c) ∧
    w.heap[b]? = some (.mapIter (some r) c seen c) ∧ (m.map (·.1)).Nodup ∧ ∀ (i : Nat) (e : MapEntry) (p : κ × ν), es.toList[i]? = some e → m[i]? = some p → (seen.contains e.born = true ↔ p.1 ∈ vis)
theorem DIter.keep {w w' : World} {b r : Nat} {m : List (κ × ν)} {vis : List κ} (h : DIter ek ew w b r m vis) (h1 : w'.heap[r]? = w.heap[r]?) (h2 : w'.heap[b]? = w.heap[b]?) : DIter ek ew w' b r m vis := by
  obtain ⟨es, c, s, a1, a2, a3, a4, a5, a6⟩ := h
  exact ⟨es, c, s, h1.trans a1, a2, a3, a4, h2.trans a5, a6⟩
theorem DIter.lt {w : World} {b r : Nat} {m : List (κ × ν)} {vis : List κ} (h : DIter ek ew w b r m vis) : r < w.heap.size ∧ b < w.heap.size := by
  obtain ⟨es, c, s, a1, a2, a3, a4, a5, a6⟩ := h
  exact ⟨(Array.getElem?_eq_some_iff.1 a1).1, (Array.getElem?_eq_some_iff.1 a5).1⟩
theorem DIter.cast {w : World} {b r : Nat} {m m' : List (κ × ν)} {vis : List κ} (h : DIter ek ew w b r m vis) (e : m = m') : DIter ek ew w b r m' vis := e ▸ h
theorem DIter.ne {w : World} {b r : Nat} {m : List (κ × ν)} {vis : List κ} (h : DIter ek ew w b r m vis) : b ≠ r := by
  obtain ⟨es, c, s, a1, a2, a3, a4, a5, a6⟩ := h
  rintro rfl
  rw [a1] at a5; cases a5
theorem DIter.mod {w w' : World} {b r : Nat} {m : List (κ × ν)} {vis : List κ} {S : Nat → Prop} (h : DIter ek ew w b r m vis) (hM : Mod S w w') (h1 : ¬ S r) (h2 : ¬ S b) : DIter ek ew w' b r m vis := h.keep (hM.blk _ h.lt.1 h1) (hM.blk _ h.lt.2 h2)
theorem DIter.ext {w w' : World} {b r : Nat} {m : List (κ × ν)} {vis : List κ} (h : DIter ek ew w b r m vis) (hE : Ext w w') : DIter ek ew w' b r m vis := h.keep (hE.blk _ h.lt.1) (hE.blk _ h.lt.2)
theorem DIter.map {w : World} {b r : Nat} {m : List (κ × ν)} {vis : List κ} (h : DIter ek ew w b r m vis) : MapAt ek ew w r m := by
  obtain ⟨es, c, s, a1, a2, a3, a4, a5, a6, a7⟩ := h
  exact ⟨⟨es, c, a1, a2, a3, a4⟩, a6⟩
theorem MIter.toD {w : World} {b r : Nat} {m : List (κ × ν)} (h : MIter ek ew w b r m []) (hn : (m.map (·.1)).Nodup) : DIter ek ew w b r m [] := by
  obtain ⟨es, c, s, a1, a2, a3, a4, a5, a6, a7, a8⟩ := h
  refine ⟨es, c, s, a1, a2, a3, a4, a5, hn, fun i e p _ _ => ?_⟩
  have : s = #[] := by
    apply Array.ext'
    simpa using a8
  subst this
  simp
theorem DIter.next [DecidableEq κ] {w : World} {b r : Nat} {m : List (κ × ν)} {vis : List κ} (h : DIter ek ew w b r m vis) (ty : TypeId) :
    ((∀ p ∈ m, p.1 ∈ vis) ∧ (Instr.next (.pointer (some ⟨b, 0, none⟩)) false ty).run P w = .ok (.tuple #[.bool false]) w) ∨
    ∃ (p : κ × ν) (w' : World), p ∈ m ∧ p.1 ∉ vis ∧ (Instr.next (.pointer (some ⟨b, 0, none⟩)) false ty).run P w = .ok (.tuple #[.bool true, ek p.1, ew p.2]) w' ∧ DIter ek ew w' b r m (p.1 :: vis) ∧ Mod (· = b) w w' ∧
      (Instr.entry (.pointer (some ⟨b, 0, none⟩))).run P w' = .ok (.tuple #[ek p.1, ew p.2]) w' ∧ w'.heap.size = w.heap.size := by
  have hne' := h.ne
  obtain ⟨es, c, s, a1, a2, a3, a4, a5, a6, a7⟩ := h
  have hlen : es.toList.length = m.length := by have := congrArg List.length a2; simpa using this
  have hbn : (es.toList.map (·.born)).Nodup := a3.imp (fun h => by omega)
  rcases run_next_at (P := P) w ty b r c c s es c a5 a1 a4 (Nat.le_refl _) with ⟨h0, hrun⟩ | ⟨e, he, w1, hal, hrun⟩
  · left
    refine ⟨fun p hp => ?_, hrun⟩
    obtain ⟨i, hi, rfl⟩ := List.getElem_of_mem hp
    have hi' : i < es.toList.length := by omega
    exact (a7 i es.toList[i] m[i] (List.getElem?_eq_getElem hi') (List.getElem?_eq_getElem hi)).1 (all_seen es s h0 _ (List.getElem_mem hi'))
  · right
    obtain ⟨hem, hes⟩ := Go.mem_left he
    obtain ⟨i, hi, rfl⟩ := List.mem_iff_getElem.1 hem
    have him : i < m.length := by omega
    have hkv : ((es.toList[i]).key, (es.toList[i]).val) = (ek m[i].1, ew m[i].2) := by
      have := congrArg (·[i]?) a2
      simp only [List.getElem?_map, List.getElem?_eq_getElem hi, List.getElem?_eq_getElem him, Option.map_some, Option.some.injEq] at this
      exact this
    have hk := congrArg Prod.fst hkv
    have hv := congrArg Prod.snd hkv
    simp only at hk hv
    rw [hk, hv] at hrun
    have hr1 : w1.heap[b]? = some (.mapIter (some r) c s c) := by rcases hal with rfl | rfl <;> exact a5
    have hb1 : w1.heap[r]? = some (.map es c) := by rcases hal with rfl | rfl <;> exact a1
    have hset := Go.MapKept.heap_set (o' := .mapIter (some r) c (s.push (es.toList[i]).born) c) hr1
    have hb' : (Go.ChangeMaps.setBlock w1 b (.mapIter (some r) c (s.push (es.toList[i]).born) c)).heap[r]? = some (.map es c) := (hset.2 r (Ne.symm hne')).trans hb1
    have hent := run_entry_at (P := P) (Go.ChangeMaps.setBlock w1 b (.mapIter (some r) c (s.push (es.toList[i]).born) c)) b r c s es c (es.toList[i]) hset.1 hb' hem hbn
    rw [hk, hv] at hent
    have hni : m[i].1 ∉ vis := fun hc => by
      have := (a7 i _ _ (List.getElem?_eq_getElem hi) (List.getElem?_eq_getElem him)).2 hc
      rw [hes] at this; cases this
    refine ⟨m[i], _, List.getElem_mem him, hni, hrun, ⟨es, c, _, hb', a2, a3, a4, hset.1, a6, ?_⟩, ?_, hent, ?_⟩
    · intro j e p hj hp
      obtain ⟨hjl, rfl⟩ := List.getElem?_eq_some_iff.1 hj
      obtain ⟨hjm, rfl⟩ := List.getElem?_eq_some_iff.1 hp
      rw [Array.contains_push, Bool.or_eq_true, a7 j _ _ hj hp, List.mem_cons]
      have : ((es.toList[j].born == es.toList[i].born) = true) ↔ m[j].1 = m[i].1 := by
        rw [beq_iff_eq]
        constructor
        · intro e
          have : (es.toList.map (·.born))[j]'(by simpa using hjl) = (es.toList.map (·.born))[i]'(by simpa using hi) := by simpa using e
          have := (List.getElem_inj hbn).1 this
          subst this; rfl
        · intro e
          have : (m.map (·.1))[j]'(by simpa using hjm) = (m.map (·.1))[i]'(by simpa using him) := by simpa using e
          have := (List.getElem_inj a6).1 this
          subst this; rfl
      rw [this]
      exact ⟨fun h => h.symm, fun h => h.symm⟩
    · rcases hal with rfl | rfl <;> exact ⟨rfl, rfl, rfl, by simp [Go.ChangeMaps.setBlock], fun k _ hk => hset.2 k hk⟩
    · rcases hal with rfl | rfl <;> simp [Go.ChangeMaps.setBlock]
variable [DecidableEq κ]
theorem mdel_erase {m : List (κ × ν)} (hn : (m.map (·.1)).Nodup) {k : κ} {i : Nat} (hi : m.findIdx? (fun p => decide (p.1 = k)) = some i) : mdel m k = m.eraseIdx i := by
  obtain ⟨hil, hpi, hlt'⟩ := List.findIdx?_eq_some_iff_getElem.1 hi
  have hpk : (m[i]).1 = k := by simpa using hpi
  unfold mdel
  have hnd := List.pairwise_iff_getElem.1 hn
  rw [List.eraseIdx_eq_take_drop_succ]
  conv => lhs; rw [← List.take_append_drop i m]
  rw [List.filter_append, List.drop_eq_getElem_cons hil, List.filter_cons]
  simp only [hpk, ne_eq, not_true_eq_false, decide_false, Bool.false_eq_true, if_false]
  congr 1
  · rw [List.filter_eq_self]
    intro p hp
    obtain ⟨j, hj, rfl⟩ := List.mem_iff_getElem.1 hp
    simp only [List.length_take] at hj
    have := hlt' j (by omega)
    simp only [List.getElem_take]
    simpa using this
  · rw [List.filter_eq_self]
    intro p hp
    obtain ⟨j, hj, rfl⟩ := List.mem_iff_getElem.1 hp
    simp only [List.length_drop] at hj
    simp only [List.getElem_drop, decide_eq_true_eq]
    intro e
    exact hnd i (i + 1 + j) (by simpa using hil) (by simp; omega) (by omega) (by simp [hpk, e])
theorem DIter.delete {T K E : TypeId} {w : World} {b r : Nat} {m : List (κ × ν)} {vis : List κ} (h : DIter ek ew w b r m vis) (hK : KeyEq P K ek) (hT : P.underlying T = some (.map K E)) (k : κ) (kt ty : TypeId) :
    ∃ w', (Builtin.delete_ #[T, kt] ty #[.map (some r), ek k]).run P w = .ok (.tuple #[]) w' ∧ DIter ek ew w' b r (mdel m k) vis ∧ Mod (· = r) w w' ∧ w'.heap.size = w.heap.size := by
  have hne := h.ne
  have hmap := h.map
  obtain ⟨es, c, s, a1, a2, a3, a4, a5, a6, a7⟩ := h
  obtain ⟨es1, c1, h1, h2, h3, h4, hf⟩ := hmap.found hK k
  rw [a1] at h1
  cases h1
  have hc := hK.check es.isEmpty k w
  have hu := run_und hT w
  have hg : (getObj r).run P w = .ok (.map es c) w := by simp [getObj, Sem.run, a1]
  have hlt := (Array.getElem?_eq_some_iff.1 a1).1
  have hset : ∀ o, (setObj r o).run P w = .ok () (w.putObj r o) := fun o => by simp [setObj, Sem.run, a1, World.putObj]
  have hlen : es.toList.length = m.length := by have := congrArg List.length h2; simpa using this
  have hmod : ∀ o, Mod (· = r) w (w.putObj r o) := fun o => ⟨rfl, rfl, rfl, by simp, fun b _ hb => World.putObj_heap_other hb⟩
  have hnd' : ((mdel m k).map (·.1)).Nodup := a6.sublist ((List.filter_sublist).map _)
  unfold Builtin.delete_
  cases hi : m.findIdx? (fun p => decide (p.1 = k)) with
  | none =>
    have hd : mdel m k = m := by
      unfold mdel
      rw [List.filter_eq_self]
      intro p hp
      have := (List.findIdx?_eq_none_iff.1 hi) p hp
      simpa using this
    refine ⟨w.putObj r (.map es c), ?_, ⟨es, c, s, World.putObj_heap_same hlt, by rw [hd]; exact h2, h3, h4, (World.putObj_heap_other hne).trans a5, hnd', by rw [hd]; exact a7⟩, hmod _, by simp⟩
    simp [hu, hg, hc, hf, hi, hset]
  | some i =>
    obtain ⟨hil, hpi, hlt'⟩ := List.findIdx?_eq_some_iff_getElem.1 hi
    have hmi : m[i]? = some m[i] := List.getElem?_eq_getElem hil
    have hei : i < es.size := by rw [← Array.length_toList, hlen]; exact hil
    have hdel := mdel_erase a6 hi
    have he : (es.eraseIdxIfInBounds i).toList = es.toList.eraseIdx i := by simp [Array.eraseIdxIfInBounds, hei]
    refine ⟨w.putObj r (.map (es.eraseIdxIfInBounds i) c), ?_, ⟨es.eraseIdxIfInBounds i, c, s, World.putObj_heap_same hlt, ?_, ?_, ?_, (World.putObj_heap_other hne).trans a5, hnd', ?_⟩, hmod _, by simp⟩
    · simp [hu, hg, hc, hf, hi, hmi, hset]
    · rw [he, hdel, map_eraseIdx', map_eraseIdx', h2]
    · rw [he, map_eraseIdx']
      exact h3.sublist (List.eraseIdx_sublist _ _)
    · rw [he]
      exact fun e hm => h4 e (List.mem_of_mem_eraseIdx hm)
    · intro j e p hj hp
      rw [he, List.getElem?_eraseIdx] at hj
      rw [hdel, List.getElem?_eraseIdx] at hp
      by_cases hji : j < i
      · rw [if_pos hji] at hj hp; exact a7 j e p hj hp
      · rw [if_neg hji] at hj hp; exact a7 (j + 1) e p hj hp
/-- Every entry of the one list stands in the other; kept folded, so that no simplification opens it. -/
def Within {α : Type} (a b : List α) : Prop := ∀ x ∈ a, x ∈ b

end
end Pk
