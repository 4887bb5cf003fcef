/-
  The engine, part Y: an entry of a map that is taken, and written later.
-/
import Derived.Test.YthamfghcfjhifaaGreatDoorEngX
namespace Pk
open Go
/-! ### Tests, as what they decide -/
theorem beq_dec (a b : Int) : (a == b) = decide (a = b) := by
  by_cases h : a = b <;> simp [h]
theorem bne_dec (a b : Int) : (a != b) = !decide (a = b) := by
  by_cases h : a = b <;> simp [h]
/-- The entry of k, by its stamp. -/
def EntAt {κ : Type} (ek : κ → Value) (w : World) (r : Nat) (k : κ) (n : Nat) : Prop :=
  ∃ es c i, ∃ e : MapEntry, w.heap[r]? = some (.map es c) ∧ es.toList[i]? = some e ∧ e.key = ek k ∧ e.born = n ∧ (∀ (j : Nat) (e' : MapEntry), es.toList[j]? = some e' → e'.born = n → j = i)
theorem EntAt.keep {κ : Type} {ek : κ → Value} {w w' : World} {r : Nat} {k : κ} {n : Nat} (h : EntAt ek w r k n) (hb : w'.heap[r]? = w.heap[r]?) : EntAt ek w' r k n := by
  obtain ⟨es, c, i, e, h1, h2⟩ := h
  exact ⟨es, c, i, e, hb.trans h1, h2⟩
theorem EntAt.lt {κ : Type} {ek : κ → Value} {w : World} {r : Nat} {k : κ} {n : Nat} (h : EntAt ek w r k n) : r < w.heap.size := by
  obtain ⟨es, c, i, e, h1, h2⟩ := h
  exact (Array.getElem?_eq_some_iff.1 h1).1
theorem EntAt.ext {κ : Type} {ek : κ → Value} {w w' : World} {r : Nat} {k : κ} {n : Nat} (h : EntAt ek w r k n) (he : Ext w w') : EntAt ek w' r k n := h.keep (he.blk r h.lt)
theorem EntAt.mod {κ : Type} {ek : κ → Value} {w w' : World} {r : Nat} {k : κ} {n : Nat} {S : Nat → Prop} (h : EntAt ek w r k n) (he : Mod S w w') (hs : ¬ S r) : EntAt ek w' r k n := h.keep (he.blk r h.lt hs)
theorem born_uniq {es : List MapEntry} (h : (es.map (·.born)).Pairwise (· < ·)) {i j : Nat} {e e' : MapEntry} (hi : es[i]? = some e) (hj : es[j]? = some e') (hb : e'.born = e.born) : j = i := by
  have hp := List.pairwise_iff_getElem.1 h
  obtain ⟨hil, hi'⟩ := List.getElem?_eq_some_iff.1 hi
  obtain ⟨hjl, hj'⟩ := List.getElem?_eq_some_iff.1 hj
  rcases Nat.lt_trichotomy i j with hlt | hlt | hlt
  · have := hp i j (by simpa using hil) (by simpa using hjl) hlt
    simp [hi', hj', hb] at this
  · exact hlt.symm
  · have := hp j i (by simpa using hjl) (by simpa using hil) hlt
    simp [hi', hj', hb] at this
section
variable {κ ν : Type} [DecidableEq κ] {P : Program} {T K E : TypeId} {ek : κ → Value} {ew : ν → Value} {w : World} {r : Nat} {m : List (κ × ν)}
theorem mset_self {m : List (κ × ν)} {k : κ} {v : ν} (hn : (m.map (·.1)).Nodup) (h : mget m k = some v) : mset m k v = m := by
  have := kset_map hn h (fun p => p) rfl
  simpa using this
theorem MapAt.entry (h : MapAt ek ew w r m) (hK : KeyEq P K ek) (hT : P.underlying T = some (.map K E)) {z : ν} (hz : (zeroValue E).run P w = .ok (ew z) w) (k : κ) :
    ∃ w' n, (Instr.mapEntry T (.map (some r)) (ek k)).run P w = .ok (.tuple #[ew ((mget m k).getD z), .int .i64 (n : Nat)]) w' ∧ MapAt ek ew w' r (mset m k ((mget m k).getD z)) ∧ EntAt ek w' r k n ∧ Mod (· = r) w w' ∧ w'.heap.size = w.heap.size := by
  obtain ⟨es, c, h1, h2, h3, h4, hf⟩ := h.found hK k
  have hu := run_und hT w
  have hg : (getObj r).run P w = .ok (.map es c) w := by simp [getObj, Sem.run, h1]
  have hc := hK.check false k w
  have hlt := (Array.getElem?_eq_some_iff.1 h1).1
  have hset : ∀ o, (setObj r o).run P w = .ok () (w.putObj r o) := fun o => by simp [setObj, Sem.run, h1, World.putObj]
  have hlen : es.toList.length = m.length := by have := congrArg List.length h2; simpa using this
  have hmod : ∀ o, Mod (· = r) w (w.putObj r o) := fun o => ⟨rfl, rfl, rfl, by simp, fun b _ hb => World.putObj_heap_other hb⟩
  unfold Instr.mapEntry
  simp only [Sem.run_bind, hu, Result.andThen_ok, hg, hc, hf]
  cases hi : m.findIdx? (fun p => decide (p.1 = k)) with
  | none =>
    have hn : mget m k = none := by rw [mget_eq, hi]; rfl
    refine ⟨w.putObj r (.map (es.push { key := ek k, val := ew z, born := c }) (c + 1)), c, by simp only [Option.bind_none, Sem.run_bind, hz, Result.andThen_ok, hset, hn, Option.getD_none, Sem.run_pure, goInt], ?_, ?_, hmod _, by simp⟩
    · refine ⟨⟨es.push { key := ek k, val := ew z, born := c }, c + 1, World.putObj_heap_same hlt, ?_, ?_, ?_⟩, kset_nodup h.nodup _ _⟩
      · simp [mset, hn, h2]
      · simp only [Array.toList_push, List.map_append, List.map_cons, List.map_nil]
        rw [List.pairwise_append]
        refine ⟨h3, by simp, ?_⟩
        intro a ha b hb
        simp at hb; subst hb
        obtain ⟨e, he, rfl⟩ := List.mem_map.1 ha
        exact h4 e he
      · intro e he
        simp only [Array.toList_push, List.mem_append, List.mem_singleton] at he
        rcases he with he | rfl
        · have := h4 e he; omega
        · exact Nat.lt_succ_self _
    · refine ⟨es.push { key := ek k, val := ew z, born := c }, c + 1, es.size, { key := ek k, val := ew z, born := c }, World.putObj_heap_same hlt, by simp, rfl, rfl, ?_⟩
      intro j e' hj hb
      simp only [Array.toList_push] at hj
      rcases Nat.lt_or_ge j es.toList.length with hjl | hjl
      · rw [List.getElem?_append_left hjl] at hj
        have := h4 e' (List.mem_of_getElem? hj)
        omega
      · have := (List.getElem?_eq_some_iff.1 hj).1
        simp at this hjl
        omega
  | some i =>
    obtain ⟨hil, hpi, hlt'⟩ := List.findIdx?_eq_some_iff_getElem.1 hi
    have hpk : (m[i]).1 = k := by simpa using hpi
    have hmi : m[i]? = some m[i] := List.getElem?_eq_getElem hil
    have hei : i < es.size := by rw [← Array.length_toList, hlen]; exact hil
    have hkey : (es[i]'hei).key = ek k := by
      have := congrArg (fun l => l[i]?) h2
      simp only [List.getElem?_map, hmi, Option.map_some, Array.getElem?_toList, Array.getElem?_eq_getElem hei, Option.some.injEq, Prod.mk.injEq] at this
      rw [this.1, hpk]
    have hk2 : ((es[i]?).map (·.key)).getD (ek k) = ek k := by simp [hei, hkey]
    have hn : mget m k = some (m[i]).2 := by rw [mget_eq, hi]; simp [hmi]
    have hbn : ((es[i]?).map (·.born)).getD 0 = (es[i]'hei).born := by simp [hei]
    have hsame : es.modify i (fun e => { e with key := ek k }) = es := by
      apply Array.ext_getElem?
      intro j
      rw [Array.getElem?_modify]
      by_cases e : i = j
      · subst e
        rw [if_pos rfl, Array.getElem?_eq_getElem hei]
        simp [← hkey]
      · rw [if_neg e]
    refine ⟨w.putObj r (.map (es.modify i fun e => { e with key := ek k }) c), (es[i]'hei).born, by simp only [Option.bind_some, hmi, Option.map_some, Sem.run_bind, hk2, hK.same, Result.andThen_ok, hset, hn, Option.getD_some, Sem.run_pure, goInt]; simp [hei], ?_, ?_, hmod _, by simp⟩
    · rw [hn, Option.getD_some, mset_self h.nodup hn, hsame]
      exact ⟨⟨es, c, World.putObj_heap_same hlt, h2, h3, h4⟩, h.nodup⟩
    · rw [hsame]
      exact ⟨es, c, i, es[i], World.putObj_heap_same hlt, by simp [hei], hkey, rfl, fun j e' hj hb => born_uniq h3 (by simp [hei]) hj hb⟩
theorem MapAt.entryStore (h : MapAt ek ew w r m) (hi : ∀ a b : κ, ek a = ek b → a = b) {k : κ} {n : Nat} (he : EntAt ek w r k n) (v : ν) :
    ∃ w', (Instr.entryStore T (.map (some r)) (.int .i64 (n : Nat)) (ew v)).run P w = .ok () w' ∧ MapAt ek ew w' r (mset m k v) ∧ Mod (· = r) w w' ∧ w'.heap.size = w.heap.size := by
  obtain ⟨⟨es, c, h1, h2, h3, h4⟩, h5⟩ := h
  obtain ⟨es', c', i, e, g1, g2, g3, g4, g5⟩ := he
  rw [h1] at g1
  cases g1
  have hg : (getObj r).run P w = .ok (.map es c) w := by simp [getObj, Sem.run, h1]
  have hlt := (Array.getElem?_eq_some_iff.1 h1).1
  have hset : ∀ o, (setObj r o).run P w = .ok () (w.putObj r o) := fun o => by simp [setObj, Sem.run, h1, World.putObj]
  have hmod : ∀ o, Mod (· = r) w (w.putObj r o) := fun o => ⟨rfl, rfl, rfl, by simp, fun b _ hb => World.putObj_heap_other hb⟩
  have hlen : es.toList.length = m.length := by have := congrArg List.length h2; simpa using this
  have hil : i < es.toList.length := (List.getElem?_eq_some_iff.1 g2).1
  have hes : es[i]? = some e := by rw [← Array.getElem?_toList]; exact g2
  have hfi : es.findIdx? (fun e => (e.born : Int) == (n : Int)) = some i := by
    rw [Array.findIdx?_eq_some_iff_getElem]
    obtain ⟨h6, h7⟩ := Array.getElem?_eq_some_iff.1 hes
    refine ⟨h6, by simp [h7, g4], fun j hj => ?_⟩
    intro hc
    have h8 : es.toList[j]? = some es[j] := by simp
    have := g5 j es[j] h8 (by have : ((es[j].born : Int)) = n := by simpa using hc
                              omega)
    omega
  have hm : m[i]? = some (k, (m[i]'(by omega)).2) := by
    have := congrArg (fun l => l[i]?) h2
    simp only [List.getElem?_map, g2, Option.map_some, List.getElem?_eq_getElem (show i < m.length by omega), Option.some.injEq, Prod.mk.injEq] at this
    rw [List.getElem?_eq_getElem (show i < m.length by omega)]
    congr 1
    rw [Prod.ext_iff]
    exact ⟨hi _ _ (this.1.symm.trans g3), rfl⟩
  have hget : mget m k = some (m[i]'(by omega)).2 := (kget_iff h5).2 (List.mem_of_getElem? hm)
  refine ⟨w.putObj r (.map (es.modify i fun e => { e with val := ew v }) c), by simp [Instr.entryStore, hg, hfi, hset], ⟨⟨_, c, World.putObj_heap_same hlt, ?_, ?_, ?_⟩, kset_nodup h5 _ _⟩, hmod _, by simp⟩
  · have hs : (mget m k).isSome = true := by rw [hget]; rfl
    simp only [mset, hs, if_true]
    apply List.ext_getElem?
    intro j
    have hj := congrArg (fun l => l[j]?) h2
    simp only [List.getElem?_map, Array.getElem?_toList, Array.getElem?_modify] at hj ⊢
    by_cases e0 : i = j
    · subst e0
      rw [if_pos rfl, hes, hm]
      simp [g3]
    · rw [if_neg e0, hj]
      cases hmj : m[j]? with
      | none => rfl
      | some p =>
        have hne : p.1 ≠ k := by
          intro hpk
          have hjl : j < m.length := (List.getElem?_eq_some_iff.1 hmj).1
          have hpj : m[j] = p := by have := List.getElem?_eq_getElem hjl; rw [hmj] at this; exact (Option.some.inj this).symm
          have hmi' : m[i]'(by omega) = (k, (m[i]'(by omega)).2) := by have := List.getElem?_eq_getElem (show i < m.length by omega); rw [hm] at this; exact (Option.some.inj this).symm
          have hk' : (m[i]'(by omega)).1 = k := by rw [hmi']
          have hnd := List.pairwise_iff_getElem.1 h5
          rcases Nat.lt_or_ge i j with hij | hij
          · exact hnd i j (by simp; omega) (by simpa using hjl) hij (by simp [hk', hpj, hpk])
          · exact hnd j i (by simpa using hjl) (by simp; omega) (by omega) (by simp [hk', hpj, hpk])
        simp [hne]
  · have : (es.modify i fun e => { e with val := ew v }).toList.map (·.born) = es.toList.map (·.born) := by
      apply List.ext_getElem?
      intro j
      simp only [List.getElem?_map, Array.getElem?_toList, Array.getElem?_modify]
      by_cases e : i = j
      · subst e; simp [hes]
      · simp [e]
    rw [this]; exact h3
  · intro x hx
    obtain ⟨j, hj⟩ := List.mem_iff_getElem?.1 hx
    simp only [Array.getElem?_toList, Array.getElem?_modify] at hj
    by_cases e' : i = j
    · subst e'
      rw [if_pos rfl, hes] at hj
      simp at hj
      subst hj
      exact h4 e (List.mem_of_getElem? g2)
    · rw [if_neg e'] at hj
      exact h4 x (List.mem_iff_getElem?.2 ⟨j, by simpa using hj⟩)
end
end Pk
