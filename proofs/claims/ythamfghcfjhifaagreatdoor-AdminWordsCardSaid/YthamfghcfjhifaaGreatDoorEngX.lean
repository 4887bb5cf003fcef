/-
  The engine, part X: lists as maps.
-/
import Derived.Test.YthamfghcfjhifaaGreatDoorEngW
namespace Pk
section
variable {κ ν : Type} [DecidableEq κ]
theorem kget_cons (p : κ × ν) (m : List (κ × ν)) (z : κ) : mget (p :: m) z = if p.1 = z then some p.2 else mget m z := by
  unfold mget
  rw [List.find?_cons]
  by_cases h : p.1 = z <;> simp [h]
theorem kget_nil (z : κ) : mget ([] : List (κ × ν)) z = none := rfl
theorem kget_map (k : κ) (v : ν) : ∀ (m : List (κ × ν)) (z : κ), mget (m.map fun p => if p.1 = k then (k, v) else p) z = if z = k then (if (mget m k).isSome then some v else none) else mget m z
  | [], z => by simp [mget]
  | p :: m, z => by
    rw [List.map_cons, kget_cons, kget_map k v m z, kget_cons, kget_cons]
    by_cases h1 : p.1 = k
    · rw [if_pos h1]
      by_cases h2 : z = k
      · subst h2; simp [h1]
      · have h3 : ¬ k = z := fun e => h2 e.symm
        have h4 : ¬ p.1 = z := fun e => h2 (e.symm.trans h1)
        simp [h2, h3, h4]
    · rw [if_neg h1]
      by_cases h2 : z = k
      · subst h2; simp [h1]
      · simp [h2]
theorem kget_append (m : List (κ × ν)) (k : κ) (v : ν) (z : κ) (h : mget m k = none) : mget (m ++ [(k, v)]) z = if z = k then some v else mget m z := by
  induction m with
  | nil => simp [mget, List.find?]; by_cases h : k = z <;> simp [h, eq_comm]
  | cons p m ih =>
    rw [kget_cons] at h
    split at h
    · cases h
    · rename_i hp
      rw [List.cons_append, kget_cons, ih h, kget_cons]
      by_cases h1 : p.1 = z
      · have : ¬ z = k := fun e => hp (h1.trans e)
        simp [h1, this]
      · simp [h1]
theorem kget_mset (m : List (κ × ν)) (k : κ) (v : ν) (z : κ) : mget (mset m k v) z = if z = k then some v else mget m z := by
  unfold mset
  cases h : mget m k with
  | none => simp only [Option.isSome_none, Bool.false_eq_true, if_false]; exact kget_append m k v z h
  | some u =>
    simp only [Option.isSome_some, if_true]
    rw [kget_map, h]; rfl
theorem kset_len (m : List (κ × ν)) (k : κ) (v : ν) : (mset m k v).length = if (mget m k).isSome then m.length else m.length + 1 := by
  unfold mset; split <;> simp
theorem kget_mdel (m : List (κ × ν)) (k z : κ) : mget (mdel m k) z = if z = k then none else mget m z := by
  unfold mdel
  induction m with
  | nil => simp [mget]
  | cons p m ih =>
    rw [List.filter_cons]
    by_cases hp : p.1 = k
    · simp only [hp, ne_eq, not_true_eq_false, decide_false, Bool.false_eq_true, if_false]
      simp only [ne_eq] at ih
      rw [ih, kget_cons]
      by_cases hz : z = k
      · rw [if_pos hz, if_pos hz]
      · rw [if_neg hz, if_neg hz, if_neg (fun e => hz (e.symm.trans hp))]
    · simp only [hp, ne_eq, not_false_eq_true, decide_true, if_true]
      simp only [ne_eq] at ih
      rw [kget_cons, ih, kget_cons]
      by_cases hz : z = k
      · subst hz; rw [if_neg hp]; simp
      · simp [hz]
theorem kget_mem {m : List (κ × ν)} {k : κ} {v : ν} (h : mget m k = some v) : (k, v) ∈ m := by
  unfold mget at h
  rw [Option.map_eq_some_iff] at h
  obtain ⟨q, h1, rfl⟩ := h
  have h2 := List.find?_some h1
  have h3 := List.mem_of_find?_eq_some h1
  simp at h2
  subst h2
  exact h3
theorem kget_none {m : List (κ × ν)} {k : κ} (h : mget m k = none) : ∀ p ∈ m, p.1 ≠ k := by
  intro p hp e
  unfold mget at h
  rw [Option.map_eq_none_iff, List.find?_eq_none] at h
  have := h p hp
  simp at this
  exact this e
theorem kget_iff {m : List (κ × ν)} (h : (m.map (·.1)).Nodup) {k : κ} {v : ν} : mget m k = some v ↔ (k, v) ∈ m := by
  refine ⟨kget_mem, fun hm => ?_⟩
  induction m with
  | nil => cases hm
  | cons p m ih =>
    rw [kget_cons]
    rw [List.map_cons, List.nodup_cons] at h
    rcases List.mem_cons.1 hm with rfl | hm
    · simp
    · have : p.1 ≠ k := fun e => h.1 (e ▸ List.mem_map.2 ⟨(k, v), hm, rfl⟩)
      rw [if_neg this]
      exact ih h.2 hm
theorem kset_keys (m : List (κ × ν)) (k : κ) (v : ν) : (mset m k v).map (·.1) = if (mget m k).isSome then m.map (·.1) else m.map (·.1) ++ [k] := by
  unfold mset
  split
  · rw [List.map_map]
    refine List.map_congr_left fun p _ => ?_
    simp only [Function.comp]
    split
    · rename_i h; exact h.symm
    · rfl
  · simp
theorem kset_nodup {m : List (κ × ν)} (h : (m.map (·.1)).Nodup) (k : κ) (v : ν) : ((mset m k v).map (·.1)).Nodup := by
  rw [kset_keys]
  cases hg : mget m k with
  | some u => simpa using h
  | none =>
    simp only [Option.isSome_none, Bool.false_eq_true, if_false]
    rw [List.nodup_append]
    refine ⟨h, by simp, fun a ha b hb => ?_⟩
    simp at hb
    subst hb
    obtain ⟨p, hp, rfl⟩ := List.mem_map.1 ha
    exact kget_none hg p hp
theorem kdel_nodup {m : List (κ × ν)} (h : (m.map (·.1)).Nodup) (k : κ) : ((mdel m k).map (·.1)).Nodup := h.sublist ((List.filter_sublist).map _)
theorem kdel_none {m : List (κ × ν)} {k : κ} (h : mget m k = none) : mdel m k = m := by
  unfold mdel
  rw [List.filter_eq_self]
  intro p hp
  simpa using kget_none h p hp
theorem kset_mem {m : List (κ × ν)} {k : κ} {v : ν} {p : κ × ν} (h : p ∈ mset m k v) : p = (k, v) ∨ p ∈ m ∧ p.1 ≠ k := by
  unfold mset at h
  split at h
  · obtain ⟨q, hq, rfl⟩ := List.mem_map.1 h
    split
    · exact .inl rfl
    · rename_i hn; exact .inr ⟨hq, hn⟩
  · rename_i hn
    rcases List.mem_append.1 h with h | h
    · right
      refine ⟨h, kget_none (k := k) ?_ p h⟩
      cases hg : mget m k with
      | none => rfl
      | some u => simp [hg] at hn
    · simp at h; exact .inl h
theorem kdel_mem {m : List (κ × ν)} {k : κ} {p : κ × ν} : p ∈ mdel m k ↔ p ∈ m ∧ p.1 ≠ k := by
  unfold mdel
  simp
/-- A value that is written as what was there leaves what is made of the entries. -/
theorem kset_map {β : Type} {m : List (κ × ν)} (hn : (m.map (·.1)).Nodup) {k : κ} {u v : ν} (h : mget m k = some u) (f : κ × ν → β) (hf : f (k, v) = f (k, u)) : (mset m k v).map f = m.map f := by
  unfold mset
  rw [h]
  simp only [Option.isSome_some, if_true]
  rw [List.map_map]
  refine List.map_congr_left fun p hp => ?_
  simp only [Function.comp]
  split
  · rename_i e
    have : mget m p.1 = some p.2 := (kget_iff hn).2 hp
    rw [e, h] at this
    cases this
    rw [hf, ← e]
  · rfl
/-- What is counted over the entries. -/
def tot (g : ν → Nat) (m : List (κ × ν)) : Nat := (m.map (fun p => g p.2)).sum
theorem tot_set (g : ν → Nat) {m : List (κ × ν)} (hn : (m.map (·.1)).Nodup) (k : κ) (v : ν) : tot g (mset m k v) + (match mget m k with | some u => g u | none => 0) = tot g m + g v := by
  cases hg : mget m k with
  | none =>
    unfold mset tot
    rw [hg]
    simp
  | some u =>
    unfold mset tot
    rw [hg]
    simp only [Option.isSome_some, if_true]
    induction m with
    | nil => cases hg
    | cons p m ih =>
      rw [List.map_cons, List.nodup_cons] at hn
      rw [kget_cons] at hg
      simp only [List.map_cons, List.sum_cons]
      by_cases hp : p.1 = k
      · rw [if_pos hp] at hg
        cases hg
        have e : m.map (fun p => if p.1 = k then (k, v) else p) = m := by
          conv => rhs; rw [← List.map_id m]
          refine List.map_congr_left fun q hq => ?_
          rw [if_neg]
          · rfl
          · exact fun e => hn.1 (hp.trans e.symm ▸ List.mem_map.2 ⟨q, hq, rfl⟩)
        rw [e, if_pos hp]
        simp only; omega
      · rw [if_neg hp] at hg ⊢
        have := ih hn.2 hg
        omega
theorem tot_del (g : ν → Nat) {m : List (κ × ν)} (hn : (m.map (·.1)).Nodup) (k : κ) : tot g (mdel m k) + (match mget m k with | some u => g u | none => 0) = tot g m := by
  unfold mdel tot
  induction m with
  | nil => simp [mget]
  | cons p m ih =>
    rw [List.map_cons, List.nodup_cons] at hn
    have ih := ih hn.2
    rw [List.filter_cons, kget_cons]
    by_cases hp : p.1 = k
    · have e : mget m k = none := by
        cases hg : mget m k with
        | none => rfl
        | some u => exact (hn.1 (hp ▸ List.mem_map.2 ⟨_, kget_mem hg, rfl⟩)).elim
      rw [e] at ih
      simp only [hp, ne_eq, not_true_eq_false, decide_false, Bool.false_eq_true, if_false, if_true, List.map_cons, List.sum_cons]
      simp only [ne_eq] at ih
      omega
    · simp only [hp, ne_eq, not_false_eq_true, decide_true, if_true, if_false, List.map_cons, List.sum_cons]
      simp only [ne_eq] at ih
      omega
theorem kdel_len {m : List (κ × ν)} (hn : (m.map (·.1)).Nodup) (k : κ) : (mdel m k).length + (if (mget m k).isSome then 1 else 0) = m.length := by
  have := tot_del (fun _ => 1) hn k
  unfold tot at this
  have e : ∀ l : List (κ × ν), (l.map (fun _ => 1)).sum = l.length := by intro l; induction l with
    | nil => rfl
    | cons a l ih => simp [ih]; omega
  rw [e, e] at this
  rw [← this]
  cases mget m k <;> simp
end
open Go
theorem cell_setCell (w : World) (b i b' j : Nat) (v : Value) : (w.setCell ⟨b, i, none⟩ v).cell? ⟨b', j, none⟩ = if b' = b ∧ j = i then (w.cell? ⟨b, i, none⟩).map (fun _ => v) else w.cell? ⟨b', j, none⟩ := by
  by_cases h : b' = b ∧ j = i
  · obtain ⟨rfl, rfl⟩ := h
    rw [if_pos ⟨rfl, rfl⟩]
    cases hc : w.cell? ⟨b', j, none⟩ with
    | some u => exact World.cell?_setCell_same _ _ _ hc
    | none =>
      unfold World.cell? at hc ⊢
      unfold World.setCell
      simp only [Array.getElem?_modify, if_true]
      cases ho : w.heap[b']? with
      | none => simp
      | some o =>
        rw [ho] at hc
        cases o <;> simp_all
  · rw [if_neg h]
    exact World.cell?_setCell_other _ _ _ _ (by simp only [ne_eq, Addr.mk.injEq, and_true]; exact fun e => h ⟨e.1.symm, e.2.symm⟩)
end Pk
