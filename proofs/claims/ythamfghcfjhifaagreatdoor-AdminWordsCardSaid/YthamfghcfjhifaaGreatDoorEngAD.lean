/-
  The engine, part AD: maps that are compared.
-/
import Derived.Test.YthamfghcfjhifaaGreatDoorEngW
import Derived.Test.YthamfghcfjhifaaGreatDoorEngAB
namespace Pk
open Go
section
variable {κ ν : Type} [DecidableEq κ]
/-- The same keys with the same values. -/
def eqv (m m' : List (κ × ν)) : Prop := m.length = m'.length ∧ ∀ p ∈ m, mget m' p.1 = some p.2
instance [DecidableEq ν] (m m' : List (κ × ν)) : Decidable (eqv m m') := inferInstanceAs (Decidable (_ ∧ _))
theorem eqv_of {m m' : List (κ × ν)} (h : m.length = m'.length) (idxs : List Nat) (hp : idxs.Perm (List.range m.length)) (hi : ∀ i ∈ idxs, ∀ p, m[i]? = some p → mget m' p.1 = some p.2) : eqv m m' := by
  refine ⟨h, fun p hpm => ?_⟩
  obtain ⟨i, hi'⟩ := List.mem_iff_getElem?.1 hpm
  have hlt := (List.getElem?_eq_some_iff.1 hi').1
  exact hi i (hp.mem_iff.2 (by simpa using hlt)) p hi'
theorem mget_mem {m : List (κ × ν)} {k : κ} {x : ν} (h : mget m k = some x) : (k, x) ∈ m := by
  unfold mget at h
  obtain ⟨p, hp, rfl⟩ := Option.map_eq_some_iff.1 h
  have h1 := List.mem_of_find?_eq_some hp
  have h2 : p.1 = k := by simpa using List.find?_some hp
  rw [← h2]; exact h1
theorem mget_of_mem {m : List (κ × ν)} (hn : (m.map (·.1)).Nodup) {k : κ} {x : ν} (h : (k, x) ∈ m) : mget m k = some x := by
  induction m with
  | nil => simp at h
  | cons q m ih =>
    simp only [List.map_cons, List.nodup_cons] at hn
    unfold mget
    rw [List.find?_cons]
    by_cases hq : q.1 = k
    · rcases List.mem_cons.1 h with rfl | h
      · simp
      · exact absurd (List.mem_map.2 ⟨_, h, rfl⟩) (hq ▸ hn.1)
    · rcases List.mem_cons.1 h with rfl | h
      · exact absurd rfl hq
      · simp only [hq, decide_false]
        exact ih hn.2 h
theorem mget_iff {m : List (κ × ν)} (hn : (m.map (·.1)).Nodup) {k : κ} {x : ν} : mget m k = some x ↔ (k, x) ∈ m := ⟨mget_mem, mget_of_mem hn⟩
theorem nodup_sub_le {α : Type} [DecidableEq α] : ∀ (m m' : List α), m.Nodup → (∀ x ∈ m, x ∈ m') → m.length ≤ m'.length
  | [], _, _, _ => Nat.zero_le _
  | x :: m, m', hn, hs => by
    obtain ⟨h1, h2⟩ := List.nodup_cons.1 hn
    have hx := hs x (by simp)
    have := nodup_sub_le m (m'.erase x) h2 fun y hy => (List.mem_erase_of_ne (fun e => h1 (by rw [← e]; exact hy))).2 (hs y (by simp [hy]))
    rw [List.length_erase_of_mem hx] at this
    have h0 : 0 < m'.length := List.length_pos_of_mem hx
    simp only [List.length_cons]
    omega
theorem nodup_sub {α : Type} [DecidableEq α] {m m' : List α} (hn : m.Nodup) (hs : ∀ x ∈ m, x ∈ m') (hl : m'.length ≤ m.length) : ∀ y ∈ m', y ∈ m := fun y hy => by
  by_cases h : y ∈ m
  · exact h
  · have := nodup_sub_le (y :: m) m' (List.nodup_cons.2 ⟨h, hn⟩) (fun x hx => by
      rcases List.mem_cons.1 hx with rfl | hx
      · exact hy
      · exact hs x hx)
    simp only [List.length_cons] at this
    omega
/-- Maps that are the same tell the same of each key. -/
theorem eqv_iff [DecidableEq ν] {m m' : List (κ × ν)} (hn : (m.map (·.1)).Nodup) (hn' : (m'.map (·.1)).Nodup) : eqv m m' ↔ ∀ k, mget m k = mget m' k := by
  constructor
  · rintro ⟨hl, h⟩ k
    have hsub : ∀ p ∈ m, p ∈ m' := fun p hp => mget_mem (h p hp)
    have hnd : m.Nodup := (List.nodup_iff_pairwise_ne.2 ((List.pairwise_map.1 hn).imp fun h e => h (by rw [e])))
    have hback := nodup_sub hnd hsub (by omega)
    cases hx : mget m k with
    | some x => exact (h _ (mget_mem hx)).symm
    | none =>
      cases hy : mget m' k with
      | none => rfl
      | some y =>
        have := mget_of_mem hn (hback _ (mget_mem hy))
        rw [hx] at this; cases this
  · intro h
    have hsub : ∀ p ∈ m, p ∈ m' := fun p hp => mget_mem ((h p.1).symm.trans (mget_of_mem hn hp))
    have hsub' : ∀ p ∈ m', p ∈ m := fun p hp => mget_mem ((h p.1).trans (mget_of_mem hn' hp))
    have hnd : m.Nodup := (List.nodup_iff_pairwise_ne.2 ((List.pairwise_map.1 hn).imp fun h e => h (by rw [e])))
    have hnd' : m'.Nodup := (List.nodup_iff_pairwise_ne.2 ((List.pairwise_map.1 hn').imp fun h e => h (by rw [e])))
    refine ⟨Nat.le_antisymm (nodup_sub_le _ _ hnd hsub) (nodup_sub_le _ _ hnd' hsub'), fun p hp => (h p.1).symm.trans (mget_of_mem hn hp)⟩
end
end Pk
