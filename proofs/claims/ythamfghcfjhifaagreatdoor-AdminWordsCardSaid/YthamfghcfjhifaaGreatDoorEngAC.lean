/-
  The engine, part AC: plain facts on rows into which one is laid in its place (insertion).
-/
import Derived.Test.YthamfghcfjhifaaGreatDoorEngAB
namespace Pk
section
variable {α : Type}
/-- A row with one more at a place. -/
def insAt (R : List α) (k : Nat) (d : α) : List α := R.take k ++ d :: R.drop k
theorem insAt_end (R : List α) (d : α) : insAt R R.length d = R ++ [d] := by simp [insAt]
theorem insAt_len {R : List α} {k : Nat} (h : k ≤ R.length) (d : α) : (insAt R k d).length = R.length + 1 := by
  simp [insAt]; omega
theorem insAt_lt {R : List α} {k j : Nat} (h : k ≤ R.length) (d : α) (hj : j < k) : (insAt R k d)[j]? = R[j]? := by
  unfold insAt
  rw [List.getElem?_append_left (by simp; omega), List.getElem?_take_of_lt hj]
theorem insAt_at {R : List α} {k : Nat} (h : k ≤ R.length) (d : α) : (insAt R k d)[k]? = some d := by
  unfold insAt
  rw [List.getElem?_append_right (by simp; omega)]
  have : k - (R.take k).length = 0 := by simp; omega
  rw [this]
  rfl
theorem insAt_set {R : List α} {k : Nat} (h : k ≤ R.length) (d y : α) : (insAt R k d).set k y = insAt R k y := by
  unfold insAt
  rw [List.set_append_right _ _ (by simp; omega)]
  have : k - (R.take k).length = 0 := by simp; omega
  rw [this]
  rfl
theorem insAt_shift {R : List α} {k : Nat} (h : k < R.length) : insAt R (k + 1) R[k] = insAt R k R[k] := by
  unfold insAt
  rw [List.take_succ_eq_append_getElem h, List.append_assoc, List.singleton_append, List.drop_eq_getElem_cons h]
theorem insAt_perm (R : List α) (k : Nat) (x : α) : (insAt R k x).Perm (R ++ [x]) := by
  unfold insAt
  refine List.perm_middle.trans ?_
  rw [List.take_append_drop]
  exact (List.perm_append_comm (l₁ := [x]) (l₂ := R))
theorem insAt_sorted {R : List α} {k : Nat} {x : α} {le : α → α → Prop} (hR : R.Pairwise le) (h1 : ∀ y ∈ R.take k, le y x) (h2 : ∀ y ∈ R.drop k, le x y) : (insAt R k x).Pairwise le := by
  unfold insAt
  have h3 : (R.take k ++ R.drop k).Pairwise le := by rw [List.take_append_drop]; exact hR
  rw [List.pairwise_append] at h3 ⊢
  refine ⟨h3.1, List.pairwise_cons.2 ⟨h2, h3.2.1⟩, fun a ha b hb => ?_⟩
  rcases List.mem_cons.1 hb with rfl | hb
  · exact h1 a ha
  · exact h3.2.2 a ha b hb
/-- Where the one ahead is not greater, none ahead is. -/
theorem take_le {R : List α} {k : Nat} {key : α → Int} (hR : R.Pairwise fun a b => key a ≤ key b) (hk : k < R.length) {x : Int} (h : key R[k] ≤ x) : ∀ y ∈ R.take (k + 1), key y ≤ x := by
  intro y hy
  obtain ⟨j, hj, rfl⟩ := List.getElem_of_mem hy
  rw [List.getElem_take]
  have hj' : j < k + 1 := by simp at hj; omega
  rcases Nat.lt_succ_iff_lt_or_eq.1 hj' with h1 | rfl
  · exact Int.le_trans (List.pairwise_iff_getElem.1 hR j k _ hk h1) h
  · exact h
end
end Pk
