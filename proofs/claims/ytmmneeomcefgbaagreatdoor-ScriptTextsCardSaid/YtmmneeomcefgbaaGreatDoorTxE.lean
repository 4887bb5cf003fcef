/-
  Contracts of the functions that the law reaches,step by step.
-/
import Derived.Test.YtmmneeomcefgbaaGreatDoorTxC
import Derived.Test.YtmmneeomcefgbaaGreatDoorTxD
namespace Go.Proofs
open Pk
/-! ### The lines one after the other -/
def nx (k : Nat) (pre : List (Nat × Tx)) : Nat := match pre.getLast? with
  | none => k
  | some p => p.1 + 1
theorem nx_cons (k : Nat) (y : Tx) (pre : List (Nat × Tx)) : nx k ((k, y) :: pre) = nx (k + 1) pre := by
  cases pre with
  | nil => rfl
  | cons a l =>
    unfold nx
    rw [List.getLast?_cons_cons]
    cases h : (a :: l).getLast? with
    | none => simp at h
    | some p => rfl
theorem nx_snoc (k : Nat) (x : Nat × Tx) (pre : List (Nat × Tx)) : nx k (pre ++ [x]) = x.1 + 1 := by simp [nx]
theorem lnsF_next : ∀ (l : List Tx) (k : Nat) (pre suf : List (Nat × Tx)) (x : Nat × Tx), pre ++ x :: suf = lnsF k l →
    k ≤ nx k pre ∧ nx k pre ≤ x.1 ∧ x.1 < k + l.length ∧ l[x.1 - k]? = some x.2 ∧ x.2 ≠ [] ∧ ∀ j,nx k pre ≤ j → j < x.1 → l[j - k]? = some []
  | [],_,pre,_,_,h => by cases pre <;> cases h
  | y :: l, k, pre, suf, x, h => by
    rw [lnsF] at h
    by_cases hy : y = []
    · rw [if_pos hy] at h
      obtain ⟨h0,h1,h2,h3,h4,h5⟩ := lnsF_next l (k + 1) pre suf x h
      have hs : ∀ j, k + 1 ≤ j → (y :: l)[j - k]? = l[j - (k + 1)]? := fun j hj => by
        rw [show j - k = (j - (k + 1)) + 1 by omega]; rfl
      have hk : k ≤ nx k pre ∧ nx k pre ≤ nx (k + 1) pre ∧ ∀ j, nx k pre ≤ j → j < nx (k + 1) pre → j = k := by
        cases hp : pre.getLast? with
        | none => simp only [nx,hp]; exact ⟨by omega,by omega,fun j _ _ => by omega⟩
        | some p => simp only [nx,hp] at h0 ⊢; exact ⟨by omega,by omega,fun j _ _ => by omega⟩
      refine ⟨hk.1,by omega,by simp only [List.length_cons]; omega,by rw [hs _ (by omega)]; exact h3,h4,fun j hj1 hj2 => ?_⟩
      rcases Nat.lt_or_ge j (nx (k + 1) pre) with h' | h'
      · have := hk.2.2 j hj1 h'
        subst this
        simp [hy]
      · rw [hs _ (by omega)]; exact h5 j h' hj2
    · rw [if_neg hy] at h
      cases pre with
      | nil =>
        rw [List.nil_append] at h
        cases h
        exact ⟨by simp [nx],by simp [nx],by simp,by simp,hy,fun j h1 h2 => by simp [nx] at h1; simp only at h2; omega⟩
      | cons a pre =>
        rw [List.cons_append] at h
        injection h with h1 h2
        subst h1
        obtain ⟨g0,g1,g2,g3,g4,g5⟩ := lnsF_next l (k + 1) pre suf x h2
        have hs : ∀ j, k + 1 ≤ j → (y :: l)[j - k]? = l[j - (k + 1)]? := fun j hj => by
          rw [show j - k = (j - (k + 1)) + 1 by omega]; rfl
        rw [nx_cons]
        exact ⟨by omega,g1,by simp only [List.length_cons]; omega,by rw [hs _ (by omega)]; exact g3,g4,fun j hj1 hj2 => by rw [hs _ (by omega)]; exact g5 j hj1 hj2⟩
theorem lnsF_len : ∀ (l : List Tx) (k : Nat), (lnsF k l).length ≤ l.length
  | [],_ => by simp [lnsF]
  | y :: l, k => by
    have := lnsF_len l (k + 1)
    rw [lnsF]
    split <;> simp <;> omega
theorem lnsF_end : ∀ (l : List Tx) (k : Nat), k ≤ nx k (lnsF k l) ∧ nx k (lnsF k l) ≤ k + l.length ∧ ∀ j, nx k (lnsF k l) ≤ j → j < k + l.length → l[j - k]? = some []
  | [],k => ⟨by simp [nx,lnsF],by simp [nx,lnsF],fun j h1 h2 => by simp [nx,lnsF] at h1 h2; omega⟩
  | y :: l, k => by
    obtain ⟨h0,h1,h2⟩ := lnsF_end l (k + 1)
    have hs : ∀ j, k + 1 ≤ j → (y :: l)[j - k]? = l[j - (k + 1)]? := fun j hj => by
      rw [show j - k = (j - (k + 1)) + 1 by omega]; rfl
    rw [lnsF]
    by_cases hy : y = []
    · rw [if_pos hy]
      have hk : k ≤ nx k (lnsF (k + 1) l) ∧ nx k (lnsF (k + 1) l) ≤ nx (k + 1) (lnsF (k + 1) l) ∧ ∀ j, nx k (lnsF (k + 1) l) ≤ j → j < nx (k + 1) (lnsF (k + 1) l) → j = k := by
        cases hp : (lnsF (k + 1) l).getLast? with
        | none => simp only [nx,hp]; exact ⟨by omega,by omega,fun j _ _ => by omega⟩
        | some p => simp only [nx,hp] at h0 ⊢; exact ⟨by omega,by omega,fun j _ _ => by omega⟩
      refine ⟨hk.1,by simp only [List.length_cons]; omega,fun j hj1 hj2 => ?_⟩
      simp only [List.length_cons] at hj2
      rcases Nat.lt_or_ge j (nx (k + 1) (lnsF (k + 1) l)) with h' | h'
      · have := hk.2.2 j hj1 h'
        subst this
        simp [hy]
      · rw [hs _ (by omega)]; exact h2 j h' (by omega)
    · rw [if_neg hy,nx_cons]
      refine ⟨by omega,by simp only [List.length_cons]; omega,fun j hj1 hj2 => ?_⟩
      simp only [List.length_cons] at hj2
      rw [hs _ (by omega)]; exact h2 j hj1 (by omega)
end Go.Proofs
