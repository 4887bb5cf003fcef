/-
  Contracts of the functions that the law reaches, step by step.
-/
import Derived.Test.YtigdaggjbnnjgaaSpH
namespace Go.Proofs
open Pk
set_option maxRecDepth 10000
/-! ### The plain law -/
theorem lk_same {ks : List Int} {c a : Int} (h : c ≤ a) (h2 : ∀ k, lk a ks = some k → k ≤ c) : lk c ks = lk a ks := by
  refine isLast.uniq (lk_last c ks) ?_
  have h1 := lk_last a ks
  cases ho : lk a ks with
  | none =>
    rw [ho] at h1
    intro k hk
    have := h1 k hk; omega
  | some x =>
    rw [ho] at h1
    exact ⟨h1.1, h2 x ho, fun k hk hkc => h1.2.2 k hk (by omega)⟩
theorem tk_same {m : ML} {c a : Int} (h : c ≤ a) (h2 : ∀ k, lk a (m.map (·.1)) = some k → k ≤ c) : tk m c = tk m a := by
  unfold tk
  rw [lk_same h h2]
theorem addT_mono {a b n : Int} (h : a ≤ b) : addT a n ≤ addT b n := by unfold addT top; omega
theorem lnd_mono {m : ML} {c a : Int} (h : c ≤ a) (h2 : ∀ k, lk a (m.map (·.1)) = some k → k ≤ c) : lnd m c ≤ lnd m a := by
  unfold lnd
  rw [tk_same h h2]
  exact addT_mono h
/-- What has been gone over has a best one. -/
structure BestOf (m : ML) (s : Sp2) (ks : List Int) (b : Int) : Prop where
  mem : b = s.from' ∨ (b ∈ ks ∧ inS s b = true)
  lef : lnd m b ≤ lnd m s.from'
  lek : ∀ k ∈ ks, inS s k = true → lnd m b ≤ lnd m k
  tie : ∀ k ∈ ks, inS s k = true → lnd m k = lnd m b → b ≤ k
  tief : lnd m s.from' = lnd m b → b ≤ s.from'
theorem inS_from {s : Sp2} {k : Int} (h : inS s k = true) : s.from' ≤ k := by
  unfold inS at h
  simp only [Bool.and_eq_true, decide_eq_true_eq] at h
  exact h.2.1
theorem bst_best {m : ML} {s : Sp2} : ∀ (ks pre : List Int) (b : Int), (pre ++ ks).Pairwise (· ≤ ·) → BestOf m s pre b → BestOf m s (pre ++ ks) (bst m s b ks)
  | [], pre, b, _, h => by simpa [bst] using h
  | k :: ks, pre, b, hs, h => by
    have e : pre ++ k :: ks = (pre ++ [k]) ++ ks := by simp
    rw [e] at hs ⊢
    unfold bst
    refine bst_best ks (pre ++ [k]) _ hs ?_
    have hpk : ∀ x ∈ pre, x ≤ k := by
      intro x hx
      have := (List.pairwise_append.1 (List.pairwise_append.1 hs).1).2.2 x hx k (by simp)
      exact this
    cases hi : inS s k with
    | false =>
      simp only [Bool.false_and, Bool.false_eq_true, if_false]
      refine ⟨?_, h.lef, ?_, ?_, h.tief⟩
      · rcases h.mem with h1 | h1
        · exact .inl h1
        · exact .inr ⟨by simp [h1.1], h1.2⟩
      · intro x hx hxi
        rcases List.mem_append.1 hx with hx | hx
        · exact h.lek x hx hxi
        · simp at hx; subst hx; rw [hi] at hxi; cases hxi
      · intro x hx hxi
        rcases List.mem_append.1 hx with hx | hx
        · exact h.tie x hx hxi
        · simp at hx; subst hx; rw [hi] at hxi; cases hxi
    | true =>
      have hfk := inS_from hi
      by_cases hl : lnd m k < lnd m b
      · simp only [Bool.true_and, decide_eq_true_eq, hl, if_true]
        refine ⟨.inr ⟨by simp, hi⟩, by have := h.lef; omega, ?_, ?_, fun e => by have := h.lef; omega⟩
        · intro x hx hxi
          rcases List.mem_append.1 hx with hx | hx
          · have := h.lek x hx hxi; omega
          · simp at hx; subst hx; exact Int.le_refl _
        · intro x hx hxi he
          rcases List.mem_append.1 hx with hx | hx
          · have := h.lek x hx hxi; omega
          · simp at hx; subst hx; exact Int.le_refl _
      · simp only [Bool.true_and, decide_eq_true_eq, hl, if_false]
        have hbk : b ≤ k := by
          rcases h.mem with h1 | h1
          · omega
          · exact hpk b h1.1
        refine ⟨?_, h.lef, ?_, ?_, h.tief⟩
        · rcases h.mem with h1 | h1
          · exact .inl h1
          · exact .inr ⟨by simp [h1.1], h1.2⟩
        · intro x hx hxi
          rcases List.mem_append.1 hx with hx | hx
          · exact h.lek x hx hxi
          · simp at hx; subst hx; omega
        · intro x hx hxi he
          rcases List.mem_append.1 hx with hx | hx
          · exact h.tie x hx hxi he
          · simp at hx; subst hx; exact hbk
theorem best_holds {m : ML} {s : Sp2} {ys : List Int} (hy : isKeys m ys) {a : Int} (ha : inS s a = true) :
    ¬ (lnd m a < lnd m (bst m s s.from' ys) ∨ lnd m a = lnd m (bst m s s.from' ys) ∧ a < bst m s s.from' ys) := by
  have hB : BestOf m s ys (bst m s s.from' ys) := by
    have := bst_best (m := m) (s := s) ys [] s.from' (by simpa using hy.2) ⟨.inl rfl, Int.le_refl _, by simp, by simp, fun _ => Int.le_refl _⟩
    simpa using this
  have hfa := inS_from ha
  have hgen : ∀ c, c ≤ a → (c = s.from' ∨ (c ∈ ys ∧ inS s c = true)) → lnd m c ≤ lnd m a → ¬ (lnd m a < lnd m (bst m s s.from' ys) ∨ lnd m a = lnd m (bst m s s.from' ys) ∧ a < bst m s s.from' ys) := by
    intro c hca hc hl
    rcases hc with rfl | ⟨h1, h2⟩
    · have := hB.lef
      rintro (h | ⟨h, h'⟩)
      · omega
      · have := hB.tief (by omega); omega
    · have := hB.lek c h1 h2
      rintro (h | ⟨h, h'⟩)
      · omega
      · have := hB.tie c h1 h2 (by omega); omega
  cases ho : lk a (m.map (·.1)) with
  | none => exact hgen s.from' hfa (.inl rfl) (lnd_mono hfa fun k hk => by rw [ho] at hk; cases hk)
  | some k =>
    have hlast := lk_last a (m.map (·.1))
    rw [ho] at hlast
    by_cases hk : s.from' ≤ k
    · refine hgen k hlast.2.1 (.inr ⟨hy.1.mem_iff.2 hlast.1, ?_⟩) (lnd_mono hlast.2.1 fun k' hk' => by rw [ho] at hk'; cases hk'; exact Int.le_refl _)
      unfold inS at ha ⊢
      simp only [Bool.and_eq_true, decide_eq_true_eq] at ha ⊢
      have := hlast.2.1
      exact ⟨ha.1, hk, by omega⟩
    · exact hgen s.from' hfa (.inl rfl) (lnd_mono hfa fun k' hk' => by rw [ho] at hk'; cases hk'; omega)
/-- Between the same steps. -/
theorem later_holds {m : ML} {a b : Int} (hab : a ≤ b) (hn : 0 ≤ tk m b) (hno : ∀ k ∈ m.map (·.1), ¬ (a < k ∧ k ≤ b)) :
    lnd m a ≤ lnd m b ∧ (a = b ∨ lnd m a < lnd m b ∨ lnd m b = 4611686018427387903) := by
  have h2 : ∀ k, lk b (m.map (·.1)) = some k → k ≤ a := by
    intro k hk
    have := lk_last b (m.map (·.1))
    rw [hk] at this
    have h3 := hno k this.1
    have := this.2.1
    omega
  refine ⟨lnd_mono hab h2, ?_⟩
  unfold lnd
  rw [tk_same hab h2]
  unfold addT top
  omega
end Go.Proofs
