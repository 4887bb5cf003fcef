/-
  Contracts of the functions that the law reaches, step by step.
-/
import Derived.Test.YtjagbfaklckagaaGreatBdH
namespace Go.Proofs
open Pk
set_option maxRecDepth 10000
/-! ### Filling the board -/
section
variable {κ ν : Type} [DecidableEq κ]
theorem mget_out {m : List (κ × ν)} {k : κ} (h : ∀ x ∈ m, x.1 ≠ k) : mget m k = none := by
  cases hg : mget m k with
  | none => rfl
  | some v => exact absurd rfl (h _ (kget_mem hg))
theorem mset_out {m : List (κ × ν)} {k : κ} (h : ∀ x ∈ m, x.1 ≠ k) (v : ν) : mset m k v = m ++ [(k, v)] := by
  unfold mset
  rw [mget_out h]
  rfl
theorem mdel_mset {m : List (κ × ν)} {k : κ} (h : ∀ x ∈ m, x.1 ≠ k) (v : ν) : mdel (mset m k v) k = m := by
  rw [mset_out h]
  unfold mdel
  rw [List.filter_append, List.filter_eq_self.2 (fun x hx => by simpa using h x hx)]
  simp
end
def Full0 (b : Bd) (i : Nat) : Prop := b.Q.length = min i 256 ∧ ∀ x ∈ b.Q, x.1.1 ≤ i
def Full1 (b : Bd) (i : Nat) : Prop := b.A.length = min i 256 ∧ (∀ x ∈ b.A, x.1.1 ≤ i) ∧ b.Q.length ≤ i - 256 ∧ (∀ x ∈ b.Q, x.1.1 ≤ i) ∧ QOk b ∧ b.n = i
def Full2 (b : Bd) (i : Nat) : Prop := b.F.length = min i 256 ∧ ∀ x ∈ b.F, x.1.2 < i
def fullE (i : Nat) : Int := if i < 256 then 0 else 330
theorem full_step0 {b : Bd} {i : Nat} (h : Full0 b i) : askR b (i + 1) 2 3 = fullE i ∧ Full0 (askB b (i + 1) 2 3) (i + 1) := by
  have hout : ∀ x ∈ b.Q, x.1 ≠ ((i : Int) + 1, 2) := fun x hx e => by have := h.2 x hx; rw [e] at this; simp only at this; omega
  have hR : askR b (i + 1) 2 3 = fullE i := by
    unfold askR fullE
    rw [if_neg (by omega), mget_out hout, h.1]
    simp only [Option.isSome_none, Bool.false_eq_true, if_false]
    by_cases hi : i < 256
    · rw [if_neg (by omega), if_pos hi]
    · rw [if_pos (by omega), if_neg hi]
  refine ⟨hR, ?_⟩
  unfold askB
  rw [hR]
  by_cases hi : i < 256
  · rw [if_pos (by simp [fullE, hi])]
    unfold Full0
    rw [mset_out hout]
    refine ⟨by simp [h.1]; omega, fun x hx => ?_⟩
    rcases List.mem_append.1 hx with hx | hx
    · have := h.2 x hx; omega
    · simp at hx; subst hx; simp
  · rw [if_neg (by simp [fullE, hi])]
    exact ⟨by rw [h.1]; omega, fun x hx => by have := h.2 x hx; omega⟩
def rT (i n : Int) : Rec := ⟨3, 0, 0, 0, 0, 0, 0, 0, n, i + 1, 2, false, 0, 9, 0⟩
def rF' (i : Int) : Rec := ⟨4, 0, 0, 0, 0, 0, 0, 0, 0, 5, 0, false, i, i + 9, 0⟩
theorem rT_ok {i : Nat} (hi : i ≤ 300) : RecOk (rT i i) := by constructor <;> simp [rT] <;> omega
theorem rF_ok {i : Nat} (hi : i ≤ 300) : RecOk (rF' i) := by constructor <;> simp [rF'] <;> omega
theorem rT_e {i : Nat} (hi : i ≤ 300) : tellE (rT i i) = 0 := by
  unfold tellE chk
  have h1 : 0 < min (rT i i).node (rT i i).reg := show 0 < min ((i : Int) + 1) 2 by omega
  rw [if_pos (decide_eq_true h1), if_neg (by simp [rT]; omega), if_pos (by simp [timesOk, rT]), if_pos (by simp [tellB, rT, rec0])]
theorem rF_e {i : Nat} (hi : i ≤ 300) : foreE (rF' i) = 0 := by
  unfold foreE chk
  have h1 : (rF' i).fro ≤ (rF' i).til := show (i : Int) ≤ i + 9 by omega
  have h2 : (rF' i).til ≤ 4611686018427387903 := show (i : Int) + 9 ≤ 4611686018427387903 by omega
  rw [if_pos (by unfold foreF spnOk; rw [decide_eq_true h1, decide_eq_true h2]; rfl), if_neg (by simp [rF']), if_pos (by simp [timesOk, rF']; omega), if_pos (by simp [foreB, rF', rec0])]
theorem full_step1 {b : Bd} {i : Nat} (h : Full1 b i) (hi : i ≤ 300) : askR b (i + 1) 2 3 = 0 ∧ QOk (askB b (i + 1) 2 3) ∧ ansR (askB b (i + 1) 2 3) (rT i i) = fullE i ∧ Full1 (ansB (askB b (i + 1) 2 3) (rT i i)) (i + 1) := by
  obtain ⟨h1, h2, h3, h4, h5, h6⟩ := h
  have hout : ∀ x ∈ b.Q, x.1 ≠ ((i : Int) + 1, 2) := fun x hx e => by have := h4 x hx; rw [e] at this; simp only at this; omega
  have houtA : ∀ x ∈ b.A, x.1 ≠ ((i : Int) + 1, 2) := fun x hx e => by have := h2 x hx; rw [e] at this; simp only at this; omega
  have hR : askR b (i + 1) 2 3 = 0 := by
    unfold askR
    rw [if_neg (by omega), mget_out hout]
    simp only [Option.isSome_none, Bool.false_eq_true, if_false]
    rw [if_neg (by omega)]
  have hw : IntKind.u32.wrap ((i : Int) + 1) = i + 1 := wrap32u _ (by omega) (by omega)
  have hB : askB b (i + 1) 2 3 = { b with Q := mset b.Q ((i : Int) + 1, 2) ((i : Int), 3), n := (i : Int) + 1 } := by
    unfold askB
    rw [if_pos hR, h6, hw]
  have hqs : ∀ x ∈ mset b.Q ((i : Int) + 1, 2) ((i : Int), 3), x.1.1 ≤ (i : Int) + 1 ∧ 0 ≤ x.2.1 ∧ x.2.1 ≤ 4294967295 := by
    rw [mset_out hout]
    intro x hx
    rcases List.mem_append.1 hx with hx | hx
    · have := h4 x hx; have := h5 x hx; omega
    · simp at hx; subst hx; simp; omega
  have hE : ansR (askB b (i + 1) 2 3) (rT i i) = fullE i := by
    rw [hB]
    unfold ansR
    rw [if_neg (by rw [rT_e hi]; simp [rT])]
    have hn : noQ { b with Q := mset b.Q ((i : Int) + 1, 2) ((i : Int), 3), n := (i : Int) + 1 } (rT i i) = false := by
      simp [noQ, rT, kget_mset]
    rw [hn]
    simp only [Bool.false_eq_true, if_false, fullB, rT, mget_out houtA, h1]
    unfold fullE
    by_cases hi : i < 256
    · rw [if_pos hi, if_neg (by simp; omega)]
    · rw [if_neg hi, if_pos (by simp; omega)]
  refine ⟨hR, ?_, hE, ?_⟩
  · rw [hB]
    exact fun x hx => (hqs x hx).2
  · unfold ansB
    rw [hE, hB]
    by_cases hi : i < 256
    · rw [if_pos (by simp [fullE, hi])]
      unfold Full1
      simp only [rT]
      rw [mdel_mset hout, mset_out houtA]
      refine ⟨by simp [h1]; omega, fun x hx => ?_, by omega, fun x hx => by have := h4 x hx; omega, h5, by simp⟩
      rcases List.mem_append.1 hx with hx | hx
      · have := h2 x hx; omega
      · simp at hx; subst hx; simp
    · rw [if_neg (by simp [fullE, hi])]
      refine ⟨by simp only [h1]; omega, fun x hx => by have := h2 x hx; omega, ?_, fun x hx => by have := (hqs x hx).1; omega, fun x hx => (hqs x hx).2, by simp⟩
      simp only [mset_out hout, List.length_append, List.length_singleton]
      omega
theorem full_step2 {b : Bd} {i : Nat} (h : Full2 b i) (hi : i ≤ 300) : foreR b (rF' i) = fullE i ∧ Full2 (foreBd b (rF' i)) (i + 1) := by
  have hout : ∀ x ∈ b.F, x.1 ≠ (5, (i : Int)) := fun x hx e => by have := h.2 x hx; rw [e] at this; simp only at this; omega
  have hR : foreR b (rF' i) = fullE i := by
    unfold foreR
    rw [if_neg (by rw [rF_e hi]; simp [rF']), if_neg (by simp only [rF']; omega)]
    simp only [fullB, rF', mget_out hout, h.1]
    unfold fullE
    by_cases hi : i < 256
    · rw [if_pos hi, if_neg (by simp; omega)]
    · rw [if_neg hi, if_pos (by simp; omega)]
  refine ⟨hR, ?_⟩
  unfold foreBd
  rw [hR]
  by_cases hi : i < 256
  · rw [if_pos (by simp [fullE, hi])]
    unfold Full2
    simp only [rF']
    rw [mset_out hout]
    refine ⟨by simp [h.1]; omega, fun x hx => ?_⟩
    rcases List.mem_append.1 hx with hx | hx
    · have := h.2 x hx; omega
    · simp at hx; subst hx; simp only; omega
  · rw [if_neg (by simp [fullE, hi])]
    exact ⟨by rw [h.1]; omega, fun x hx => by have := h.2 x hx; omega⟩
end Go.Proofs
