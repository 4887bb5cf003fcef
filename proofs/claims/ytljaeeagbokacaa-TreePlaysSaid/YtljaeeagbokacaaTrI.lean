/-
  Contracts of the functions that the law reaches, step by step.
-/
import Derived.Test.YtljaeeagbokacaaTrH
namespace Go.Proofs
open Pk
set_option maxRecDepth 10000
def linB (m : ML) : List Int → Int → Bool
  | [], x => x == 0
  | y :: l, x => x != 0 && (x == y && linB m l ((mget m x).getD 0))
theorem linB_lin {m : ML} : ∀ {l : List Int} {x : Int}, linB m l x = true → Lin m x l
  | [], x, h => by
    have : x = 0 := by simpa [linB] using h
    subst this; exact .top
  | y :: l, x, h => by
    simp only [linB, Bool.and_eq_true, bne_iff_ne, beq_iff_eq] at h
    obtain ⟨h1, rfl, h2⟩ := h
    exact .on h1 (linB_lin h2)
def cm (i : Nat) : ML := (List.range i).map fun (j : Nat) => ((j : Int) + 2, (j : Int) + 1)
def dn (n : Nat) : List Int := (List.range n).map fun (j : Nat) => (n : Int) - (j : Int)
def lnOf (i : Nat) : List Int := if i ≤ 64 then dn (i + 1) else [(i : Int) + 1]
theorem full1 : ∀ i, i < 67 → linB (cm (min i 64)) (lnOf i) ((i : Int) + 1) = true ∧ setE (cm (min i 64)) (lnOf i) ((i : Int) + 2) ((i : Int) + 1) = (if i < 64 then 0 else 321) ∧
    (if i < 64 then mset (cm (min i 64)) ((i : Int) + 2) ((i : Int) + 1) else cm (min i 64)) = cm (min (i + 1) 64) := by decide +kernel
def cm2 (n : Nat) : ML := mset (cm n) 2 100
def ln2 (n : Nat) : List Int := dn (n + 1) |>.take n |>.append [100]
theorem full2 : ∀ n, 61 ≤ n → n ≤ 64 → linB (cm n) [100] 100 = true ∧ setE (cm n) [100] 2 100 = 0 ∧ linB (cm2 n) (ln2 n) ((n : Int) + 1) = true ∧ setE (cm2 n) (ln2 n) 100 ((n : Int) + 1) = 320 ∧ (cm2 n).length = n ∧ (ln2 n).length = n + 1 ∧ (cm n).length = n := by
  have : ∀ k, k < 4 → linB (cm (61 + k)) [100] 100 = true ∧ setE (cm (61 + k)) [100] 2 100 = 0 ∧ linB (cm2 (61 + k)) (ln2 (61 + k)) (((61 + k : Nat) : Int) + 1) = true ∧ setE (cm2 (61 + k)) (ln2 (61 + k)) 100 (((61 + k : Nat) : Int) + 1) = 320 ∧ (cm2 (61 + k)).length = 61 + k ∧ (ln2 (61 + k)).length = 61 + k + 1 ∧ (cm (61 + k)).length = 61 + k := by decide +kernel
  intro n h1 h2
  have := this (n - 61) (by omega)
  have e : 61 + (n - 61) = n := by omega
  rw [e] at this
  exact this
theorem TreeFull_c (many : Int) (w : World) : FN Try.prog 4 [.int .i64 many] w fun e w' => e = .returned (.bool true) ∧ Ext w w' := by
  refine FN_enter Try.func4 rfl rfl (by kernel_rfl) ?_
  by_cases h1 : many < 61
  · simp [h1]
    refine FN.mono (works_c w) ?_
    rintro _ w1 ⟨rfl, hE⟩
    simp
    exact hE
  · by_cases h2 : 67 < many
    · simp [h1, h2]
      refine FN.mono (works_c w) ?_
      rintro _ w1 ⟨rfl, hE⟩
      simp
      exact hE
    · obtain ⟨n, rfl⟩ := Int.eq_ofNat_of_zero_le (a := many) (by omega)
      simp [h1, h2]
      refine FN.mono (new_c w) ?_
      rintro _ w1 ⟨t, r, rfl, ht, hE, hlt, hlr⟩
      simp
      have hS : ∀ {w' : World} (w0 : World), Ext w w0 → Mod (· = r) w0 w' → Ext w w' := fun w0 h1 h2 => ((h1.mod (S := fun k => w.heap.size ≤ k)).trans (h2.weaken fun i hi => by omega)).ext fun _ h => h
      refine WC_loop (fun k ρ ds w' => ∃ i : Nat, k = n - i ∧ i ≤ n ∧ ρ 0 = .int .i64 n ∧ ρ 3 = ptr t ∧ ρ 4 = .int .i64 i ∧ ds = [] ∧ TreeAt w' t r (cm (min i 64)) ∧ Ext w w') n ⟨0, rfl, Nat.zero_le _, by simp, by simp, by simp, rfl, ht, hE⟩ ?_
      rintro k ρ ds w2 ⟨i, rfl, hi, e0, e3, e4, rfl, ht, hE⟩
      have hn61 : 61 ≤ n := by omega
      have hn67 : n ≤ 67 := by omega
      by_cases hlt : i < n
      · obtain ⟨f1, f2, f3⟩ := full1 i (by omega)
        simp [e0, e3, e4, hlt]
        rw [wrap64 _ (by omega) (by omega), wrap64 _ (by omega) (by omega), wrap32u _ (by omega) (by omega), wrap32u _ (by omega) (by omega)]
        refine FN.mono (set_c ht (linB_lin f1) (by simp [cm]; omega)) ?_
        rintro _ w3 ⟨rfl, ht3, hM3⟩
        rw [f2] at ht3 ⊢
        have hE3 := hS _ hE hM3
        have fin : ∃ m' < n - i, ∃ i_1 : Nat, m' = n - i_1 ∧ i_1 ≤ n ∧ IntKind.i64.wrap ((i : Int) + 1) = (i_1 : Int) ∧ TreeAt w3 t r (cm (min i_1 64)) ∧ Ext w w3 := by
          refine ⟨n - (i + 1), by omega, i + 1, rfl, by omega, ?_, ?_, hE3⟩
          · rw [wrap64 _ (by omega) (by omega)]; rfl
          · rw [← f3]
            by_cases h64 : i < 64 <;> simp [h64] at ht3 ⊢ <;> exact ht3
        by_cases h64 : i < 64
        · have b1 : decide ((i : Int) < 64) = true := by simp; omega
          have b2 : decide ((64 : Int) ≤ (i : Int)) = false := by simp; omega
          simp [h64, b1, e4]
          refine num_c _ _ _ ?_
          simp [b2, e0, e3, e4]
          exact fin
        · have b1 : decide ((i : Int) < 64) = false := by simp; omega
          have b2 : decide ((64 : Int) ≤ (i : Int)) = true := by simp; omega
          simp [h64, b1, b2, e4]
          refine num_c _ _ _ ?_
          simp [e0, e3, e4]
          exact fin
      · have hin : i = n := by omega
        subst hin
        obtain ⟨g, hg⟩ : ∃ g, g = min i 64 := ⟨_, rfl⟩
        have hgi : min (i : Int) 64 = (g : Int) := by omega
        rw [← hg] at ht
        obtain ⟨q1, q2, q3, q4, q5, q6, q7⟩ := full2 g (by omega) (by omega)
        simp [e0, e3, e4, hgi]
        refine FN.mono (set_c (x := 2) (y := 100) ht (linB_lin q1) (by omega)) ?_
        rintro _ w3 ⟨rfl, ht3, hM3⟩
        rw [q2] at ht3 ⊢
        rw [if_pos rfl] at ht3
        have hE3 := hS _ hE hM3
        simp
        refine num_c _ _ _ ?_
        simp [e3]
        rw [wrap64 _ (by omega) (by omega), wrap32u _ (by omega) (by omega)]
        refine FN.mono (set_c (x := 100) (y := (g : Int) + 1) ht3 (linB_lin q3) (by have : (cm2 g).length = g := q5; unfold cm2 at this; omega)) ?_
        rintro _ w4 ⟨rfl, ht4, hM4⟩
        have q4' : setE (mset (cm g) 2 100) (ln2 g) 100 ((g : Int) + 1) = 320 := q4
        rw [q4', if_neg (by decide)] at ht4
        rw [q4']
        have hE4 := hS _ hE3 hM4
        simp
        refine num_c _ _ _ ?_
        simp [e3]
        refine FN.mono (len_c ht4) ?_
        rintro _ _ ⟨rfl, rfl⟩
        have q5' : (mset (cm g) 2 100).length = g := q5
        simp [q5', e3]
        rw [wrap64 _ (by omega) (by omega), wrap32u _ (by omega) (by omega)]
        refine FN.mono (depth_c ht4 (linB_lin q3) (by omega)) ?_
        rintro _ w6 ⟨rfl, hE6⟩
        rw [q6]
        simp
        refine FN.mono (works_c w6) ?_
        rintro _ w7 ⟨rfl, hE7⟩
        simp
        exact (hE4.trans hE6).trans hE7
end Go.Proofs
