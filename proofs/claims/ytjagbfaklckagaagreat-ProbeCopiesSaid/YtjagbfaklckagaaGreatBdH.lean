/-
  Contracts of the functions that the law reaches, step by step.
-/
import Derived.Test.YtjagbfaklckagaaGreatBdD
import Derived.Test.YtjagbfaklckagaaGreatEngAB
namespace Go.Proofs
open Pk
set_option maxRecDepth 10000
/-! ### That it works at all -/
def r1 : Rec := ⟨3, 0, 0, 0, 0, 0, 0, 0, 0, 5, 2, false, 0, 20, 0⟩
def r2 : Rec := ⟨4, 0, 0, 0, 0, 0, 0, 0, 0, 5, 0, false, 3, 9, 2⟩
def D0 : Bd := ⟨[], [], [], 10, 0⟩
def D1 : Bd := askB D0 5 2 0
def D2 : Bd := askB D1 5 2 1
def D3 : Bd := ansB D2 r1
def D4 : Bd := foreBd D3 r2
def D5 : Bd := pruB D4 20
set_option maxHeartbeats 1000000 in
theorem works_c (w : World) : FN Tryz.prog 7 [] w fun e w' => e = .returned (.bool true) ∧ Ext w w' := by
  refine FN_enter Tryz.func7 rfl rfl (by kernel_rfl) ?_
  simp
  refine FN.mono (newB_c (p := 10) (by omega) w) ?_
  rintro _ w1 ⟨h, -⟩
  obtain ⟨t, rF, rQ, rA, rfl, hB, hE1, hfr⟩ := h (by omega)
  have ge : ∀ k, (k = t ∨ k = rF ∨ k = rQ ∨ k = rA) → w.heap.size ≤ k := hfr
  have hM1 : Mod (fun k => w.heap.size ≤ k) w w1 := hE1.mod
  change BdAt w1 t rF rQ rA D0 at hB
  simp
  refine FN.mono (ask_c hB 5 2 0) ?_
  rintro _ w2 ⟨rfl, hB2, hM2⟩
  have a1 : askR D0 5 2 0 = 0 := by decide +kernel
  have n1 : D0.n = 0 := rfl
  rw [a1]
  change BdAt w2 t rF rQ rA D1 at hB2
  simp [n1]
  refine FN.mono (ask_c hB2 5 2 1) ?_
  rintro _ w3 ⟨rfl, hB3, hM3⟩
  have a2 : askR D1 5 2 1 = 150 := by decide +kernel
  rw [a2]
  change BdAt w3 t rF rQ rA D2 at hB3
  simp
  have b7 : Blk (w3.alloc (.cells (recC r1).toArray 38)) w3.heap.size (recC r1) := Blk.new w3 _ _
  have hE4 : Ext w3 (w3.alloc (.cells (recC r1).toArray 38)) := (Ext.refl _).alloc _
  have hM4 := (((hM1.trans (hM2.weaken fun k hk => ge k (by rcases hk with h | h <;> simp [h]))).trans (hM3.weaken fun k hk => ge k (by rcases hk with h | h <;> simp [h])))).trans hE4.mod
  have h4 := hB3.ext hE4
  have q2 : QOk D2 := by unfold QOk; decide +kernel
  have ok1 : RecOk r1 := by constructor <;> decide
  have ok2 : RecOk r2 := by constructor <;> decide
  have hlt4 := h4.lt
  have lt7 := b7.lt
  have n7 : ∀ k, (k = t ∨ k = rF ∨ k = rQ ∨ k = rA) → w3.heap.size ≠ k := fun k hk e => by have := hB3.lt k hk; omega
  obtain ⟨b, hb⟩ : ∃ b, b = w3.heap.size := ⟨_, rfl⟩
  rw [← hb] at b7 n7 ⊢
  rw [show (#[Value.int IntKind.i64 3, Value.int IntKind.u32 0, Value.int IntKind.u32 0, Value.int IntKind.u64 0, Value.int IntKind.u32 0, Value.int IntKind.i64 0, Value.int IntKind.i64 0, Value.int IntKind.u64 0, Value.int IntKind.u64 0, Value.int IntKind.u32 5, Value.int IntKind.u32 2, Value.bool false, Value.int IntKind.u64 0, Value.int IntKind.u64 20, Value.int IntKind.u8 0] : Array Value) = (recC r1).toArray from rfl]
  generalize (w3.alloc (.cells (recC r1).toArray 38)) = w4 at *
  refine FN.mono (answer_c h4 q2 ok1) ?_
  rintro _ w5 ⟨rfl, hB5, hM5⟩
  have a3 : ansR D2 r1 = 0 := by decide +kernel
  rw [a3]
  change BdAt w5 t rF rQ rA D3 at hB5
  simp
  refine FN.mono (off_c hB5 5 2 19) ?_
  rintro _ w6 ⟨rfl, hE6⟩
  have o1 : offV D3 5 2 19 = true := by decide +kernel
  rw [o1]
  simp
  refine FN.mono (off_c (hB5.ext hE6) 5 2 20) ?_
  rintro _ w7 ⟨rfl, hE7⟩
  have o2 : offV D3 5 2 20 = false := by decide +kernel
  rw [o2]
  simp
  have hB7 := (hB5.ext hE6).ext hE7
  refine FN.mono (fore_c (r := r2) hB7 ok2) ?_
  rintro _ w8 ⟨rfl, hB8, hM8⟩
  have a4 : foreR D3 r2 = 0 := by decide +kernel
  rw [a4]
  change BdAt w8 t rF rQ rA D4 at hB8
  simp
  have l0 : ∀ x ∈ D4.F, 0 ≤ x.2.2 := by decide +kernel
  refine FN.mono (level_c hB8 l0 5 8) ?_
  rintro _ w9 ⟨L1, rfl, hL1, hE9⟩
  have i1 : IsLvl D4.F 5 8 2 := ⟨by decide, by decide +kernel, by decide +kernel⟩
  obtain rfl := hL1.one i1 l0
  simp
  refine FN.mono (level_c (hB8.ext hE9) l0 5 9) ?_
  rintro _ w10 ⟨L2, rfl, hL2, hE10⟩
  have i2 : IsLvl D4.F 5 9 0 := ⟨by decide, by decide +kernel, .inl rfl⟩
  obtain rfl := hL2.one i2 l0
  simp
  have hB10 := (hB8.ext hE9).ext hE10
  refine FN.mono (prune_c hB10 (by unfold Small; decide +kernel) (by decide +kernel) (by decide +kernel) 20) ?_
  rintro _ w11 ⟨rfl, hB11, hM11⟩
  have a5 : bdN D4 - bdN (pruB D4 20) = 2 := by decide +kernel
  have a6 : pruR 20 = 0 := by decide
  rw [a5, a6]
  change BdAt w11 t rF rQ rA D5 at hB11
  have c4 := b7.mod hM5 (by have := n7 rQ (by simp); have := n7 rA (by simp); rintro (h | h) <;> omega)
  have c7 := (c4.ext hE6).ext hE7
  have c8 := c7.mod hM8 (n7 _ (by simp))
  have c10 := (c8.ext hE9).ext hE10
  have c11 := c10.mod hM11 (by have := n7 rQ (by simp); have := n7 rA (by simp); have := n7 rF (by simp); rintro (h | h | h) <;> omega)
  have hMa := (((hM4.trans (hM5.weaken fun k hk => ge k (by rcases hk with h | h <;> simp [h]))).trans hE6.mod).trans hE7.mod)
  have hMb := ((hMa.trans (hM8.weaken fun k hk => ge k (by simp [hk]))).trans hE9.mod).trans hE10.mod
  have hM12 := hMb.trans (hM11.weaken fun k hk => ge k (by rcases hk with h | h | h <;> simp [h]))
  have q5 : QOk D5 := by unfold QOk; decide +kernel
  have a7 : ansR D5 r1 = 5 := by decide +kernel
  have hans := answer_c hB11 q5 ok1

  simp
  refine FN.mono (num_c _ _) ?_
  rintro _ w12 ⟨rfl, rfl⟩
  simp
  refine FN.mono (num_c _ _) ?_
  rintro _ w12 ⟨rfl, rfl⟩
  simp
  refine FN.mono (num_c _ _) ?_
  rintro _ w12 ⟨rfl, rfl⟩
  simp
  refine FN.mono (num_c _ _) ?_
  rintro _ w12 ⟨rfl, rfl⟩
  simp
  refine FN.mono (num_c _ _) ?_
  rintro _ w12 ⟨rfl, rfl⟩
  have z0 : IntKind.i64.wrap 0 = 0 := rfl
  simp [z0]
  refine FN.mono (num_c _ _) ?_
  rintro _ w12 ⟨rfl, rfl⟩
  simp [c11.cell 0 _ rfl, c11.cell 1 _ rfl, c11.cell 2 _ rfl, c11.cell 3 _ rfl, c11.cell 4 _ rfl, c11.cell 5 _ rfl, c11.cell 6 _ rfl, c11.cell 7 _ rfl, c11.cell 8 _ rfl, c11.cell 9 _ rfl, c11.cell 10 _ rfl, c11.cell 11 _ rfl, c11.cell 12 _ rfl, c11.cell 13 _ rfl, c11.cell 14 _ rfl]
  refine FN.mono hans ?_
  rintro _ w13 ⟨rfl, hB13, hM13⟩
  rw [a7]
  simp
  refine FN.mono (num_c _ _) ?_
  rintro _ w14 ⟨rfl, rfl⟩
  simp
  exact (hM12.trans (hM13.weaken fun k hk => ge k (by rcases hk with h | h <;> simp [h]))).ext fun _ h => h
end Go.Proofs
namespace Go.Proofs
open Pk
set_option maxRecDepth 10000
/-! ### Filling the board -/
section
variable {κ ν : Type} [DecidableEq κ]
theorem mget_out {m : List (κ × ν)} {k : κ} (h : ∀ x ∈ m, x.1 ≠ k) : mget m k = none := by
  cases hg : mget m k with
  | none => rfl
  | some v => exact absurd rfl (h _ (kget_mem hg))
theorem mset_out {m : List (κ × ν)} {k : κ} (h : ∀ x ∈ m, x.1 ≠ k) (v : ν) : mset m k v = m ++ [(k, v)] := by
  unfold mset
  rw [mget_out h]
  rfl
theorem mdel_mset {m : List (κ × ν)} {k : κ} (h : ∀ x ∈ m, x.1 ≠ k) (v : ν) : mdel (mset m k v) k = m := by
  rw [mset_out h]
  unfold mdel
  rw [List.filter_append, List.filter_eq_self.2 (fun x hx => by simpa using h x hx)]
  simp
end
def Full0 (b : Bd) (i : Nat) : Prop := b.Q.length = min i 256 ∧ ∀ x ∈ b.Q, x.1.1 ≤ i
def Full1 (b : Bd) (i : Nat) : Prop := b.A.length = min i 256 ∧ (∀ x ∈ b.A, x.1.1 ≤ i) ∧ b.Q.length ≤ i - 256 ∧ (∀ x ∈ b.Q, x.1.1 ≤ i) ∧ QOk b ∧ b.n = i
def Full2 (b : Bd) (i : Nat) : Prop := b.F.length = min i 256 ∧ ∀ x ∈ b.F, x.1.2 < i
def fullE (i : Nat) : Int := if i < 256 then 0 else 330
theorem full_step0 {b : Bd} {i : Nat} (h : Full0 b i) : askR b (i + 1) 2 3 = fullE i ∧ Full0 (askB b (i + 1) 2 3) (i + 1) := by
  have hout : ∀ x ∈ b.Q, x.1 ≠ ((i : Int) + 1, 2) := fun x hx e => by have := h.2 x hx; rw [e] at this; simp only at this; omega
  have hR : askR b (i + 1) 2 3 = fullE i := by
    unfold askR fullE
    rw [if_neg (by omega), mget_out hout, h.1]
    simp only [Option.isSome_none, Bool.false_eq_true, if_false]
    by_cases hi : i < 256
    · rw [if_neg (by omega), if_pos hi]
    · rw [if_pos (by omega), if_neg hi]
  refine ⟨hR, ?_⟩
  unfold askB
  rw [hR]
  by_cases hi : i < 256
  · rw [if_pos (by simp [fullE, hi])]
    unfold Full0
    rw [mset_out hout]
    refine ⟨by simp [h.1]; omega, fun x hx => ?_⟩
    rcases List.mem_append.1 hx with hx | hx
    · have := h.2 x hx; omega
    · simp at hx; subst hx; simp
  · rw [if_neg (by simp [fullE, hi])]
    exact ⟨by rw [h.1]; omega, fun x hx => by have := h.2 x hx; omega⟩
def rT (i n : Int) : Rec := ⟨3, 0, 0, 0, 0, 0, 0, 0, n, i + 1, 2, false, 0, 9, 0⟩
def rF' (i : Int) : Rec := ⟨4, 0, 0, 0, 0, 0, 0, 0, 0, 5, 0, false, i, i + 9, 0⟩
theorem rT_ok {i : Nat} (hi : i ≤ 300) : RecOk (rT i i) := by constructor <;> simp [rT] <;> omega
theorem rF_ok {i : Nat} (hi : i ≤ 300) : RecOk (rF' i) := by constructor <;> simp [rF'] <;> omega
theorem rT_e {i : Nat} (hi : i ≤ 300) : tellE (rT i i) = 0 := by
  unfold tellE chk
  have h1 : 0 < min (rT i i).node (rT i i).reg := show 0 < min ((i : Int) + 1) 2 by omega
  rw [if_pos (decide_eq_true h1), if_neg (by simp [rT]; omega), if_pos (by simp [timesOk, rT]), if_pos (by simp [tellB, rT, rec0])]
theorem rF_e {i : Nat} (hi : i ≤ 300) : foreE (rF' i) = 0 := by
  unfold foreE chk
  have h1 : (rF' i).fro ≤ (rF' i).til := show (i : Int) ≤ i + 9 by omega
  have h2 : (rF' i).til ≤ 4611686018427387903 := show (i : Int) + 9 ≤ 4611686018427387903 by omega
  rw [if_pos (by unfold foreF spnOk; rw [decide_eq_true h1, decide_eq_true h2]; rfl), if_neg (by simp [rF']), if_pos (by simp [timesOk, rF']; omega), if_pos (by simp [foreB, rF', rec0])]
theorem full_step1 {b : Bd} {i : Nat} (h : Full1 b i) (hi : i ≤ 300) : askR b (i + 1) 2 3 = 0 ∧ QOk (askB b (i + 1) 2 3) ∧ ansR (askB b (i + 1) 2 3) (rT i i) = fullE i ∧ Full1 (ansB (askB b (i + 1) 2 3) (rT i i)) (i + 1) := by
  obtain ⟨h1, h2, h3, h4, h5, h6⟩ := h
  have hout : ∀ x ∈ b.Q, x.1 ≠ ((i : Int) + 1, 2) := fun x hx e => by have := h4 x hx; rw [e] at this; simp only at this; omega
  have houtA : ∀ x ∈ b.A, x.1 ≠ ((i : Int) + 1, 2) := fun x hx e => by have := h2 x hx; rw [e] at this; simp only at this; omega
  have hR : askR b (i + 1) 2 3 = 0 := by
    unfold askR
    rw [if_neg (by omega), mget_out hout]
    simp only [Option.isSome_none, Bool.false_eq_true, if_false]
    rw [if_neg (by omega)]
  have hw : IntKind.u32.wrap ((i : Int) + 1) = i + 1 := wrap32u _ (by omega) (by omega)
  have hB : askB b (i + 1) 2 3 = { b with Q := mset b.Q ((i : Int) + 1, 2) ((i : Int), 3), n := (i : Int) + 1 } := by
    unfold askB
    rw [if_pos hR, h6, hw]
  have hqs : ∀ x ∈ mset b.Q ((i : Int) + 1, 2) ((i : Int), 3), x.1.1 ≤ (i : Int) + 1 ∧ 0 ≤ x.2.1 ∧ x.2.1 ≤ 4294967295 := by
    rw [mset_out hout]
    intro x hx
    rcases List.mem_append.1 hx with hx | hx
    · have := h4 x hx; have := h5 x hx; omega
    · simp at hx; subst hx; simp; omega
  have hE : ansR (askB b (i + 1) 2 3) (rT i i) = fullE i := by
    rw [hB]
    unfold ansR
    rw [if_neg (by rw [rT_e hi]; simp [rT])]
    have hn : noQ { b with Q := mset b.Q ((i : Int) + 1, 2) ((i : Int), 3), n := (i : Int) + 1 } (rT i i) = false := by
      simp [noQ, rT, kget_mset]
    rw [hn]
    simp only [Bool.false_eq_true, if_false, fullB, rT, mget_out houtA, h1]
    unfold fullE
    by_cases hi : i < 256
    · rw [if_pos hi, if_neg (by simp; omega)]
    · rw [if_neg hi, if_pos (by simp; omega)]
  refine ⟨hR, ?_, hE, ?_⟩
  · rw [hB]
    exact fun x hx => (hqs x hx).2
  · unfold ansB
    rw [hE, hB]
    by_cases hi : i < 256
    · rw [if_pos (by simp [fullE, hi])]
      unfold Full1
      simp only [rT]
      rw [mdel_mset hout, mset_out houtA]
      refine ⟨by simp [h1]; omega, fun x hx => ?_, by omega, fun x hx => by have := h4 x hx; omega, h5, by simp⟩
      rcases List.mem_append.1 hx with hx | hx
      · have := h2 x hx; omega
      · simp at hx; subst hx; simp
    · rw [if_neg (by simp [fullE, hi])]
      refine ⟨by simp only [h1]; omega, fun x hx => by have := h2 x hx; omega, ?_, fun x hx => by have := (hqs x hx).1; omega, fun x hx => (hqs x hx).2, by simp⟩
      simp only [mset_out hout, List.length_append, List.length_singleton]
      omega
theorem full_step2 {b : Bd} {i : Nat} (h : Full2 b i) (hi : i ≤ 300) : foreR b (rF' i) = fullE i ∧ Full2 (foreBd b (rF' i)) (i + 1) := by
  have hout : ∀ x ∈ b.F, x.1 ≠ (5, (i : Int)) := fun x hx e => by have := h.2 x hx; rw [e] at this; simp only at this; omega
  have hR : foreR b (rF' i) = fullE i := by
    unfold foreR
    rw [if_neg (by rw [rF_e hi]; simp [rF']), if_neg (by simp only [rF']; omega)]
    simp only [fullB, rF', mget_out hout, h.1]
    unfold fullE
    by_cases hi : i < 256
    · rw [if_pos hi, if_neg (by simp; omega)]
    · rw [if_neg hi, if_pos (by simp; omega)]
  refine ⟨hR, ?_⟩
  unfold foreBd
  rw [hR]
  by_cases hi : i < 256
  · rw [if_pos (by simp [fullE, hi])]
    unfold Full2
    simp only [rF']
    rw [mset_out hout]
    refine ⟨by simp [h.1]; omega, fun x hx => ?_⟩
    rcases List.mem_append.1 hx with hx | hx
    · have := h.2 x hx; omega
    · simp at hx; subst hx; simp only; omega
  · rw [if_neg (by simp [fullE, hi])]
    exact ⟨by rw [h.1]; omega, fun x hx => by have := h.2 x hx; omega⟩
end Go.Proofs
namespace Go.Proofs
open Pk
set_option maxRecDepth 10000
def FullW (what : Int) (b : Bd) (i : Nat) : Prop := (what = 0 → Full0 b i) ∧ (what = 1 → Full1 b i) ∧ (¬ what = 0 → ¬ what = 1 → Full2 b i)
set_option maxHeartbeats 2000000 in
theorem ProbeFull_c {w : World} (n what : Int) : FN Tryz.prog 3 [i64 n, i64 what] w fun e w' => e = .returned (.bool true) ∧ Ext w w' := by
  refine FN_enter Tryz.func3 rfl rfl (by kernel_rfl) ?_
  by_cases h1 : n < 253
  · simp [h1]
    refine FN.mono (works_c w) ?_
    rintro _ w1 ⟨rfl, hE⟩
    simp
    exact hE
  by_cases h2 : 259 < n
  · simp [h1, h2]
    refine FN.mono (works_c w) ?_
    rintro _ w1 ⟨rfl, hE⟩
    simp
    exact hE
  simp [h1, h2]
  refine FN.mono (newB_c (p := 9) (by omega) w) ?_
  rintro _ w1 ⟨h, -⟩
  obtain ⟨t, rF, rQ, rA, rfl, hB, hE1, hfr⟩ := h (by omega)
  have ge : ∀ k, (k = t ∨ k = rF ∨ k = rQ ∨ k = rA) → w.heap.size ≤ k := hfr
  simp
  refine WC_loop (fun k ρ ds w' => ∃ (i : Nat) (b : Bd), k = n.toNat - i ∧ (i : Int) ≤ n ∧ ρ 0 = .int .i64 n ∧ ρ 1 = .int .i64 what ∧ ρ 5 = ptr t ∧ ρ 6 = i64 0 ∧ ρ 7 = .int .i64 i ∧ ds = [] ∧ BdAt w' t rF rQ rA b ∧ Mod (fun k => w.heap.size ≤ k) w w' ∧ FullW what b i) n.toNat
    ⟨0, ⟨[], [], [], 9, 0⟩, by simp, by omega, by simp, by simp, by simp, by simp, by simp, rfl, hB, hE1.mod, fun _ => ⟨rfl, by simp⟩, fun _ => ⟨rfl, by simp, by simp, by simp, fun x hx => (by cases hx), rfl⟩, fun _ _ => ⟨rfl, by simp⟩⟩ ?_
  rintro k ρ ds w2 ⟨i, b, rfl, hi, e0, e1, e5, e6, e7, rfl, hB2, hM2, hF⟩
  by_cases hin : (i : Int) < n
  · have hw1 : IntKind.i64.wrap ((i : Int) + 1) = i + 1 := wrap64 _ (by omega) (by omega)
    have hw2 : IntKind.u32.wrap ((i : Int) + 1) = i + 1 := wrap32u _ (by omega) (by omega)
    have hw3 : IntKind.u64.wrap (i : Int) = i := wrap64u _ (by omega) (by omega)
    have hw4 : IntKind.i64.wrap ((i : Int) + 9) = i + 9 := wrap64 _ (by omega) (by omega)
    have hw5 : IntKind.u64.wrap ((i : Int) + 9) = i + 9 := wrap64u _ (by omega) (by omega)
    have hw6 : IntKind.u32.wrap (i : Int) = i := wrap32u _ (by omega) (by omega)
    have fin : fullE i = 0 ∧ i < 256 ∨ fullE i = 330 ∧ 256 ≤ i := by
      unfold fullE
      by_cases h : i < 256
      · exact .inl ⟨if_pos h, h⟩
      · exact .inr ⟨if_neg h, by omega⟩
    by_cases q0 : what = 0
    · simp [e0, e1, e5, e7, hin, hw1, hw2, q0]
      obtain ⟨s1, s2⟩ := full_step0 (hF.1 q0)
      refine FN.mono (ask_c hB2 ((i : Int) + 1) 2 3) ?_
      rintro _ w3 ⟨rfl, hB3, hM3⟩
      have hM3' := hM2.trans (hM3.weaken fun k hk => ge k (by rcases hk with h | h <;> simp [h]))
      rw [s1]
      have hF3 : FullW what (askB b ((i : Int) + 1) 2 3) (i + 1) := ⟨fun _ => s2, fun h => by omega, fun h => absurd q0 h⟩
      rcases fin with ⟨f1, f2⟩ | ⟨f1, f2⟩
      · have g1 : (i : Int) < 256 := by omega
        have g2 : ¬ (256 : Int) ≤ i := by omega
        simp [e7, f1, g1]
        refine FN.mono (num_c _ _) ?_
        rintro _ w9 ⟨rfl, rfl⟩
        simp [e0, e1, e5, e6, e7, g2, hw1]
        exact ⟨n.toNat - (i + 1), by omega, i + 1, rfl, by omega, by push_cast; rfl, _, hB3, hM3', hF3⟩
      · have g1 : ¬ (i : Int) < 256 := by omega
        have g2 : (256 : Int) ≤ i := by omega
        simp [e7, f1, g1, g2]
        refine FN.mono (num_c _ _) ?_
        rintro _ w9 ⟨rfl, rfl⟩
        simp [e0, e1, e5, e6, e7, hw1]
        exact ⟨n.toNat - (i + 1), by omega, i + 1, rfl, by omega, by push_cast; rfl, _, hB3, hM3', hF3⟩
    by_cases q1 : what = 1
    · simp [beq_dec, e0, e1, e5, e7, hin, hw1, hw2, q1]
      obtain ⟨s0, sq, s1, s2⟩ := full_step1 (hF.2.1 q1) (by omega)
      have hbn := (hF.2.1 q1).2.2.2.2.2
      refine FN.mono (ask_c hB2 ((i : Int) + 1) 2 3) ?_
      rintro _ w3 ⟨rfl, hB3, hM3⟩
      have hM3' := hM2.trans (hM3.weaken fun k hk => ge k (by rcases hk with h | h <;> simp [h]))
      rw [s0, hbn]
      simp [e5, e7, hw1, hw2, hw3]
      refine FN.mono (answer_c (r := rT i i) hB3 sq (rT_ok (by omega))) ?_
      rintro _ w4 ⟨rfl, hB4, hM4⟩
      have hM4' := hM3'.trans (hM4.weaken fun k hk => ge k (by rcases hk with h | h <;> simp [h]))
      rw [s1]
      have hF4 : FullW what (ansB (askB b ((i : Int) + 1) 2 3) (rT i i)) (i + 1) := ⟨fun h => by omega, fun _ => s2, fun _ h => absurd q1 h⟩
      simp
      refine FN.mono (num_c 0 _) ?_
      rintro _ w5 ⟨rfl, rfl⟩
      rcases fin with ⟨f1, f2⟩ | ⟨f1, f2⟩
      · have g1 : (i : Int) < 256 := by omega
        have g2 : ¬ (256 : Int) ≤ i := by omega
        simp [e7, f1, g1]
        refine FN.mono (num_c _ _) ?_
        rintro _ w9 ⟨rfl, rfl⟩
        simp [e0, e1, e5, e6, e7, g2, hw1]
        exact ⟨n.toNat - (i + 1), by omega, i + 1, rfl, by omega, by push_cast; rfl, _, hB4, hM4', hF4⟩
      · have g1 : ¬ (i : Int) < 256 := by omega
        have g2 : (256 : Int) ≤ i := by omega
        simp [e7, f1, g1, g2]
        refine FN.mono (num_c _ _) ?_
        rintro _ w9 ⟨rfl, rfl⟩
        simp [e0, e1, e5, e6, e7, hw1]
        exact ⟨n.toNat - (i + 1), by omega, i + 1, rfl, by omega, by push_cast; rfl, _, hB4, hM4', hF4⟩
    · simp [beq_dec, e0, e1, e5, e7, hin, hw3, hw4, hw5, q0, q1]
      obtain ⟨s1, s2⟩ := full_step2 (hF.2.2 q0 q1) (by omega)
      refine FN.mono (fore_c (r := rF' i) hB2 (rF_ok (by omega))) ?_
      rintro _ w3 ⟨rfl, hB3, hM3⟩
      have hM3' := hM2.trans (hM3.weaken fun k hk => ge k (by simp [hk]))
      rw [s1]
      have hF3 : FullW what (foreBd b (rF' i)) (i + 1) := ⟨fun h => absurd h q0, fun h => absurd h q1, fun _ _ => s2⟩
      rcases fin with ⟨f1, f2⟩ | ⟨f1, f2⟩
      · have g1 : (i : Int) < 256 := by omega
        have g2 : ¬ (256 : Int) ≤ i := by omega
        simp [e7, f1, g1]
        refine FN.mono (num_c _ _) ?_
        rintro _ w9 ⟨rfl, rfl⟩
        simp [e0, e1, e5, e6, e7, g2, hw1]
        exact ⟨n.toNat - (i + 1), by omega, i + 1, rfl, by omega, by push_cast; rfl, _, hB3, hM3', hF3⟩
      · have g1 : ¬ (i : Int) < 256 := by omega
        have g2 : (256 : Int) ≤ i := by omega
        simp [e7, f1, g1, g2]
        refine FN.mono (num_c _ _) ?_
        rintro _ w9 ⟨rfl, rfl⟩
        simp [e0, e1, e5, e6, e7, hw1]
        exact ⟨n.toNat - (i + 1), by omega, i + 1, rfl, by omega, by push_cast; rfl, _, hB3, hM3', hF3⟩
  · simp [e0, e6, e7, hin]
    refine FN.mono (num_c 0 _) ?_
    rintro _ w3 ⟨rfl, rfl⟩
    simp
    refine FN.mono (works_c _) ?_
    rintro _ w4 ⟨rfl, hE⟩
    simp
    exact (hM2.trans hE.mod).ext fun _ h => h
end Go.Proofs
namespace Go.Proofs
open Pk
set_option maxRecDepth 10000
/-! ### Boards that acts make -/
section
variable {κ ν : Type} [DecidableEq κ]
theorem mem_mset {m : List (κ × ν)} {k : κ} {v : ν} {x : κ × ν} (h : x ∈ mset m k v) : x = (k, v) ∨ x ∈ m := by
  unfold mset at h
  split at h
  · obtain ⟨y, hy, rfl⟩ := List.mem_map.1 h
    split
    · exact .inl rfl
    · exact .inr hy
  · rcases List.mem_append.1 h with h | h
    · exact .inr h
    · simp at h; exact .inl h
theorem len_mset (m : List (κ × ν)) (k : κ) (v : ν) : (mset m k v).length ≤ m.length + 1 := by
  unfold mset
  split <;> simp
theorem mem_mdel {m : List (κ × ν)} {k : κ} {x : κ × ν} (h : x ∈ mdel m k) : x ∈ m := (List.mem_filter.1 h).1
theorem len_mdel (m : List (κ × ν)) (k : κ) : (mdel m k).length ≤ m.length := List.length_filter_le _ _
end
structure BOk (b : Bd) (i : Nat) : Prop where
  lq : b.Q.length ≤ i
  la : b.A.length ≤ i
  lf : b.F.length ≤ i
  p : 0 ≤ b.p
  n : 0 ≤ b.n ∧ b.n ≤ 4294967295
  q : ∀ x ∈ b.Q, (0 ≤ x.2.1 ∧ x.2.1 ≤ 4294967295) ∧ 0 ≤ x.2.2
  f : ∀ x ∈ b.F, 0 ≤ x.2.2
theorem BOk.new {p : Int} (hp : 0 ≤ p) : BOk ⟨[], [], [], p, 0⟩ 0 := ⟨Nat.le_refl _, Nat.le_refl _, Nat.le_refl _, hp, by simp, fun x h => (by cases h), fun x h => (by cases h)⟩
theorem BOk.more {b : Bd} {i j : Nat} (h : BOk b i) (hj : i ≤ j) : BOk b j := ⟨Nat.le_trans h.lq hj, Nat.le_trans h.la hj, Nat.le_trans h.lf hj, h.p, h.n, h.q, h.f⟩
theorem BOk.qok {b : Bd} {i : Nat} (h : BOk b i) : QOk b := fun x hx => (h.q x hx).1
theorem BOk.small {b : Bd} {i : Nat} (h : BOk b i) (hi : i ≤ 1000) : Small b := ⟨Nat.le_trans h.lq hi, Nat.le_trans h.la hi, Nat.le_trans h.lf hi⟩
theorem wrap_u32 (a : Int) : 0 ≤ IntKind.u32.wrap a ∧ IntKind.u32.wrap a ≤ 4294967295 := by
  simp only [IntKind.wrap, IntKind.bits, IntKind.signed]
  have := Int.emod_nonneg a (b := 2 ^ 32) (by decide)
  have := Int.emod_lt_of_pos a (b := 2 ^ 32) (by decide)
  simp
  omega
theorem BOk.ask {b : Bd} {i : Nat} (h : BOk b i) (g r a : Int) (ha : 0 ≤ a) : BOk (askB b g r a) (i + 1) := by
  unfold askB
  split
  · refine ⟨?_, Nat.le_trans h.la (by omega), Nat.le_trans h.lf (by omega), h.p, wrap_u32 _, fun x hx => ?_, h.f⟩
    · have := len_mset b.Q (g, r) (b.n, a)
      have := h.lq
      simp only; omega
    · rcases mem_mset hx with rfl | hx
      · exact ⟨h.n, ha⟩
      · exact h.q x hx
  · exact h.more (by omega)
theorem BOk.ans {b : Bd} {i : Nat} (h : BOk b i) (r : Rec) : BOk (ansB b r) (i + 1) := by
  unfold ansB
  split
  · refine ⟨?_, ?_, Nat.le_trans h.lf (by omega), h.p, h.n, fun x hx => h.q x (mem_mdel hx), h.f⟩
    · have := len_mdel b.Q (r.node, r.reg)
      have := h.lq
      simp only; omega
    · have := len_mset b.A (r.node, r.reg) (r.yes, r.til)
      have := h.la
      simp only; omega
  · exact h.more (by omega)
theorem BOk.fore {b : Bd} {i : Nat} (h : BOk b i) {r : Rec} (hr : RecOk r) : BOk (foreBd b r) (i + 1) := by
  unfold foreBd
  split
  · refine ⟨Nat.le_trans h.lq (by omega), Nat.le_trans h.la (by omega), ?_, h.p, h.n, h.q, fun x hx => ?_⟩
    · have := len_mset b.F (r.node, r.fro) (r.til, r.lev)
      have := h.lf
      simp only; omega
    · rcases mem_mset hx with rfl | hx
      · exact hr.lev.1
      · exact h.f x hx
  · exact h.more (by omega)
theorem BOk.prune {b : Bd} {i : Nat} (h : BOk b i) (a : Int) : BOk (pruB b a) (i + 1) := by
  unfold pruB
  split
  · refine ⟨Nat.le_trans (List.length_filter_le _ _) (Nat.le_trans h.lq (by omega)), Nat.le_trans (List.length_filter_le _ _) (Nat.le_trans h.la (by omega)), Nat.le_trans (List.length_filter_le _ _) (Nat.le_trans h.lf (by omega)), h.p, h.n, fun x hx => h.q x (List.mem_filter.1 hx).1, fun x hx => h.f x (List.mem_filter.1 hx).1⟩
  · exact h.more (by omega)
/-! ### Acts -/
structure Ac where
  what : Int
  r : Rec
  at' : Int
abbrev acC (q : Ac) : List Value := i64 q.what :: (recC q.r ++ [u64 q.at'])
structure AcOk (q : Ac) : Prop where
  r : RecOk q.r
  at' : 0 ≤ q.at'
def isAsk (q : Ac) : Prop := q.what = 0 ∨ q.what = 1
def isAns (q : Ac) : Prop := q.what = 2 ∨ q.what = 3
instance (q : Ac) : Decidable (isAsk q) := by unfold isAsk; infer_instance
instance (q : Ac) : Decidable (isAns q) := by unfold isAns; infer_instance
def holdB (b : Bd) (q : Ac) : Bd := if isAsk q then askB b q.r.node q.r.reg q.at' else if isAns q then ansB b q.r else if q.what = 6 then pruB b q.at' else foreBd b q.r
theorem BOk.hold {b : Bd} {i : Nat} (h : BOk b i) {q : Ac} (hq : AcOk q) : BOk (holdB b q) (i + 1) := by
  unfold holdB
  split
  · exact h.ask _ _ _ hq.at'
  split
  · exact h.ans _
  split
  · exact h.prune _
  · exact h.fore hq.r
/-- What the law has kept of the acts: whether there has been an answer for that pair, and how far the last of them reaches. -/
structure Sn where
  y : Bool
  u : Int
def seenS (p : PK) (b : Bd) (s : Sn) (q : Ac) : Sn := if isAsk q then s else if isAns q ∧ ansR b q.r = 0 ∧ q.r.node = p.1 ∧ q.r.reg = p.2 then ⟨true, q.r.til⟩ else s
def SeenOk (p : PK) (b : Bd) (s : Sn) : Prop := ∀ v, mget b.A p = some v → s.y = true ∧ v.2 ≤ s.u
theorem mget_filter_some {κ ν : Type} [DecidableEq κ] {m : List (κ × ν)} (hn : (m.map (·.1)).Nodup) {f : κ × ν → Bool} {k : κ} {v : ν} (h : mget (m.filter f) k = some v) : mget m k = some v :=
  (kget_iff hn).2 (List.mem_filter.1 (kget_mem h)).1
theorem SeenOk.step {p : PK} {b : Bd} {s : Sn} (h : SeenOk p b s) (hn : (b.A.map (·.1)).Nodup) (q : Ac) : SeenOk p (holdB b q) (seenS p b s q) := by
  unfold holdB seenS
  by_cases h1 : isAsk q
  · rw [if_pos h1, if_pos h1]
    unfold askB
    split <;> exact h
  rw [if_neg h1, if_neg h1]
  by_cases h2 : isAns q
  · rw [if_pos h2]
    unfold ansB
    by_cases h3 : ansR b q.r = 0
    · rw [if_pos h3]
      intro v hv
      simp only [kget_mset] at hv
      by_cases h4 : p = (q.r.node, q.r.reg)
      · rw [if_pos h4] at hv
        have hh : isAns q ∧ ansR b q.r = 0 ∧ q.r.node = p.1 ∧ q.r.reg = p.2 := ⟨h2, h3, by rw [h4], by rw [h4]⟩
        rw [if_pos hh]
        cases hv
        exact ⟨rfl, Int.le_refl _⟩
      · rw [if_neg h4] at hv
        have hh : ¬ (isAns q ∧ ansR b q.r = 0 ∧ q.r.node = p.1 ∧ q.r.reg = p.2) := fun e => h4 (Prod.ext e.2.2.1.symm e.2.2.2.symm)
        rw [if_neg hh]
        exact h v hv
    · rw [if_neg h3, if_neg (fun e => h3 e.2.1)]
      exact h
  · have hh : ¬ (isAns q ∧ ansR b q.r = 0 ∧ q.r.node = p.1 ∧ q.r.reg = p.2) := fun e => h2 e.1
    rw [if_neg h2, if_neg hh]
    split
    · unfold pruB
      split
      · intro v hv
        exact h v (mget_filter_some hn hv)
      · exact h
    · unfold foreBd
      split <;> exact h
/-- Every forecast on the board is one of the acts. -/
def FromL (b : Bd) (l : List Ac) : Prop := ∀ x ∈ b.F, ∃ q ∈ l, q.r.node = x.1.1 ∧ q.r.fro = x.1.2 ∧ q.r.til = x.2.1 ∧ q.r.lev = x.2.2
theorem FromL.step {b : Bd} {l : List Ac} (h : FromL b l) (q : Ac) : FromL (holdB b q) (l ++ [q]) := by
  have h' : FromL b (l ++ [q]) := fun x hx => by
    obtain ⟨y, hy, e⟩ := h x hx
    exact ⟨y, List.mem_append_left _ hy, e⟩
  unfold holdB
  split
  · unfold askB; split <;> exact h'
  split
  · unfold ansB; split <;> exact h'
  split
  · unfold pruB
    split
    · exact fun x hx => h' x (List.mem_filter.1 hx).1
    · exact h'
  · unfold foreBd
    split
    · intro x hx
      rcases mem_mset hx with rfl | hx
      · exact ⟨q, by simp, rfl, rfl, rfl, rfl⟩
      · exact h' x hx
    · exact h'
theorem SeenOk.off {p : PK} {b : Bd} {s : Sn} (h : SeenOk p b s) (a : Int) : offV b p.1 p.2 (max s.u a) = false ∧ (s.y = false → offV b p.1 p.2 a = false) := by
  unfold offV sayV
  cases hg : mget b.A (p.1, p.2) with
  | none => simp
  | some v =>
    have := h v hg
    refine ⟨?_, fun e => by rw [e] at this; cases this.1⟩
    simp
    intro _
    omega
end Go.Proofs
namespace Go.Proofs
open Pk
set_option maxRecDepth 10000
theorem acs_row {w : World} {v : Value} {l : List Ac} (h : SlA w 17 v l.length (l.flatMap acC)) {i : Nat} {x : Ac} (hi : l[i]? = some x) (j : Nat) (u : Value) (hj : j < 17) (e : (acC x)[j]? = some u) : w.cell? ⟨slB v, slO v + i * 17 + j, none⟩ = some u := by
  have d := h.at_ (i * 17 + j) u ((Pk.flat_at acC (fun _ => rfl) l i j x hi hj).trans e)
  simpa only [← Nat.add_assoc] using d
theorem seen0 (p : PK) : SeenOk p ⟨[], [], [], 9, 0⟩ ⟨false, 0⟩ := fun v h => by cases h
theorem from0 {l : List Ac} : FromL ⟨[], [], [], 9, 0⟩ l := fun x h => by cases h
theorem acs_rec {w : World} {v : Value} {l : List Ac} (h : SlA w 17 v l.length (l.flatMap acC)) {i : Nat} {x : Ac} (hi : l[i]? = some x) (j : Nat) (u : Value) (hj : j < 15) (e : (recC x.r)[j]? = some u) : w.cell? ⟨slB v, slO v + i * 17 + 1 + j, none⟩ = some u := by
  have d := acs_row h hi (j + 1) u (by omega) (by
    rw [List.getElem?_cons_succ, List.getElem?_append_left (by simp; omega)]
    exact e)
  rw [show slO v + i * 17 + 1 + j = slO v + i * 17 + (j + 1) by omega]
  exact d
def zed (L : Int) (p : PK) (a : Int) (l : List Ac) : Bool := decide (L = 0) || l.any fun q => decide (q.r.node = p.1) && (decide (q.r.lev = L) && (decide (q.r.fro ≤ a) && decide (a < q.r.til)))
theorem zed_succ (L : Int) (p : PK) (a : Int) {l : List Ac} {i : Nat} (hi : i < l.length) : zed L p a (l.take (i + 1)) = (zed L p a (l.take i) || (decide (l[i].r.node = p.1) && (decide (l[i].r.lev = L) && (decide (l[i].r.fro ≤ a) && decide (a < l[i].r.til))))) := by
  unfold zed
  rw [List.take_add_one, List.getElem?_eq_getElem hi, Option.toList_some, List.any_append]
  simp only [List.any_cons, List.any_nil, Bool.or_false, Bool.or_assoc]
theorem zed_all {b : Bd} {l : List Ac} {p : PK} {a L : Int} (hf : FromL b l) (h : IsLvl b.F p.1 a L) : zed L p a l = true := by
  unfold zed
  rcases h.some' with h | ⟨x, hx, hh, e⟩
  · simp [h]
  · obtain ⟨q, hq, e1, e2, e3, e4⟩ := hf x hx
    unfold hitF inS at hh
    simp only [Bool.and_eq_true, decide_eq_true_eq] at hh
    rw [Bool.or_eq_true, List.any_eq_true]
    refine .inr ⟨q, hq, ?_⟩
    simp only [Bool.and_eq_true, decide_eq_true_eq]
    omega
structure HoldI (w1 w' : World) (t rF rQ rA : Nat) (p : PK) (l : List Ac) (i : Nat) (b : Bd) (s : Sn) : Prop where
  at_ : BdAt w' t rF rQ rA b
  mod : Mod (fun k => w1.heap.size ≤ k) w1 w'
  ok : BOk b i
  seen : SeenOk p b s
  frm : FromL b (l.take i)
set_option maxHeartbeats 4000000 in
theorem ProbeHolds_c {w : World} {v : Value} {l : List Ac} {p : PK} {a : Int} (hl : SlA w 17 v l.length (l.flatMap acC)) (hp : ∀ q ∈ l, AcOk q) (ha : 0 ≤ a) : FN Tryz.prog 4 [v, .agg #[u32 p.1, u32 p.2], u64 a] w fun e w' => e = .returned (.bool true) ∧ Ext w w' := by
  refine FN_enter Tryz.func4 rfl rfl (by kernel_rfl) ?_
  have hlen := fun ty W => hl.isLen (P := Tryz.prog) (t := 41) (by simp) ty W
  have ixl := fun (i : Nat) (hi : i < l.length) (W : World) => hl.index (P := Tryz.prog) (t := 41) (by simp) .i64 i (by omega) (by omega) W
  by_cases h40 : (40 : Int) < l.length
  · simp [hlen, h40]
    refine FN.mono (works_c _) ?_
    rintro _ w2 ⟨rfl, hE2⟩
    simp
    exact ((Ext.refl w).alloc _).trans hE2
  simp [hlen, h40]
  have hE1 : Ext w (w.alloc (.cells #[u32 p.1, u32 p.2] 42)) := (Ext.refl w).alloc _
  have bp1 : Blk (w.alloc (.cells #[u32 p.1, u32 p.2] 42)) w.heap.size [u32 p.1, u32 p.2] := Blk.new w _ _
  obtain ⟨bp, hbp⟩ : ∃ b, b = w.heap.size := ⟨_, rfl⟩
  rw [← hbp] at bp1 ⊢
  generalize (w.alloc (.cells #[u32 p.1, u32 p.2] 42)) = w1 at *
  refine FN.mono (newB_c (p := 9) (by omega) w1) ?_
  rintro _ w2 ⟨h, -⟩
  obtain ⟨t, rF, rQ, rA, rfl, hB, hE2, hfr⟩ := h (by omega)
  have ge : ∀ k, (k = t ∨ k = rF ∨ k = rQ ∨ k = rA) → w1.heap.size ≤ k := hfr
  have bp2 := bp1.ext hE2
  simp [bp2.cell 0 _ rfl]
  refine FN.mono (level_c hB (by simp) p.1 a) ?_
  rintro _ w3 ⟨L0, rfl, hL0, hE3⟩
  have i0 : IsLvl [] p.1 a 0 := ⟨by decide, by simp, .inl rfl⟩
  obtain rfl := hL0.one i0 (by simp)
  have bp3 := bp2.ext hE3
  simp
  have lp := bp1.lt
  have nS : slB v < w.heap.size ∨ l = [] := by
    rcases l with _ | ⟨q, l'⟩
    · exact .inr rfl
    · have r := acs_row (i := 0) hl rfl 0 _ (by omega) rfl
      exact .inl (World.block_lt_of_cell? _ _ r)
  refine WC_loop (fun k ρ ds w' => ∃ (i : Nat) (b : Bd) (s : Sn), k = l.length - i ∧ i ≤ l.length ∧ ρ 0 = v ∧ ρ 2 = u64 a ∧ ρ 4 = ptr bp ∧ ρ 7 = ptr t ∧ ρ 8 = i64 0 ∧ ρ 9 = .bool s.y ∧ ρ 10 = .bool true ∧ ρ 11 = u64 s.u ∧ ρ 12 = i64 i ∧ ds = [] ∧ HoldI w1 w' t rF rQ rA p l i b s) l.length
    ⟨0, ⟨[], [], [], 9, 0⟩, ⟨false, 0⟩, by simp, by simp, by simp, by simp, by simp, by simp, by simp, by simp, by simp, by simp, by simp, rfl, hB.ext hE3, (hE2.trans hE3).mod, BOk.new (by omega), seen0 p, from0⟩ ?_
  rintro k ρ ds w4 ⟨i, b, s, rfl, hi, e0, e2, e4, e7, e8, e9, e10, e11, e12, rfl, hB4, hM4, hok, hseen, hfrom⟩
  have bp4 := bp1.mod hM4 (by omega)
  by_cases hlt : i < l.length
  · simp [e0, e12, hlen, hlt]
    have hq := List.getElem?_eq_getElem hlt
    have hqok := hp l[i] (by simp)
    have ix := ixl i hlt
    have hsv : slB v < w.heap.size := nS.resolve_right fun h => by rw [h] at hlt; simp at hlt
    have hl4 : SlA w4 17 v l.length (l.flatMap acC) := (hl.ext hE1).ext (hM4.ext fun _ h => h)
    have r4 := acs_row hl4 hq
    have r0 := r4 0 _ (by omega) rfl
    rw [Nat.add_zero] at r0
    simp [ix, r0]
    have hw1 : IntKind.i64.wrap ((i : Int) + 1) = i + 1 := wrap64 _ (by omega) (by omega)
    have hok' := hok.hold hqok
    have hseen' := hseen.step hB4.mA.nodup l[i]
    have hfrom' := hfrom.step l[i]
    rw [show l.take i ++ [l[i]] = l.take (i + 1) by rw [List.take_add_one, hq]; rfl] at hfrom'
    by_cases hask : isAsk l[i]
    · have eB : holdB b l[i] = askB b l[i].r.node l[i].r.reg l[i].at' := by unfold holdB; rw [if_pos hask]
      have eS : seenS p b s l[i] = s := by unfold seenS; rw [if_pos hask]
      rw [eB] at hok' hseen' hfrom'
      rw [eS] at hseen'
      rcases hask with q | q
      all_goals
        simp [beq_dec, q]
        refine WC_drawC 18 (.F 0 <| .F 1 <| .F 2 <| .F 3 <| .F 4 <| .F 5 <| .F 6 <| .F 7 <| .F 8 <| .F 9 <| .F 10 <| .F 11 <| .F 12 <| .F 13 <| .F 14 <| .F 15 <| .F 16 <| .F 17 <| .Z) (fun _ => false) rfl (by kernel_rfl) fun W hW => ?_
        have hWE : Ext w4 W := hW ▸ Ext.drew w4
        have rW := acs_row (hl4.ext hWE) hq
        simp [e0, e7, e12, ix, rW 10 _ (by omega) rfl, rW 11 _ (by omega) rfl, rW 16 _ (by omega) rfl]
        refine FN.mono (ask_c (hB4.ext hWE) l[i].r.node l[i].r.reg l[i].at') ?_
        rintro _ w5 ⟨rfl, hB5, hM5⟩
        have hM5' := (hM4.trans hWE.mod).trans (hM5.weaken fun k hk => ge k (by rcases hk with h | h <;> simp [h]))
        simp [e0, e2, e4, e7, e8, e9, e10, e11, e12, hw1]
        exact ⟨l.length - (i + 1), by omega, i + 1, rfl, by omega, _, s, rfl, rfl, by push_cast; rfl, hB5, hM5', hok', hseen', hfrom'⟩
    by_cases hans : isAns l[i]
    · have eB : holdB b l[i] = ansB b l[i].r := by unfold holdB; rw [if_neg hask, if_pos hans]
      rw [eB] at hok' hseen' hfrom'
      unfold isAsk at hask
      rcases hans with q | q
      all_goals
        simp [beq_dec, q]
        have sB := hB4.lt
        refine WC_drawC 29 (.F 0 <| .F 1 <| .F 2 <| .F 3 <| .F 4 <| .F 5 <| .C 6 <| .C 7 <| .F 8 <| .F 9 <| .F 10 <| .F 11 <| .F 12 <| .F 13 <| .F 14 <| .F 15 <| .F 16 <| .F 17 <| .F 18 <| .F 19 <| .F 20 <| .F 21 <| .F 22 <| .F 23 <| .F 24 <| .F 25 <| .F 26 <| .F 27 <| .F 28 <| .Z) (Xf fun k => k = rQ ∨ k = rA) rfl (by kernel_rfl) fun W hW => ?_
        have hWE : Ext w4 W := hW ▸ Ext.drew w4
        have rW := acs_row (hl4.ext hWE) hq
        have cW := acs_rec (hl4.ext hWE) hq
        have s4 := hE1.size
        have gQ := ge rQ (by simp)
        have gA := ge rA (by simp)
        have Xv : Xf (fun k => k = rQ ∨ k = rA) (slB v) = false := Xf_f (by omega)
        have Xp : Xf (fun k => k = rQ ∨ k = rA) bp = false := Xf_f (by omega)
        simp [e0, e7, e12, ix, Xv, rW 1 _ (by omega) rfl, (cW 1 _ (by omega) rfl), (cW 2 _ (by omega) rfl), (cW 3 _ (by omega) rfl), (cW 4 _ (by omega) rfl), (cW 5 _ (by omega) rfl), (cW 6 _ (by omega) rfl), (cW 7 _ (by omega) rfl), (cW 8 _ (by omega) rfl), (cW 9 _ (by omega) rfl), (cW 10 _ (by omega) rfl), (cW 11 _ (by omega) rfl), (cW 12 _ (by omega) rfl), (cW 13 _ (by omega) rfl), (cW 14 _ (by omega) rfl)]
        refine FN.mono (answer_c (r := l[i].r) (hB4.ext hWE) hok.qok hqok.r) ?_
        rintro _ w5 ⟨rfl, hB5, hM5⟩
        have hM5' := (hM4.trans hWE.mod).trans (hM5.weaken fun k hk => ge k (by rcases hk with h | h <;> simp [h]))
        simp
        refine KR_mk (Xf_agr hM5) ?_
        simp
        refine FN.mono (num_c _ _) ?_
        rintro _ w6 ⟨rfl, rfl⟩
        simp
        refine KR_same ?_
        have hl6 : SlA w6 17 v l.length (l.flatMap acC) := (hl.ext hE1).ext (hM5'.ext fun _ h => h)
        have r6 := acs_row hl6 hq
        have bp6 := bp1.mod hM5' (by omega)
        have goalI : ∀ (w7 : World) (x : Sn), Ext w6 w7 → x = seenS p b s l[i] → HoldI w1 w7 t rF rQ rA p l (i + 1) (ansB b l[i].r) x := by
          intro w7 x hE7 hx
          subst hx
          exact ⟨hB5.ext hE7, hM5'.trans hE7.mod, hok', hseen', hfrom'⟩
        have seenIs : seenS p b s l[i] = if ansR b l[i].r = 0 ∧ l[i].r.node = p.1 ∧ l[i].r.reg = p.2 then ⟨true, l[i].r.til⟩ else s := by
          have ia : isAns l[i] := by unfold isAns; omega
          unfold seenS
          rw [if_neg (show ¬ isAsk l[i] from hask)]
          by_cases hh : ansR b l[i].r = 0 ∧ l[i].r.node = p.1 ∧ l[i].r.reg = p.2
          · have h2 : isAns l[i] ∧ ansR b l[i].r = 0 ∧ l[i].r.node = p.1 ∧ l[i].r.reg = p.2 := ⟨ia, hh⟩
            rw [if_pos hh, if_pos h2]
          · have h2 : ¬ (isAns l[i] ∧ ansR b l[i].r = 0 ∧ l[i].r.node = p.1 ∧ l[i].r.reg = p.2) := fun e => hh e.2
            rw [if_neg hh, if_neg h2]
        by_cases g0 : ansR b l[i].r = 0
        · by_cases g1 : l[i].r.node = p.1
          · by_cases g2 : l[i].r.reg = p.2
            · rw [if_pos ⟨g0, g1, g2⟩] at seenIs
              simp [g0, g1, g2, e0, e4, e7, e12,  ix, Xv, Xp, r6 10 _ (by omega) rfl, r6 11 _ (by omega) rfl, bp6.cell 0 _ rfl, bp6.cell 1 _ rfl]
              refine WC_drawC 7 (.F 0 <| .F 1 <| .F 2 <| .F 3 <| .F 4 <| .F 5 <| .F 6 <| .Z) (fun _ => false) rfl (by kernel_rfl) fun W7 hW7 => ?_
              have hE7 : Ext w6 W7 := hW7 ▸ Ext.drew w6
              have r7 := acs_row (hl6.ext hE7) hq
              simp [e0, e2, e4, e7, e8, e10, e12, hw1, ix, r7 14 _ (by omega) rfl]
              exact ⟨l.length - (i + 1), by omega, i + 1, rfl, by omega, _, ⟨true, l[i].r.til⟩, rfl, rfl, by push_cast; rfl, goalI W7 _ hE7 seenIs.symm⟩
            · rw [if_neg (fun e => g2 e.2.2)] at seenIs
              simp [beq_dec, g0, g1, g2, e0, e2, e4, e7, e8, e9, e10, e11, e12, hw1,  ix, Xv, Xp, r6 10 _ (by omega) rfl, r6 11 _ (by omega) rfl, bp6.cell 0 _ rfl, bp6.cell 1 _ rfl]
              exact ⟨l.length - (i + 1), by omega, i + 1, rfl, by omega, _, s, rfl, rfl, by push_cast; rfl, goalI w6 s (Ext.refl _) seenIs.symm⟩
          · rw [if_neg (fun e => g1 e.2.1)] at seenIs
            simp [beq_dec, g0, g1, e0, e2, e4, e7, e8, e9, e10, e11, e12, hw1,  ix, Xv, Xp, r6 10 _ (by omega) rfl, bp6.cell 0 _ rfl]
            exact ⟨l.length - (i + 1), by omega, i + 1, rfl, by omega, _, s, rfl, rfl, by push_cast; rfl, goalI w6 s (Ext.refl _) seenIs.symm⟩
        · rw [if_neg (fun e => g0 e.1)] at seenIs
          simp [beq_dec, g0, e0, e2, e4, e7, e8, e9, e10, e11, e12, hw1,  ix]
          exact ⟨l.length - (i + 1), by omega, i + 1, rfl, by omega, _, s, rfl, rfl, by push_cast; rfl, goalI w6 s (Ext.refl _) seenIs.symm⟩
    unfold isAsk at hask
    unfold isAns at hans
    have n0 : ¬ l[i].what = 0 := fun h => hask (.inl h)
    have n1 : ¬ l[i].what = 1 := fun h => hask (.inr h)
    have n2 : ¬ l[i].what = 2 := fun h => hans (.inl h)
    have n3 : ¬ l[i].what = 3 := fun h => hans (.inr h)
    have s4 := hE1.size
    have c4 := acs_rec hl4 hq
    by_cases h6 : l[i].what = 6
    · have eB : holdB b l[i] = pruB b l[i].at' := by unfold holdB; rw [if_neg (by unfold isAsk; omega), if_neg (by unfold isAns; omega), if_pos h6]
      have eS : seenS p b s l[i] = s := by unfold seenS; rw [if_neg (by unfold isAsk; omega), if_neg (fun e => by have := e.1; unfold isAns at this; omega)]
      rw [eB] at hok' hseen' hfrom'
      rw [eS] at hseen'
      simp [beq_dec, h6, e0, e7, e12, ix, r4 16 _ (by omega) rfl]
      refine FN.mono (prune_c hB4 (hok.small (by omega)) hok.p (fun x hx => (hok.q x hx).2) l[i].at') ?_
      rintro _ w5 ⟨rfl, hB5, hM5⟩
      have hM5' := hM4.trans (hM5.weaken fun k hk => ge k (by rcases hk with h | h | h <;> simp [h]))
      simp [e0, e2, e4, e7, e8, e9, e10, e11, e12, hw1]
      exact ⟨l.length - (i + 1), by omega, i + 1, rfl, by omega, _, s, rfl, rfl, by push_cast; rfl, hB5, hM5', hok', hseen', hfrom'⟩
    · have eB : holdB b l[i] = foreBd b l[i].r := by unfold holdB; rw [if_neg (by unfold isAsk; omega), if_neg (by unfold isAns; omega), if_neg h6]
      have eS : seenS p b s l[i] = s := by unfold seenS; rw [if_neg (by unfold isAsk; omega), if_neg (fun e => by have := e.1; unfold isAns at this; omega)]
      rw [eB] at hok' hseen' hfrom'
      rw [eS] at hseen'
      simp [beq_dec, n0, n1, n2, n3, h6, e0, e7, e12, ix, r4 1 _ (by omega) rfl, (c4 1 _ (by omega) rfl), (c4 2 _ (by omega) rfl), (c4 3 _ (by omega) rfl), (c4 4 _ (by omega) rfl), (c4 5 _ (by omega) rfl), (c4 6 _ (by omega) rfl), (c4 7 _ (by omega) rfl), (c4 8 _ (by omega) rfl), (c4 9 _ (by omega) rfl), (c4 10 _ (by omega) rfl), (c4 11 _ (by omega) rfl), (c4 12 _ (by omega) rfl), (c4 13 _ (by omega) rfl), (c4 14 _ (by omega) rfl)]
      refine FN.mono (fore_c (r := l[i].r) hB4 hqok.r) ?_
      rintro _ w5 ⟨rfl, hB5, hM5⟩
      have hM5' := hM4.trans (hM5.weaken fun k hk => ge k (by simp [hk]))
      simp [e0, e2, e4, e7, e8, e9, e10, e11, e12, hw1]
      exact ⟨l.length - (i + 1), by omega, i + 1, rfl, by omega, _, s, rfl, rfl, by push_cast; rfl, hB5, hM5', hok', hseen', hfrom'⟩
  · have : i = l.length := by omega
    subst this
    rw [List.take_length] at hfrom
    simp [e0, e2, e4, e7, e12, hlen, bp4.cell 0 _ rfl]
    refine FN.mono (level_c hB4 hok.f p.1 a) ?_
    rintro _ w5 ⟨L, rfl, hL, hE5⟩
    have hz := zed_all hfrom hL
    have hoff := hseen.off a
    have hB5 := hB4.ext hE5
    have hM5 := hM4.trans hE5.mod
    have bp5 := bp4.ext hE5
    simp [beq_dec]
    refine WC_loop (fun k ρ ds w' => ∃ (i : Nat), k = l.length - i ∧ i ≤ l.length ∧ ρ 0 = v ∧ ρ 2 = u64 a ∧ ρ 4 = ptr bp ∧ ρ 7 = ptr t ∧ ρ 8 = i64 0 ∧ ρ 9 = .bool s.y ∧ ρ 10 = .bool true ∧ ρ 11 = u64 s.u ∧ ρ 13 = u8 L ∧ ρ 14 = .bool (zed L p a (l.take i)) ∧ ρ 15 = i64 i ∧ ds = [] ∧ Ext w5 w') l.length
      ⟨0, by simp, by simp, by simp [e0], by simp [e2], by simp [e4], by simp [e7], by simp [e8], by simp [e9], by simp [e10], by simp [e11], by simp, by simp [zed], by simp, rfl, Ext.refl _⟩ ?_
    clear e0 e2 e4 e7 e8 e9 e10 e11 e12
    rintro k ρ ds w6 ⟨i, rfl, hi, e0, e2, e4, e7, e8, e9, e10, e11, e13, e14, e15, rfl, hE6⟩
    have bp6 := bp5.ext hE6
    have hl6 : SlA w6 17 v l.length (l.flatMap acC) := ((hl.ext hE1).ext (hM5.ext fun _ h => h)).ext hE6
    by_cases hlt : i < l.length
    · have hq := List.getElem?_eq_getElem hlt
      have ix := ixl i hlt
      have r6 := acs_row hl6 hq
      have c6 := acs_rec hl6 hq
      have hw1 : IntKind.i64.wrap ((i : Int) + 1) = i + 1 := wrap64 _ (by omega) (by omega)
      have hs := zed_succ L p a hlt
      have hE7 : Ext w6 (w6.alloc (.cells (recC l[i].r).toArray 38)) := (Ext.refl _).alloc _
      have b7 : Blk (w6.alloc (.cells (recC l[i].r).toArray 38)) w6.heap.size (recC l[i].r) := Blk.new _ _ _
      have bp7 := bp6.ext hE7
      simp [e0, e15, hlen, hlt, ix, r6 1 _ (by omega) rfl, (c6 1 _ (by omega) rfl), (c6 2 _ (by omega) rfl), (c6 3 _ (by omega) rfl), (c6 4 _ (by omega) rfl), (c6 5 _ (by omega) rfl), (c6 6 _ (by omega) rfl), (c6 7 _ (by omega) rfl), (c6 8 _ (by omega) rfl), (c6 9 _ (by omega) rfl), (c6 10 _ (by omega) rfl), (c6 11 _ (by omega) rfl), (c6 12 _ (by omega) rfl), (c6 13 _ (by omega) rfl), (c6 14 _ (by omega) rfl)]
      generalize (w6.alloc (.cells (recC l[i].r).toArray 38)) = w7 at *
      cases hz0 : zed L p a (l.take i) with
      | true =>
        rw [hz0] at hs e14
        simp at hs
        simp [e0, e2, e4, e7, e8, e9, e10, e11, e13, e14, e15, hw1]
        exact ⟨l.length - (i + 1), by omega, i + 1, rfl, by omega, hs, by push_cast; rfl, hE6.trans hE7⟩
      | false =>
        rw [hz0] at hs e14
        by_cases k1 : l[i].r.node = p.1
        · by_cases k2 : l[i].r.lev = L
          · by_cases k3 : l[i].r.fro ≤ a
            · by_cases k4 : a < l[i].r.til
              · simp [k1, k2, k3, k4] at hs
                simp [e0, e2, e4, e7, e8, e9, e10, e11, e13, e14, e15, hw1, b7.cell 9 _ rfl, b7.cell 12 _ rfl, b7.cell 13 _ rfl, b7.cell 14 _ rfl, bp7.cell 0 _ rfl, k1, k2, k3, k4]
                exact ⟨l.length - (i + 1), by omega, i + 1, rfl, by omega, hs, by push_cast; rfl, hE6.trans hE7⟩
              · simp [k1, k2, k3, k4] at hs
                simp [e0, e2, e4, e7, e8, e9, e10, e11, e13, e14, e15, hw1, b7.cell 9 _ rfl, b7.cell 12 _ rfl, b7.cell 13 _ rfl, b7.cell 14 _ rfl, bp7.cell 0 _ rfl, k1, k2, k3, k4]
                exact ⟨l.length - (i + 1), by omega, i + 1, rfl, by omega, hs, by push_cast; rfl, hE6.trans hE7⟩
            · simp [k1, k2, k3] at hs
              simp [e0, e2, e4, e7, e8, e9, e10, e11, e13, e14, e15, hw1, b7.cell 9 _ rfl, b7.cell 12 _ rfl, b7.cell 14 _ rfl, bp7.cell 0 _ rfl, k1, k2, k3]
              exact ⟨l.length - (i + 1), by omega, i + 1, rfl, by omega, hs, by push_cast; rfl, hE6.trans hE7⟩
          · simp [k1, k2] at hs
            simp [beq_dec, e0, e2, e4, e7, e8, e9, e10, e11, e13, e14, e15, hw1, b7.cell 9 _ rfl, b7.cell 14 _ rfl, bp7.cell 0 _ rfl, k1, k2]
            exact ⟨l.length - (i + 1), by omega, i + 1, rfl, by omega, hs, by push_cast; rfl, hE6.trans hE7⟩
        · simp [k1] at hs
          simp [beq_dec, e0, e2, e4, e7, e8, e9, e10, e11, e13, e14, e15, hw1, b7.cell 9 _ rfl, bp7.cell 0 _ rfl, k1]
          exact ⟨l.length - (i + 1), by omega, i + 1, rfl, by omega, hs, by push_cast; rfl, hE6.trans hE7⟩
    · have : i = l.length := by omega
      subst this
      rw [List.take_length, hz] at e14
      simp [e0, e8, e15, hlen]
      have hB6 := hB5.ext hE6
      have hX6 := hM5.trans hE6.mod
      refine FN.mono (num_c _ _) ?_
      rintro _ w7 ⟨rfl, rfl⟩
      simp [e10, e14]
      cases hy : s.y with
      | true =>
        simp [e2, e4, e7, e9, e11, hy, bp6.cell 0 _ rfl, bp6.cell 1 _ rfl]
        refine FN.mono (off_c hB6 p.1 p.2 (max s.u a)) ?_
        rintro _ w8 ⟨rfl, hE8⟩
        rw [hoff.1]
        simp
        refine FN.mono (works_c _) ?_
        rintro _ w9 ⟨rfl, hE9⟩
        simp
        exact hE1.trans (((hX6.trans hE8.mod).trans hE9.mod).ext fun _ h => h)
      | false =>
        simp [e2, e4, e7, e9, hy, bp6.cell 0 _ rfl, bp6.cell 1 _ rfl]
        refine FN.mono (off_c hB6 p.1 p.2 a) ?_
        rintro _ w8 ⟨rfl, hE8⟩
        rw [hoff.2 hy]
        simp [e2, e4, e7, e11, (bp6.ext hE8).cell 0 _ rfl, (bp6.ext hE8).cell 1 _ rfl]
        refine FN.mono (off_c (hB6.ext hE8) p.1 p.2 (max s.u a)) ?_
        rintro _ w9 ⟨rfl, hE9⟩
        rw [hoff.1]
        simp
        refine FN.mono (works_c _) ?_
        rintro _ w10 ⟨rfl, hE10⟩
        simp
        exact hE1.trans ((((hX6.trans hE8.mod).trans hE9.mod).trans hE10.mod).ext fun _ h => h)
end Go.Proofs
