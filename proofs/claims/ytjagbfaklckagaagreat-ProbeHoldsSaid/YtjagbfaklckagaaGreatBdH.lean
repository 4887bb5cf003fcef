/-
  Contracts of the functions that the law reaches, step by step.
-/
import Derived.Test.YtjagbfaklckagaaGreatBdE
namespace Go.Proofs
open Pk
set_option maxRecDepth 10000
/-! ### That it works at all -/
def r1 : Rec := ⟨3, 0, 0, 0, 0, 0, 0, 0, 0, 5, 2, false, 0, 20, 0⟩
def r2 : Rec := ⟨4, 0, 0, 0, 0, 0, 0, 0, 0, 5, 0, false, 3, 9, 2⟩
def D0 : Bd := ⟨[], [], [], 10, 0⟩
def D1 : Bd := askB D0 5 2 0
def D2 : Bd := askB D1 5 2 1
def D3 : Bd := ansB D2 r1
def D4 : Bd := foreBd D3 r2
def D5 : Bd := pruB D4 20
set_option maxHeartbeats 1000000 in
theorem works_c (w : World) : FN Tryz.prog 7 [] w fun e w' => e = .returned (.bool true) ∧ Ext w w' := by
  refine FN_enter Tryz.func7 rfl rfl (by kernel_rfl) ?_
  simp
  refine FN.mono (newB_c (p := 10) (by omega) w) ?_
  rintro _ w1 ⟨h, -⟩
  obtain ⟨t, rF, rQ, rA, rfl, hB, hE1, hfr⟩ := h (by omega)
  have ge : ∀ k, (k = t ∨ k = rF ∨ k = rQ ∨ k = rA) → w.heap.size ≤ k := hfr
  have hM1 : Mod (fun k => w.heap.size ≤ k) w w1 := hE1.mod
  change BdAt w1 t rF rQ rA D0 at hB
  simp
  refine FN.mono (ask_c hB 5 2 0) ?_
  rintro _ w2 ⟨rfl, hB2, hM2⟩
  have a1 : askR D0 5 2 0 = 0 := by decide +kernel
  have n1 : D0.n = 0 := rfl
  rw [a1]
  change BdAt w2 t rF rQ rA D1 at hB2
  simp [n1]
  refine FN.mono (ask_c hB2 5 2 1) ?_
  rintro _ w3 ⟨rfl, hB3, hM3⟩
  have a2 : askR D1 5 2 1 = 150 := by decide +kernel
  rw [a2]
  change BdAt w3 t rF rQ rA D2 at hB3
  simp
  have b7 : Blk (w3.alloc (.cells (recC r1).toArray 38)) w3.heap.size (recC r1) := Blk.new w3 _ _
  have hE4 : Ext w3 (w3.alloc (.cells (recC r1).toArray 38)) := (Ext.refl _).alloc _
  have hM4 := (((hM1.trans (hM2.weaken fun k hk => ge k (by rcases hk with h | h <;> simp [h]))).trans (hM3.weaken fun k hk => ge k (by rcases hk with h | h <;> simp [h])))).trans hE4.mod
  have h4 := hB3.ext hE4
  have q2 : QOk D2 := by unfold QOk; decide +kernel
  have ok1 : RecOk r1 := by constructor <;> decide
  have ok2 : RecOk r2 := by constructor <;> decide
  have hlt4 := h4.lt
  have lt7 := b7.lt
  have n7 : ∀ k, (k = t ∨ k = rF ∨ k = rQ ∨ k = rA) → w3.heap.size ≠ k := fun k hk e => by have := hB3.lt k hk; omega
  obtain ⟨b, hb⟩ : ∃ b, b = w3.heap.size := ⟨_, rfl⟩
  rw [← hb] at b7 n7 ⊢
  rw [show (#[Value.int IntKind.i64 3, Value.int IntKind.u32 0, Value.int IntKind.u32 0, Value.int IntKind.u64 0, Value.int IntKind.u32 0, Value.int IntKind.i64 0, Value.int IntKind.i64 0, Value.int IntKind.u64 0, Value.int IntKind.u64 0, Value.int IntKind.u32 5, Value.int IntKind.u32 2, Value.bool false, Value.int IntKind.u64 0, Value.int IntKind.u64 20, Value.int IntKind.u8 0] : Array Value) = (recC r1).toArray from rfl]
  generalize (w3.alloc (.cells (recC r1).toArray 38)) = w4 at *
  refine FN.mono (answer_c h4 q2 ok1) ?_
  rintro _ w5 ⟨rfl, hB5, hM5⟩
  have a3 : ansR D2 r1 = 0 := by decide +kernel
  rw [a3]
  change BdAt w5 t rF rQ rA D3 at hB5
  simp
  refine FN.mono (off_c hB5 5 2 19) ?_
  rintro _ w6 ⟨rfl, hE6⟩
  have o1 : offV D3 5 2 19 = true := by decide +kernel
  rw [o1]
  simp
  refine FN.mono (off_c (hB5.ext hE6) 5 2 20) ?_
  rintro _ w7 ⟨rfl, hE7⟩
  have o2 : offV D3 5 2 20 = false := by decide +kernel
  rw [o2]
  simp
  have hB7 := (hB5.ext hE6).ext hE7
  refine FN.mono (fore_c (r := r2) hB7 ok2) ?_
  rintro _ w8 ⟨rfl, hB8, hM8⟩
  have a4 : foreR D3 r2 = 0 := by decide +kernel
  rw [a4]
  change BdAt w8 t rF rQ rA D4 at hB8
  simp
  have l0 : ∀ x ∈ D4.F, 0 ≤ x.2.2 := by decide +kernel
  refine FN.mono (level_c hB8 l0 5 8) ?_
  rintro _ w9 ⟨L1, rfl, hL1, hE9⟩
  have i1 : IsLvl D4.F 5 8 2 := ⟨by decide, by decide +kernel, by decide +kernel⟩
  obtain rfl := hL1.one i1 l0
  simp
  refine FN.mono (level_c (hB8.ext hE9) l0 5 9) ?_
  rintro _ w10 ⟨L2, rfl, hL2, hE10⟩
  have i2 : IsLvl D4.F 5 9 0 := ⟨by decide, by decide +kernel, .inl rfl⟩
  obtain rfl := hL2.one i2 l0
  simp
  have hB10 := (hB8.ext hE9).ext hE10
  refine FN.mono (prune_c hB10 (by unfold Small; decide +kernel) (by decide +kernel) (by decide +kernel) 20) ?_
  rintro _ w11 ⟨rfl, hB11, hM11⟩
  have a5 : bdN D4 - bdN (pruB D4 20) = 2 := by decide +kernel
  have a6 : pruR 20 = 0 := by decide
  rw [a5, a6]
  change BdAt w11 t rF rQ rA D5 at hB11
  have c4 := b7.mod hM5 (by have := n7 rQ (by simp); have := n7 rA (by simp); rintro (h | h) <;> omega)
  have c7 := (c4.ext hE6).ext hE7
  have c8 := c7.mod hM8 (n7 _ (by simp))
  have c10 := (c8.ext hE9).ext hE10
  have c11 := c10.mod hM11 (by have := n7 rQ (by simp); have := n7 rA (by simp); have := n7 rF (by simp); rintro (h | h | h) <;> omega)
  have hMa := (((hM4.trans (hM5.weaken fun k hk => ge k (by rcases hk with h | h <;> simp [h]))).trans hE6.mod).trans hE7.mod)
  have hMb := ((hMa.trans (hM8.weaken fun k hk => ge k (by simp [hk]))).trans hE9.mod).trans hE10.mod
  have hM12 := hMb.trans (hM11.weaken fun k hk => ge k (by rcases hk with h | h | h <;> simp [h]))
  have q5 : QOk D5 := by unfold QOk; decide +kernel
  have a7 : ansR D5 r1 = 5 := by decide +kernel
  have hans := answer_c hB11 q5 ok1

  simp
  refine FN.mono (num_c _ _) ?_
  rintro _ w12 ⟨rfl, rfl⟩
  simp
  refine FN.mono (num_c _ _) ?_
  rintro _ w12 ⟨rfl, rfl⟩
  simp
  refine FN.mono (num_c _ _) ?_
  rintro _ w12 ⟨rfl, rfl⟩
  simp
  refine FN.mono (num_c _ _) ?_
  rintro _ w12 ⟨rfl, rfl⟩
  simp
  refine FN.mono (num_c _ _) ?_
  rintro _ w12 ⟨rfl, rfl⟩
  have z0 : IntKind.i64.wrap 0 = 0 := rfl
  simp [z0]
  refine FN.mono (num_c _ _) ?_
  rintro _ w12 ⟨rfl, rfl⟩
  simp [c11.cell 0 _ rfl, c11.cell 1 _ rfl, c11.cell 2 _ rfl, c11.cell 3 _ rfl, c11.cell 4 _ rfl, c11.cell 5 _ rfl, c11.cell 6 _ rfl, c11.cell 7 _ rfl, c11.cell 8 _ rfl, c11.cell 9 _ rfl, c11.cell 10 _ rfl, c11.cell 11 _ rfl, c11.cell 12 _ rfl, c11.cell 13 _ rfl, c11.cell 14 _ rfl]
  refine FN.mono hans ?_
  rintro _ w13 ⟨rfl, hB13, hM13⟩
  rw [a7]
  simp
  refine FN.mono (num_c _ _) ?_
  rintro _ w14 ⟨rfl, rfl⟩
  simp
  exact (hM12.trans (hM13.weaken fun k hk => ge k (by rcases hk with h | h <;> simp [h]))).ext fun _ h => h
end Go.Proofs
