/-
  Contracts of the functions that the law reaches, step by step.
-/
import Derived.Test.YthamfghcfjhifaaGreatDoorAfF
import Derived.Laws.MakeOwn
namespace Go.Proofs
open Pk
set_option maxRecDepth 10000
attribute [local simp] beq_dec bne_dec
theorem dwidth_c {k : Nat} (hk : isWid k) (w : World) : FN Tryz.prog 118 [i64 k] w fun e w' => e = .returned (.bool true) ∧ w' = w := by
  refine FN_enter Tryz.func118 rfl rfl (by kernel_rfl) ?_
  unfold isWid at hk
  have hcase : k = 1 ∨ k = 2 ∨ k = 4 ∨ k = 8 := by omega
  rcases hcase with rfl | rfl | rfl | rfl <;> simp
/-- The bytes of a number, the last ones laid. -/
def beP (k : Nat) (n : Int) (i : Nat) : List Int := (List.range k).map fun j => if i ≤ j then n / ((2 ^ (8 * (k - 1 - j)) : Nat) : Int) % 256 else 0
theorem beP_len (k : Nat) (n : Int) (i : Nat) : (beP k n i).length = k := by simp [beP]
theorem beP_0 (k : Nat) (n : Int) : beP k n 0 = beN k n := by simp [beP, beN]
theorem beP_k (k : Nat) (n : Int) : beP k n k = List.replicate k 0 := by
  refine List.ext_getElem (by simp [beP]) fun j h1 h2 => ?_
  have : j < k := by simpa [beP] using h1
  simp [beP]
  omega
theorem beP_set {k : Nat} {n : Int} {i : Nat} (hi : i < k) : (beP k n (i + 1)).set i (n / ((2 ^ (8 * (k - 1 - i)) : Nat) : Int) % 256) = beP k n i := by
  refine List.ext_getElem (by simp [beP]) fun j h1 h2 => ?_
  have hj : j < k := by simpa [beP] using h2
  rw [List.getElem_set]
  by_cases e : i = j
  · subst e; simp [beP]
  · simp [e, beP]
    by_cases h3 : i + 1 ≤ j
    · rw [if_pos (by omega), if_pos (by omega)]
    · rw [if_neg (by omega), if_neg (by omega)]
set_option maxHeartbeats 1000000 in
theorem rput_c {k : Nat} {n : Int} (hk : isWid k) (h0 : 0 ≤ n ∧ n ≤ 18446744073709551615) (w : World) : FN Tryz.prog 90 [u64 n, i64 k] w fun e w' => (∃ v, e = .returned (.tuple #[v, i64 (if n / ((2 ^ (8 * k) : Nat) : Int) = 0 then 0 else 4)]) ∧ (n / ((2 ^ (8 * k) : Nat) : Int) = 0 → w'.ownsRow w.heap.size 5 1 v k ((beN k n).map u8))) ∧ Ext w w' := by
  have hk8 : k ≤ 8 ∧ 0 < k := by unfold isWid at hk; omega
  refine FN_enter Tryz.func90 rfl rfl (by kernel_rfl) ?_
  simp
  refine FN.mono (dwidth_c hk w) ?_
  rintro _ w1 ⟨rfl, rfl⟩
  simp
  have hmk : (Instr.makeSlice 31 (i64 k) (i64 k)).run Tryz.prog w1 = .ok (.slice (some ⟨w1.heap.size, 0, none⟩) k k) (w1.alloc (.cells ((beP k n k).map u8).toArray 5)) := by
    obtain ⟨i, hi, hz, hs, hb⟩ : ∃ i, Tryz.prog.info? 5 = some i ∧ i.zero = some (u8 0) ∧ i.size = 1 ∧ i.bytes = 1 := ⟨_, rfl, by kernel_rfl, by kernel_rfl, by kernel_rfl⟩
    have := run_makeSlice (w := w1) 31 5 i (u8 0) (by simp) hi hz .i64 .i64 k k (by omega) (Int.le_refl _) (by rw [hs]; omega) (by rw [hb]; omega) (by omega)
    rw [hs, Int.toNat_natCast] at this
    rw [beP_k]
    have hmc : madeCells (u8 0).cells (k * 1) = ((List.replicate k (0 : Int)).map u8).toArray := by
      refine Array.ext (by simp [madeCells]) fun j h1 h2 => ?_
      simp [madeCells, Value.cells, Nat.mod_one]
    rw [hmc] at this
    exact this
  have hE2 : Ext w1 (w1.alloc (.cells ((beP k n k).map u8).toArray 5)) := (Ext.refl _).alloc _
  have b2 : Blk (w1.alloc (.cells ((beP k n k).map u8).toArray 5)) w1.heap.size ((beP k n k).map u8) := Blk.new w1 _ 5
  have o2 := own_made w1 ((beP k n k).map u8) 5 1 k (by simp [beP_len]) (by omega) w1.heap.size (Nat.le_refl _)
  simp [hmk]
  obtain ⟨sb, hsb⟩ : ∃ sb, sb = w1.heap.size := ⟨_, rfl⟩
  rw [← hsb] at b2 o2 ⊢
  generalize (w1.alloc (.cells ((beP k n k).map u8).toArray 5)) = w2 at *
  have qk := wrap64 ((k : Int) - 1) (by omega) (by omega)
  refine WC_loop (fun j ρ ds w' => ∃ i : Nat, j = i ∧ i ≤ k ∧ ρ 6 = .slice (some ⟨sb, 0, none⟩) k k ∧ ρ 7 = i64 ((i : Int) - 1) ∧ ρ 0 = u64 (n / ((2 ^ (8 * (k - i)) : Nat) : Int)) ∧ ds = [] ∧ Ext w1 w' ∧ Blk w' sb ((beP k n i).map u8) ∧ w'.ownsRow sb 5 1 (.slice (some ⟨sb, 0, none⟩) k k) k ((beP k n i).map u8)) k ⟨k, rfl, Nat.le_refl _, by simp, by simp [qk], by simp, rfl, hE2, b2, o2⟩ ?_
  rintro i ρ ds w3 ⟨_, rfl, hi, e6, e7, e0, rfl, hE3, b3, o3⟩
  obtain ⟨q, hq⟩ : ∃ q, q = n / ((2 ^ (8 * (k - i)) : Nat) : Int) := ⟨_, rfl⟩
  rw [← hq] at e0
  have hp : (0 : Int) < ((2 ^ (8 * (k - i)) : Nat) : Int) := by exact_mod_cast Nat.pow_pos (by omega)
  have hq0 : 0 ≤ q := by rw [hq]; exact Int.ediv_nonneg h0.1 (by omega)
  have hqm : q ≤ 18446744073709551615 := by rw [hq]; exact Int.le_trans (Int.ediv_le_self _ h0.1) h0.2
  cases i with
  | zero =>
    simp [e7, e0]
    simp only [Nat.sub_zero] at hq
    have hqq : n / 2 ^ (8 * k) = q := by rw [hq]; push_cast; rfl
    rw [beP_0] at o3
    by_cases q0 : q = 0
    · rw [show decide (0 < q) = false by simp [q0]]
      simp [e6, hqq, q0]
      exact ⟨o3, hE3⟩
    · rw [show decide (0 < q) = true by simp; omega]
      simp [hqq, q0]
      exact hE3
  | succ i =>
    have h1 : ((i + 1 : Nat) : Int) - 1 = i := by omega
    rw [h1] at e7
    have ix := (sl_of_own o3).index (P := Tryz.prog) (t := 31) (by simp) .i64 i (by omega) (by omega) w3
    have c3 := b3.cell i (u8 ((beP k n (i + 1))[i]'(by rw [beP_len]; omega))) (by rw [List.getElem?_map, List.getElem?_eq_getElem (by rw [beP_len]; omega)]; rfl)
    have q8 : IntKind.u8.wrap (q % 256) = q % 256 := wrap8u _ (by omega) (by omega)
    have hset : ((beP k n (i + 1)).map u8).set i (u8 (q % 256)) = (beP k n i).map u8 := by
      rw [← beP_set (k := k) (n := n) (i := i) (by omega), List.map_set, hq, show k - 1 - i = k - (i + 1) by omega]
    have b4 := b3.set i (u8 (q % 256))
    have o4 := own_set o3 i (by simp [beP_len]; omega) (u8 (q % 256))
    rw [hset] at b4 o4
    simp only [slB, slO, Nat.zero_add] at o4
    have hE4 := hE3.setCell ⟨sb, i, none⟩ (u8 (q % 256)) (by show w1.heap.size ≤ sb; omega)
    have hqd : q / 256 = n / 2 ^ (8 * (k - i)) := by
      rw [hq, Int.ediv_ediv_of_nonneg (by omega)]
      rw [show k - i = k - (i + 1) + 1 by omega, Nat.mul_add, Int.pow_add]
      push_cast
      rfl
    have t1 : q.tmod 256 = q % 256 := Int.tmod_eq_emod_of_nonneg hq0
    have t2 : q.tdiv 256 = q / 256 := Int.tdiv_eq_ediv_of_nonneg hq0
    simp at ix
    simp [e6, e7, e0, ix, c3, b3.thaw, q8, t1, t2, slB, slO]
    refine ⟨i, by omega, by omega, wrap64 _ (by omega) (by omega), ?_, hE4, b4, o4⟩
    rw [wrap64u _ (by omega) (by omega), hqd]
theorem fits_div {k : Nat} {n : Int} (hk : isWid k) (h0 : 0 ≤ n) (h1 : n ≤ 18446744073709551615) : (n / ((2 ^ (8 * k) : Nat) : Int) = 0) ↔ (k : Int) ≥ widN n := by
  unfold isWid at hk
  have hcase : k = 1 ∨ k = 2 ∨ k = 4 ∨ k = 8 := by omega
  have hd : ∀ m : Int, 0 < m → (n / m = 0 ↔ n < m) := fun m hm => by
    constructor
    · intro h
      have h2 := Int.mul_ediv_add_emod n m
      have h3 := Int.emod_lt_of_pos n hm
      rw [h] at h2
      omega
    · exact Int.ediv_eq_zero_of_lt h0
  unfold widN
  rcases hcase with rfl | rfl | rfl | rfl
  all_goals
    rw [hd _ (by decide)]
    simp only [Nat.reduceMul, Nat.reducePow]
    repeat' split
    all_goals omega
def ws3 : List Int := [1, 2, 4]
set_option maxHeartbeats 1000000 in
theorem rleast_c {n : Int} (h0 : 0 ≤ n ∧ n ≤ 18446744073709551615) (w : World) : FN Tryz.prog 89 [u64 n] w fun e w' => e = .returned (i64 (widN n)) ∧ Ext w w' := by
  refine FN_enter Tryz.func89 rfl rfl (by kernel_rfl) ?_
  simp
  have hE1 : Ext w (w.alloc (.cells #[i64 1, i64 2, i64 4] 3)) := (Ext.refl w).alloc _
  have s1 : Sl (w.alloc (.cells #[i64 1, i64 2, i64 4] 3)) 1 (.slice (some ⟨w.heap.size, 0, none⟩) 3 3) 3 (ws3.map i64) := Sl.made w (ws3.map i64) 3 1 3 rfl
  obtain ⟨sb, hsb⟩ : ∃ sb, sb = w.heap.size := ⟨_, rfl⟩
  rw [← hsb] at s1 ⊢
  generalize (w.alloc (.cells #[i64 1, i64 2, i64 4] 3)) = w1 at *
  refine WC_loop (fun j ρ ds w' => ∃ i : Nat, j = 3 - i ∧ i ≤ 3 ∧ ρ 3 = .slice (some ⟨sb, 0, none⟩) 3 3 ∧ ρ 4 = i64 i ∧ ρ 0 = u64 n ∧ ds = [] ∧ Ext w1 w' ∧ (1 ≤ i → ¬ n < 256) ∧ (2 ≤ i → ¬ n < 65536) ∧ (3 ≤ i → ¬ n < 4294967296)) 3 ⟨0, rfl, by omega, by simp, by simp, by simp, rfl, Ext.refl _, by omega, by omega, by omega⟩ ?_
  rintro j ρ ds w3 ⟨i, rfl, hi, e3, e4, e0, rfl, hE3, g1, g2, g3⟩
  by_cases hlt : i < 3
  · have hlt' : (i : Int) < 3 := by omega
    have ix := (s1.ext hE3).index (P := Tryz.prog) (t := 91) (by simp) .i64 i (by omega) (by omega) w3
    obtain ⟨k, hk, hwk⟩ : ∃ k : Nat, isWid k ∧ ws3[i]? = some (k : Int) := by
      have hc : i = 0 ∨ i = 1 ∨ i = 2 := by omega
      rcases hc with rfl | rfl | rfl
      · exact ⟨1, by simp [isWid], rfl⟩
      · exact ⟨2, by simp [isWid], rfl⟩
      · exact ⟨4, by simp [isWid], rfl⟩
    have c3 := (s1.ext hE3).at_ i (i64 k) (by rw [List.getElem?_map, hwk]; rfl)
    have hfd := fits_div hk h0.1 h0.2
    simp at ix c3
    simp [e3, e4, e0, hlt', ix, c3]
    refine FN.mono (rput_c hk h0 w3) ?_
    rintro _ w4 ⟨⟨v, rfl, -⟩, hE4⟩
    by_cases hz : n / ((2 ^ (8 * k) : Nat) : Int) = 0
    · rw [if_pos hz]
      have hw : widN n = k := by
        have h2 := hfd.1 hz
        have hc : i = 0 ∨ i = 1 ∨ i = 2 := by omega
        unfold widN at *
        rcases hc with rfl | rfl | rfl
        · simp [ws3] at hwk
          have : k = 1 := by omega
          subst this
          split at h2
          · rw [if_pos ‹_›]
          · rename_i h; revert h2; repeat' split
            all_goals omega
        · simp [ws3] at hwk
          have : k = 2 := by omega
          subst this
          rw [if_neg (g1 (by omega))] at h2 ⊢
          split at h2
          · rw [if_pos ‹_›]
          · revert h2; split <;> omega
        · simp [ws3] at hwk
          have : k = 4 := by omega
          subst this
          rw [if_neg (g1 (by omega)), if_neg (g2 (by omega))] at h2 ⊢
          split at h2
          · rw [if_pos ‹_›]
          · omega
      have ix4 := (s1.ext (hE3.trans hE4)).index (P := Tryz.prog) (t := 91) (by simp) .i64 i (by omega) (by omega) w4
      have c4 := (s1.ext (hE3.trans hE4)).at_ i (i64 k) (by rw [List.getElem?_map, hwk]; rfl)
      simp at ix4 c4
      simp [e3, e4, ix4, c4, hw]
      exact hE1.trans (hE3.trans hE4)
    · rw [if_neg hz]
      have hgt : ¬ ((k : Int) ≥ widN n) := fun h => hz (hfd.2 h)
      have key : ∀ (j : Nat) (kk : Int) (bd : Int), i = j → ws3[j]? = some kk → ((kk = 1 ∧ bd = 256) ∨ (kk = 2 ∧ bd = 65536) ∨ (kk = 4 ∧ bd = 4294967296)) → ¬ n < bd := by
        intro j kk bd e hj hb hn
        subst e
        rw [hj] at hwk
        cases hwk
        apply hgt
        unfold widN
        rcases hb with ⟨e1, rfl⟩ | ⟨e1, rfl⟩ | ⟨e1, rfl⟩
        all_goals
          have : k = 1 ∨ k = 2 ∨ k = 4 := by omega
          repeat' split
          all_goals omega
      simp [e3, e4, e0]
      refine ⟨_, ?_, i + 1, rfl, by omega, by push_cast; exact wrap64 _ (by omega) (by omega), hE3.trans hE4, ?_, ?_, ?_⟩
      · omega
      · intro h
        by_cases e : i = 0
        · have := key 0 1 256 e rfl (.inl ⟨rfl, rfl⟩); omega
        · have := g1 (by omega); omega
      · intro h
        by_cases e : i = 1
        · have := key 1 2 65536 e rfl (.inr (.inl ⟨rfl, rfl⟩)); omega
        · have := g2 (by omega); omega
      · intro h
        by_cases e : i = 2
        · have := key 2 4 4294967296 e rfl (.inr (.inr ⟨rfl, rfl⟩)); omega
        · have := g3 (by omega); omega
  · have h3 : i = 3 := by omega
    subst h3
    have hw : widN n = 8 := by
      unfold widN
      rw [if_neg (g1 (by omega)), if_neg (g2 (by omega)), if_neg (g3 (by omega))]
    simp [e4, hw]
    exact hE1.trans hE3
end Go.Proofs
namespace Go.Proofs
open Pk
set_option maxRecDepth 10000
attribute [local simp] beq_dec bne_dec
theorem widX_lt (n : Int) : 0 ≤ widX n ∧ widX n ≤ 3 := by
  unfold widX
  repeat' split
  all_goals omega
theorem widN_X (n : Int) : (widN n : Int) = ((2 ^ (widX n).toNat : Nat) : Int) := by
  unfold widN widX
  repeat' split
  all_goals decide
set_option maxHeartbeats 1000000 in
theorem docHead_c {m n : Int} (hm : 0 ≤ m ∧ m ≤ 7) (h0 : 0 ≤ n ∧ n ≤ 18446744073709551615) (w : World) : FN Tryz.prog 42 [i64 m, u64 n] w fun e w' => ∃ v, e = .returned v ∧ w'.ownsRow w.heap.size 5 1 v (headB m n).length ((headB m n).map u8) ∧ Ext w w' := by
  refine FN_enter Tryz.func42 rfl rfl (by kernel_rfl) ?_
  have q1 := wrap64 (32 * m) (by omega) (by omega)
  have q2 := wrap8u (32 * m) (by omega) (by omega)
  simp [q1, q2]
  by_cases hn : n < 24
  · have q3 := wrap8u n h0.1 (by omega)
    have q4 := wrap8u (32 * m + n) (by omega) (by omega)
    have hh : headB m n = [32 * m + n] := by unfold headB; rw [if_pos hn]
    simp [hn, q3, q4]
    rw [hh]
    exact ⟨own_made w [u8 (32 * m + n)] 5 1 1 rfl (by omega) _ (Nat.le_refl _), (Ext.refl _).alloc _⟩
  · have hh : headB m n = (32 * m + 24 + widX n) :: beN (widN n) n := by unfold headB; rw [if_neg hn]
    simp [hn]
    refine FN.mono (rleast_c h0 w) ?_
    rintro _ w1 ⟨rfl, hE1⟩
    simp
    have hz : n / ((2 ^ (8 * widN n) : Nat) : Int) = 0 := (fits_div (widN_is n) h0.1 h0.2).2 (Int.le_refl _)
    refine FN.mono (rput_c (widN_is n) h0 w1) ?_
    rintro _ w2 ⟨⟨v, rfl, ho⟩, hE2⟩
    rw [if_pos hz]
    have ho := ho hz
    have hE12 := hE1.trans hE2
    obtain ⟨X, hX⟩ : ∃ X, X = (widX n).toNat := ⟨_, rfl⟩
    have hX3 : X ≤ 3 := by have := widX_lt n; omega
    have hXx : widX n = X := by have := widX_lt n; omega
    have hwX : (widN n : Int) = ((2 ^ X : Nat) : Int) := by rw [hX]; exact widN_X n
    simp
    refine WC_loop (fun j ρ ds w' => ∃ e : Nat, j = e ∧ e ≤ X ∧ ρ 5 = u8 (32 * m) ∧ ρ 7 = v ∧ ρ 9 = u8 (24 + (X - e : Int)) ∧ ρ 10 = i64 ((2 ^ e : Nat) : Int) ∧ ds = [] ∧ w' = w2) X ⟨X, rfl, Nat.le_refl _, by simp, by simp, by simp, by simp [hwX], rfl, rfl⟩ ?_
    rintro e ρ ds w3 ⟨_, rfl, he, e5, e7, e9, e10, rfl, rfl⟩
    cases e with
    | zero =>
      have q5 := wrap8u (32 * m + (24 + X)) (by omega) (by omega)
      have o1 := own_made w3 [u8 (32 * m + (24 + X))] 5 1 1 rfl (by omega) w.heap.size hE12.size
      have hEa : Ext w3 (w3.alloc (.cells #[u8 (32 * m + (24 + X))] 5)) := (Ext.refl _).alloc _
      obtain ⟨v', w5, hr, ho5, hM5, -⟩ := append_own (P := Tryz.prog) (t := 31) (ty := 31) (e := 5) (s := 1) (by simp) (by simp) (by kernel_rfl) o1 ((sl_of_own ho).ext hEa) (by intro u hu; simp at hu; obtain ⟨z, -, rfl⟩ := hu; rfl) (by have := widN_is n; unfold isWid at this; omega) (hE12.trans hEa).size
      simp [e5, e7, e9, e10, q5, hr]
      have hlen : (headB m n).length = 1 + widN n := by rw [hh]; simp [beN_len]; omega
      have hcs : (headB m n).map u8 = [u8 (32 * m + (24 + X))] ++ (beN (widN n) n).map u8 := by rw [hh, hXx]; simp; omega
      rw [hlen, hcs]
      refine ⟨ho5, ((hE12.trans hEa).mod (S := fun k => w.heap.size ≤ k)).trans (hM5.weaken fun k hk => ?_) |>.ext fun _ h => h⟩
      have h2 := hk.2
      simp [slB] at h2
      have := hE12.size
      omega
    | succ e =>
      obtain ⟨p, hp⟩ : ∃ p : Int, p = ((2 ^ e : Nat) : Int) := ⟨_, rfl⟩
      have hp0 : 0 < p := by rw [hp]; exact_mod_cast Nat.pow_pos (by omega)
      have hp8 : p ≤ 8 := by
        rw [hp]
        have : 2 ^ e ≤ 2 ^ 3 := Nat.pow_le_pow_right (by omega) (by omega)
        omega
      have h2p : ((2 ^ (e + 1) : Nat) : Int) = 2 * p := by rw [Nat.pow_succ, hp]; omega
      rw [h2p] at e10
      have hd : (2 * p).tdiv 2 = p := by rw [Int.tdiv_eq_ediv_of_nonneg (by omega)]; omega
      have q6 := wrap64 p (by omega) (by omega)
      have q7 := wrap8u (24 + ((X : Int) - ((e : Int) + 1)) + 1) (by omega) (by omega)
      have hgt : 1 < 2 * p := by omega
      simp [e5, e7, e9, e10, hgt, hd, q6, q7]
      exact ⟨e, by omega, by omega, by omega, by rw [hp]; push_cast; rfl⟩
end Go.Proofs
namespace Go.Proofs
open Pk
set_option maxRecDepth 10000
attribute [local simp] beq_dec bne_dec
theorem byte_one {l : List Int} : ∀ u ∈ l.map u8, u.oneCell' = true := by
  intro u hu
  simp at hu
  obtain ⟨z, -, rfl⟩ := hu
  rfl
end Go.Proofs
