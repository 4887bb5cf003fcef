/-
  Contracts of the functions that the law reaches, step by step.
-/
import Derived.Test.YthamfghcfjhifaaGreatDoorAuA
import Derived.Test.YthamfghcfjhifaaGreatDoorEngV
import Derived.Lib.Strings
import Derived.Laws.RangeAny
namespace Go.Proofs
open Pk
set_option maxRecDepth 10000
attribute [local simp] beq_dec bne_dec
theorem dec_c (s : ByteArray) (h0 : 0 < s.size) {w : World} (hT : Tabs w) : FN Tryz.prog 131 [.string s] w fun e w' => (∃ r, e = .returned (.tuple #[.int .i32 r, i64 (Utf8.decode s 0).2])) ∧ Ext w w' := by
  refine FN_enter Tryz.func131 rfl rfl (by kernel_rfl) ?_
  have ix : ∀ W, (Instr.index 9 (.string s) (i64 0)).run Tryz.prog W = .ok (u8 (s.get! 0).toNat) W := fun W => by
    have := r_index_str (P := Tryz.prog) (w := W) (t := 9) s .i64 0 (by simp) h0
    rw [get_lt s 0 h0]
    exact this
  have hne : s.toList.isEmpty = false := by
    rw [Lib.toList_data]
    cases h : s.data.toList with
    | nil => exact absurd (show s.size = 0 by rw [Lib.size_eq, h]; rfl) (by omega)
    | cons _ _ => rfl
  obtain ⟨x0, hx0⟩ : ∃ x0, s.get! 0 = x0 := ⟨_, rfl⟩
  rw [hx0] at ix
  have l0 := x0.toNat_lt
  by_cases ha : x0.toNat < 128
  · have ha' : (x0.toNat : Int) < 128 := by omega
    have hd : (Utf8.decode s 0).2 = 1 := by rw [Lib.decode_at, hx0]; simp [Lib.decodeN, ha]
    simp [hne, ix, ha', hd]
    exact Ext.refl _
  · have ha' : ¬ (x0.toNat : Int) < 128 := by omega
    simp [hne, ix, ha']
    refine FN.mono (slow_c s h0 hT) ?_
    rintro _ w1 ⟨⟨r, rfl⟩, hE⟩
    simp
    exact hE
/-! ### A range over a text -/
def SIter (w : World) (b : Nat) (s : ByteArray) (p : Nat) : Prop := w.heap[b]? = some (.stringIter s p)
theorem SIter.lt {w : World} {b : Nat} {s : ByteArray} {p : Nat} (h : SIter w b s p) : b < w.heap.size := (Array.getElem?_eq_some_iff.1 h).1
theorem SIter.ext {w w' : World} {b : Nat} {s : ByteArray} {p : Nat} (h : SIter w b s p) (hE : Ext w w') : SIter w' b s p := (hE.blk b h.lt).trans h
theorem siter_end {P : Program} {w : World} {b : Nat} {s : ByteArray} {p : Nat} (h : SIter w b s p) (hp : ¬ p < s.size) (ty : TypeId) : (Instr.next (.pointer (some ⟨b, 0, none⟩)) true ty).run P w = .ok (.tuple #[.bool false]) w := by
  unfold SIter at h
  simp [Instr.next, getObj, Sem.run, h, hp]
theorem siter_next {P : Program} {w : World} {b : Nat} {s : ByteArray} {p : Nat} (h : SIter w b s p) (hp : p < s.size) (ty : TypeId) : ∃ w', (Instr.next (.pointer (some ⟨b, 0, none⟩)) true ty).run P w = .ok (.tuple #[.bool true, .int .i64 p, .int .i32 (Utf8.decode s p).1]) w' ∧ SIter w' b s (p + (Utf8.decode s p).2) ∧ Mod (· = b) w w' := by
  have hlt := h.lt
  unfold SIter at h
  refine ⟨{ w with heap := w.heap.setIfInBounds b (.stringIter s (p + (Utf8.decode s p).2)) }, ?_, ?_, ?_⟩
  · simp only [Instr.next, getObj, setObj, Sem.run_bind, Sem.run, h, Result.andThen, hp, if_true]
    simp [goInt]
  · unfold SIter
    simp [hlt]
  · refine ⟨rfl, rfl, rfl, by simp, fun j hj hne => ?_⟩
    have : b ≠ j := fun e => hne e.symm
    simp [this]
/-! ### Which texts are right, plain -/
theorem r1_class {c : Nat → Int} {n : Nat} {lo hi : Int} (h : r1C (c 0) = (n, lo, hi)) : r1 c = r1L c n (n - 1) 1 lo hi := by unfold r1; rw [h]
set_option maxHeartbeats 4000000 in
theorem r1_dec {n b0 b1 b2 b3 : Nat} (hn : 1 ≤ n) (l0 : b0 < 256) (l1 : b1 < 256) (l2 : b2 < 256) (l3 : b3 < 256) {c : Nat → Int} (h0 : c 0 = b0) (h1 : c 1 = if 1 < n then (b1 : Int) else -1) (h2 : c 2 = if 2 < n then (b2 : Int) else -1) (h3 : c 3 = if 3 < n then (b3 : Int) else -1) :
    (Lib.decodeN n b0 b1 b2 b3).2 = max 1 (r1 c) ∧ (((Lib.decodeN n b0 b1 b2 b3).1 ≠ 65533 ∨ 1 < (Lib.decodeN n b0 b1 b2 b3).2) ↔ r1 c ≠ 0) := by
  by_cases k0 : b0 < 128
  · rw [r1_class (show r1C (c 0) = (1, 0, 127) by rw [h0]; unfold r1C; rw [if_neg (by omega), if_neg (by omega), if_neg (by omega), if_neg (by omega), if_neg (by omega), if_neg (by omega), if_neg (by omega), if_neg (by omega)])]
    unfold Lib.decodeN
    rw [if_pos k0]
    simp [r1L]
    omega
  by_cases k1 : 194 ≤ b0 ∧ b0 ≤ 223
  · rw [r1_class (show r1C (c 0) = (2, 128, 191) by rw [h0]; unfold r1C; rw [if_pos (by omega)])]
    simp only [r1L, h1, Nat.reduceSub]
    unfold Lib.decodeN
    repeat' split
    all_goals first | (exfalso; omega) | (simp only []; omega)
  by_cases k2 : b0 = 224
  · rw [r1_class (show r1C (c 0) = (3, 160, 191) by rw [h0, k2]; rfl)]
    simp only [r1L, h1, h2, Nat.reduceSub, Nat.reduceAdd]
    unfold Lib.decodeN
    repeat' split
    all_goals first | (exfalso; omega) | (simp only []; omega)
  by_cases k3 : b0 = 237
  · rw [r1_class (show r1C (c 0) = (3, 128, 159) by rw [h0, k3]; rfl)]
    simp only [r1L, h1, h2, Nat.reduceSub, Nat.reduceAdd]
    unfold Lib.decodeN
    repeat' split
    all_goals first | (exfalso; omega) | (simp only []; omega)
  by_cases k4 : 225 ≤ b0 ∧ b0 ≤ 239
  · rw [r1_class (show r1C (c 0) = (3, 128, 191) by rw [h0]; unfold r1C; rw [if_neg (by omega), if_neg (by omega), if_neg (by omega), if_pos (by omega)])]
    simp only [r1L, h1, h2, Nat.reduceSub, Nat.reduceAdd]
    unfold Lib.decodeN
    repeat' split
    all_goals first | (exfalso; omega) | (simp only []; omega)
  by_cases k5 : b0 = 240
  · rw [r1_class (show r1C (c 0) = (4, 144, 191) by rw [h0, k5]; rfl)]
    simp only [r1L, h1, h2, h3, Nat.reduceSub, Nat.reduceAdd]
    unfold Lib.decodeN
    repeat' split
    all_goals first | (exfalso; omega) | (simp only []; omega)
  by_cases k6 : b0 = 244
  · rw [r1_class (show r1C (c 0) = (4, 128, 143) by rw [h0, k6]; rfl)]
    simp only [r1L, h1, h2, h3, Nat.reduceSub, Nat.reduceAdd]
    unfold Lib.decodeN
    repeat' split
    all_goals first | (exfalso; omega) | (simp only []; omega)
  by_cases k7 : 241 ≤ b0 ∧ b0 ≤ 243
  · rw [r1_class (show r1C (c 0) = (4, 128, 191) by rw [h0]; unfold r1C; rw [if_neg (by omega), if_neg (by omega), if_neg (by omega), if_neg (by omega), if_neg (by omega), if_neg (by omega), if_pos (by omega)])]
    simp only [r1L, h1, h2, h3, Nat.reduceSub, Nat.reduceAdd]
    unfold Lib.decodeN
    repeat' split
    all_goals first | (exfalso; omega) | (simp only []; omega)
  · rw [r1_class (show r1C (c 0) = (0, 0, 0) by rw [h0]; unfold r1C; rw [if_neg (by omega), if_neg (by omega), if_neg (by omega), if_neg (by omega), if_neg (by omega), if_neg (by omega), if_neg (by omega), if_pos (by omega)])]
    simp only [r1L, Nat.zero_sub]
    unfold Lib.decodeN
    repeat' split
    all_goals first | (exfalso; omega) | (simp only []; omega)
theorem dec_r1 (s : ByteArray) {p : Nat} (h : p < s.size) : (Utf8.decode s p).2 = max 1 (r1 fun i => octA s (p + i)) ∧ (((Utf8.decode s p).1 ≠ 65533 ∨ 1 < (Utf8.decode s p).2) ↔ (r1 fun i => octA s (p + i)) ≠ 0) := by
  rw [Lib.decode_at]
  have hb : ∀ k, (s.get! k).toNat < 256 := fun k => (s.get! k).toNat_lt
  refine r1_dec (by omega) (hb _) (hb _) (hb _) (hb _) ?_ ?_ ?_ ?_
  · simp only [octA, Nat.add_zero]; rw [if_pos h]
  all_goals
    simp only [octA]
    split
    · rw [if_pos (by omega)]
    · rw [if_neg (by omega)]
/-- Are a text's runes right, from a place on? -/
def txtF (s : ByteArray) : Nat → Nat → Bool
  | 0, _ => true
  | f + 1, p => if p < s.size then decide ((r1 fun i => octA s (p + i)) ≠ 0) && txtF s f (p + max 1 (r1 fun i => octA s (p + i))) else true
theorem txtF_more (s : ByteArray) : ∀ (f g p : Nat), s.size - p ≤ f → s.size - p ≤ g → txtF s f p = txtF s g p
  | 0, 0, p, _, _ => rfl
  | 0, g + 1, p, hf, _ => by simp only [txtF]; rw [if_neg (by omega)]
  | f + 1, 0, p, _, hg => by simp only [txtF]; rw [if_neg (by omega)]
  | f + 1, g + 1, p, hf, hg => by
    simp only [txtF]
    split
    · rw [txtF_more s f g _ (by omega) (by omega)]
    · rfl
def txtP (s : ByteArray) (p : Nat) : Bool := txtF s (s.size - p) p
theorem txtP_end (s : ByteArray) {p : Nat} (h : ¬ p < s.size) : txtP s p = true := by
  unfold txtP
  rw [show s.size - p = 0 by omega]; rfl
theorem txtP_step (s : ByteArray) {p : Nat} (h : p < s.size) : txtP s p = (decide ((r1 fun i => octA s (p + i)) ≠ 0) && txtP s (p + max 1 (r1 fun i => octA s (p + i)))) := by
  unfold txtP
  rw [show s.size - p = (s.size - p - 1) + 1 by omega]
  simp only [txtF]
  rw [if_pos h, txtF_more s (s.size - p - 1) (s.size - (p + max 1 (r1 fun i => octA s (p + i)))) _ (by omega) (by omega)]
/-- Is a text right? -/
def txtOk (s : ByteArray) : Bool := txtP s 0
end Go.Proofs
namespace Go.Proofs
open Pk
set_option maxRecDepth 10000
attribute [local simp] beq_dec bne_dec
def sufx (s : ByteArray) (p : Nat) : ByteArray := s.extract p s.size
theorem sufx_size (s : ByteArray) (p : Nat) : (sufx s p).size = s.size - p := by unfold sufx; rw [ByteArray.size_extract]; omega
theorem sufx_get (s : ByteArray) (p i : Nat) (h : p + i < s.size) : (sufx s p).get! i = s.get! (p + i) := by
  rw [get_lt _ i (by rw [sufx_size]; omega), get_lt _ (p + i) h]
  unfold sufx
  rw [ByteArray.getElem_extract]
theorem octA_sufx (s : ByteArray) (p i : Nat) : octA (sufx s p) i = octA s (p + i) := by
  unfold octA
  rw [sufx_size]
  by_cases h : p + i < s.size
  · rw [if_pos (by omega), if_pos h, sufx_get s p i h]
  · rw [if_neg (by omega), if_neg h]
theorem sufx_sufx (s : ByteArray) (p q : Nat) : sufx (sufx s p) q = sufx s (p + q) := by
  unfold sufx
  rw [ByteArray.extract_extract, ByteArray.size_extract]
  congr 1
  omega
theorem sufx_zero (s : ByteArray) : sufx s 0 = s := by unfold sufx; simp
theorem r1L_cases (c : Nat → Int) (n : Nat) : ∀ (k i : Nat) (lo hi : Int), 0 ≤ lo → r1L c n k i lo hi = 0 ∨ (r1L c n k i lo hi = n ∧ ∀ j, i ≤ j → j < i + k → 0 ≤ c j)
  | 0, i, lo, hi, _ => .inr ⟨rfl, fun j h1 h2 => by omega⟩
  | k + 1, i, lo, hi, h0 => by
    simp only [r1L]
    split
    · exact .inl rfl
    · rcases r1L_cases c n k (i + 1) 128 191 (by omega) with h | ⟨h, h'⟩
      · exact .inl h
      · refine .inr ⟨h, fun j h1 h2 => ?_⟩
        by_cases hj : j = i
        · subst hj; omega
        · exact h' j (by omega) (by omega)
theorem r1C_lo (a : Int) : 0 ≤ (r1C a).2.1 := by
  unfold r1C
  repeat' split
  all_goals simp
theorem r1_le (s : ByteArray) {p : Nat} (h : p < s.size) : p + (r1 fun i => octA s (p + i)) ≤ s.size := by
  unfold r1
  have hlo := r1C_lo (octA s (p + 0))
  simp only []
  generalize r1C (octA s (p + 0)) = q at *
  rcases r1L_cases (fun i => octA s (p + i)) q.1 (q.1 - 1) 1 q.2.1 q.2.2 hlo with e | ⟨e, e'⟩
  · rw [e]; omega
  · rw [e]
    by_cases h2 : q.1 ≤ 1
    · omega
    · have := e' (q.1 - 1) (by omega) (by omega)
      simp only [octA] at this
      split at this <;> omega
def TxI (s : ByteArray) (p : Nat) (b : Bool) : Prop := txtOk s = (b && txtP s p)
def TxV (s : ByteArray) (p : Nat) (v : Value) : Prop := ∃ b, v = .bool b ∧ TxI s p b
theorem slice_str {W : World} (s : ByteArray) (k : IntKind) (p : Nat) (h : p ≤ s.size) : (Instr.sliceAt 9 (.string s) (some (.int k p)) none none).run Tryz.prog W = .ok (.string (sufx s p)) W := by
  have h1 := run_slice_string_from_if (P := Tryz.prog) (w := W) 9 s k p (by simp)
  rw [run_sliceAt_string _ _ _ _ _ _ (by simp), h1, if_pos (by omega)]
  simp [sufx]
theorem rrunes_c (s : ByteArray) (hs : s.size ≤ 9223372036854775807) (w : World) : FN Tryz.prog 87 [.string s] w fun e w' => (∃ n, e = .returned (.tuple #[i64 n, .bool (txtOk s)])) ∧ w' = w := by
  refine FN_enter Tryz.func87 rfl rfl (by kernel_rfl) ?_
  simp
  refine WC_loop (fun m ρ ds w' => ∃ (p n : Nat), m = s.size - p ∧ n ≤ p ∧ p ≤ s.size ∧ ρ 0 = .string (sufx s p) ∧ ρ 4 = i64 n ∧ TxV s p (ρ 5) ∧ ds = [] ∧ w' = w) s.size
    ⟨0, 0, rfl, Nat.le_refl _, Nat.zero_le _, by simp [sufx_zero], by simp, ⟨true, by simp, by simp [TxI, txtOk]⟩, rfl, rfl⟩ ?_
  rintro m ρ ds w1 ⟨p, n, rfl, hn, hp, e0, e4, ⟨b, e5, heq⟩, rfl, rfl⟩
  by_cases h : p < s.size
  · obtain ⟨N, hN⟩ : ∃ N, (sufx s p).size = N + 1 := ⟨(sufx s p).size - 1, by rw [sufx_size]; omega⟩
    have hz : (0 : Int) < (N : Int) + 1 := by omega
    have hr := rune1_c (sufx s p) (by rw [sufx_size]; omega) w1
    rw [show octA (sufx s p) = fun i => octA s (p + i) from funext fun i => octA_sufx s p i] at hr
    unfold TxI at heq
    rw [txtP_step s h] at heq
    have hle := r1_le s h
    obtain ⟨K, hK⟩ : ∃ K, (r1 fun i => octA s (p + i)) = K := ⟨_, rfl⟩
    rw [hK] at hr hle heq
    simp [e0, hN, hz]
    refine FN.mono (hr) ?_
    rintro _ w2 ⟨rfl, rfl⟩
    have hwn : IntKind.i64.wrap ((n : Int) + 1) = n + 1 := wrap64 _ (by omega) (by omega)
    by_cases hK0 : K = 0
    · subst hK0
      have hsl := fun W => slice_str (W := W) (sufx s p) .i64 1 (by omega)
      rw [sufx_sufx, show ((1 : Nat) : Int) = 1 from rfl] at hsl
      have hin : TxI s (p + 1) false := by unfold TxI; rw [heq]; simp
      simp [e0, e4, hsl, hwn]
      exact ⟨s.size - (p + 1), by omega, p + 1, rfl, n + 1, by omega, by omega, rfl, by push_cast; rfl, ⟨_, rfl, hin⟩⟩
    · have hsl := fun W => slice_str (W := W) (sufx s p) .i64 K (by rw [sufx_size]; omega)
      rw [sufx_sufx] at hsl
      have hin : TxI s (p + K) b := by unfold TxI; rw [heq, show max 1 K = K by omega]; simp [hK0]
      simp [e0, e4, e5, hK0, hsl, hwn]
      exact ⟨s.size - (p + K), by omega, p + K, rfl, n + 1, by omega, by omega, rfl, by push_cast; rfl, ⟨_, rfl, hin⟩⟩
  · unfold TxI at heq
    rw [txtP_end s h] at heq
    have hz : (sufx s p).size = 0 := by rw [sufx_size]; omega
    simp [e0, e4, e5, hz, heq]
/-- The program's Runes, the two tables being laid. -/
theorem crunes_c (s : ByteArray) {w : World} (hT : Tabs w) : FN Tryz.prog 96 [.string s] w fun e w' => (∃ n, e = .returned (.tuple #[i64 n, .bool (txtOk s)])) ∧ Ext w w' := by
  refine FN_enter Tryz.func96 rfl rfl (by kernel_rfl) ?_
  have hrg := run_range_string (P := Tryz.prog) w 9 s (by simp)
  simp [hrg]
  have hE0 : Ext w (w.iter s 0) := (Ext.refl w).alloc _
  have hS0 : SIter (w.iter s 0) w.heap.size s 0 := w.iter_heap s 0
  generalize w.iter s 0 = w1 at *
  refine WC_loop (fun m ρ ds w' => ∃ (p : Nat) (n : Int), m = s.size - p ∧ ρ 0 = .string s ∧ ρ 2 = i64 n ∧ TxV s p (ρ 3) ∧ ρ 9 = ptr w.heap.size ∧ ds = [] ∧ Ext w w' ∧ SIter w' w.heap.size s p) s.size
    ⟨0, 0, rfl, by simp, by simp, ⟨true, by simp, by simp [TxI, txtOk]⟩, by simp, rfl, hE0, hS0⟩ ?_
  rintro m ρ ds w2 ⟨p, n, rfl, e0, e2, ⟨b, e3, heq⟩, e9, rfl, hE2, hS2⟩
  by_cases h : p < s.size
  · obtain ⟨w3, hn, hS3, hM3⟩ := siter_next (P := Tryz.prog) hS2 h 0
    have hE3 : Ext w w3 := ((hE2.mod (S := fun _ => False)).trans' hM3 (fun i hi => .inr (by omega))).ext fun _ h => h.elim
    have hsl := fun W => slice_str (W := W) s .i64 p (by omega)
    unfold TxI at heq
    rw [txtP_step s h] at heq
    obtain ⟨d1, d2⟩ := dec_r1 s h
    obtain ⟨K, hK⟩ : ∃ K, (r1 fun i => octA s (p + i)) = K := ⟨_, rfl⟩
    rw [hK] at d1 d2 heq
    have hde : (Utf8.decode (sufx s p) 0).2 = (Utf8.decode s p).2 := by
      have hz : 0 < (sufx s p).size := by rw [sufx_size]; omega
      rw [(dec_r1 (sufx s p) hz).1, d1, ← hK]
      congr 2
      funext i
      rw [octA_sufx, Nat.zero_add]
    obtain ⟨rv, hrv⟩ : ∃ rv, (Utf8.decode s p).1 = rv := ⟨_, rfl⟩
    obtain ⟨wd, hwd⟩ : ∃ wd, (Utf8.decode s p).2 = wd := ⟨_, rfl⟩
    rw [hrv, hwd] at d2
    rw [hwd] at hde d1 hS3
    rw [hrv] at hn
    simp [e0, e9, hn, hsl]
    refine FN.mono (dec_c (sufx s p) (by rw [sufx_size]; omega) (hT.ext hE3)) ?_
    rintro _ w4 ⟨⟨r, rfl⟩, hE4⟩
    rw [hde]
    have hS4 := hS3.ext hE4
    have hdec : decide (K ≠ 0) = (!decide ((rv : Int) = 65533) || decide ((1 : Int) < wd)) := by
      rw [Bool.eq_iff_iff]
      simp only [decide_eq_true_eq, Bool.or_eq_true, Bool.not_eq_true', decide_eq_false_iff_not]
      rw [← d2]
      omega
    rw [hdec] at heq
    have hin : TxV s (p + wd) (.bool (b && (!decide ((rv : Int) = 65533) || decide ((1 : Int) < wd)))) := ⟨_, rfl, by unfold TxI; rw [heq, d1, Bool.and_assoc]⟩
    have fin : ∀ (v : Value), v = .bool (b && (!decide ((rv : Int) = 65533) || decide ((1 : Int) < wd))) → ∃ m', m' < s.size - p ∧ ∃ q, m' = s.size - q ∧ TxV s q v ∧ SIter w4 w.heap.size s q := fun v hv => ⟨s.size - (p + wd), by omega, p + wd, rfl, hv ▸ hin, hS4⟩
    cases b with
    | false =>
      simp [e0, e2, e3, e9]
      obtain ⟨m', h1, q, h2, h3, h4⟩ := fin (.bool false) (by simp)
      exact ⟨m', h1, q, h2, h3, hE3.trans hE4, h4⟩
    | true =>
      by_cases c1 : (rv : Int) = 65533
      · by_cases c2 : (1 : Int) < wd
        · simp [e0, e2, e3, e9, c1, c2]
          obtain ⟨m', h1, q, h2, h3, h4⟩ := fin (.bool true) (by simp [c1, c2])
          exact ⟨m', h1, q, h2, h3, hE3.trans hE4, h4⟩
        · simp [e0, e2, e3, e9, c1, c2]
          obtain ⟨m', h1, q, h2, h3, h4⟩ := fin (.bool false) (by simp [c1, c2])
          exact ⟨m', h1, q, h2, h3, hE3.trans hE4, h4⟩
      · simp [e0, e2, e3, e9, c1]
        obtain ⟨m', h1, q, h2, h3, h4⟩ := fin (.bool true) (by simp [c1])
        exact ⟨m', h1, q, h2, h3, hE3.trans hE4, h4⟩
  · have hn := siter_end (P := Tryz.prog) hS2 h 0
    unfold TxI at heq
    rw [txtP_end s h] at heq
    simp [e2, e3, e9, hn, heq]
    exact hE2
end Go.Proofs
