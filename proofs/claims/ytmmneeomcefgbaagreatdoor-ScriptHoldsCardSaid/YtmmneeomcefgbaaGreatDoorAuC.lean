/-
 Contracts of the functions that the law reaches,step by step.
-/
import Derived.Test.YtmmneeomcefgbaaGreatDoorAuB
import Derived.Test.YtmmneeomcefgbaaGreatDoorAeT
import Derived.Test.YtmmneeomcefgbaaGreatDoorAeL
namespace Go.Proofs
open Pk
set_option maxRecDepth 10000
attribute [local simp] beq_dec bne_dec
def sufx (s : ByteArray) (p : Nat) : ByteArray := s.extract p s.size
theorem sufx_size (s : ByteArray) (p : Nat) : (sufx s p).size = s.size - p := by unfold sufx; rw [ByteArray.size_extract]; omega
theorem sufx_get (s : ByteArray) (p i : Nat) (h : p + i < s.size) : (sufx s p).get! i = s.get! (p + i) := by
 rw [get_lt _ i (by rw [sufx_size]; omega),get_lt _ (p + i) h]
 unfold sufx
 rw [ByteArray.getElem_extract]
theorem octA_sufx (s : ByteArray) (p i : Nat) : octA (sufx s p) i = octA s (p + i) := by
 unfold octA
 rw [sufx_size]
 by_cases h : p + i < s.size
 ·rw [if_pos (by omega),if_pos h,sufx_get s p i h]
 ·rw [if_neg (by omega),if_neg h]
def TxI (s : ByteArray) (p : Nat) (b : Bool) : Prop := txtOk s = (b && txtP s p)
def TxV (s : ByteArray) (p : Nat) (v : Value) : Prop := ∃ b,v = .bool b ∧ TxI s p b
theorem slice_str {W : World} (s : ByteArray) (k : IntKind) (p : Nat) (h : p ≤ s.size) : (Instr.sliceAt 9 (.string s) (some (.int k p)) none none).run Tryz.prog W = .ok (.string (sufx s p)) W := by
 have h1 := run_slice_string_from_if (P := Tryz.prog) (w := W) 9 s k p (by simp)
 rw [run_sliceAt_string _ _ _ _ _ _ (by simp),h1,if_pos (by omega)]
 simp [sufx]
theorem crunes_c (s : ByteArray) {w : World} (hT : Tabs w) : FN Tryz.prog 249 [.string s] w fun e w' => (∃ n, e = .returned (.tuple #[i64 n, .bool (txtOk s)])) ∧ Ext w w' := by
 refine FN_enter Tryz.func249 rfl rfl (by kernel_rfl) ?_
 have hrg := run_range_string (P := Tryz.prog) w 9 s (by simp)
 simp [hrg]
 have hE0 : Ext w (w.iter s 0) := (Ext.refl w).alloc _
 have hS0 : SIter (w.iter s 0) w.heap.size s 0 := w.iter_heap s 0
 generalize w.iter s 0 = w1 at *
 refine WC_loop (fun m ρ ds w' => ∃ (p : Nat) (n : Int), m = s.size - p ∧ ρ 0 = .string s ∧ ρ 2 = i64 n ∧ TxV s p (ρ 3) ∧ ρ 9 = ptr w.heap.size ∧ ds = [] ∧ Ext w w' ∧ SIter w' w.heap.size s p) s.size
  ⟨0,0,rfl,by simp,by simp,⟨true,by simp,by simp [TxI,txtOk]⟩,by simp,rfl,hE0,hS0⟩ ?_
 rintro m ρ ds w2 ⟨p,n,rfl,e0,e2,⟨b,e3,heq⟩,e9,rfl,hE2,hS2⟩
 by_cases h : p < s.size
 ·obtain ⟨w3,hn,hS3,hM3⟩ := siter_next (P := Tryz.prog) hS2 h 0
  have hE3 : Ext w w3 := ((hE2.mod (S := fun _ => False)).trans' hM3 (fun i hi => .inr (by omega))).ext fun _ h => h.elim
  have hsl := fun W => slice_str (W := W) s .i64 p (by omega)
  unfold TxI at heq
  rw [txtP_step s h] at heq
  obtain ⟨d1,d2⟩ := dec_r1 s h
  obtain ⟨K,hK⟩ : ∃ K,(r1 fun i => octA s (p + i)) = K := ⟨_,rfl⟩
  rw [hK] at d1 d2 heq
  have hde : (Utf8.decode (sufx s p) 0).2 = (Utf8.decode s p).2 := by
   have hz : 0 < (sufx s p).size := by rw [sufx_size]; omega
   rw [(dec_r1 (sufx s p) hz).1,d1,← hK]
   congr 2
   funext i
   rw [octA_sufx,Nat.zero_add]
  obtain ⟨rv,hrv⟩ : ∃ rv,(Utf8.decode s p).1 = rv := ⟨_,rfl⟩
  obtain ⟨wd,hwd⟩ : ∃ wd,(Utf8.decode s p).2 = wd := ⟨_,rfl⟩
  rw [hrv,hwd] at d2
  rw [hwd] at hde d1 hS3
  rw [hrv] at hn
  simp [e0,e9,hn,hsl]
  refine FN.mono (dec_c (sufx s p) (by rw [sufx_size]; omega) (hT.ext hE3)) ?_
  rintro _ w4 ⟨⟨r,rfl⟩,hE4⟩
  rw [hde]
  have hS4 := hS3.ext hE4
  have hdec : decide (K ≠ 0) = (!decide ((rv : Int) = 65533) || decide ((1 : Int) < wd)) := by
   rw [Bool.eq_iff_iff]
   simp only [decide_eq_true_eq,Bool.or_eq_true,Bool.not_eq_true',decide_eq_false_iff_not]
   rw [← d2]
   omega
  rw [hdec] at heq
  have hin : TxV s (p + wd) (.bool (b && (!decide ((rv : Int) = 65533) || decide ((1 : Int) < wd)))) := ⟨_,rfl,by unfold TxI; rw [heq,d1,Bool.and_assoc]⟩
  have fin : ∀ (v : Value),v = .bool (b && (!decide ((rv : Int) = 65533) || decide ((1 : Int) < wd))) → ∃ m',m' < s.size - p ∧ ∃ q,m' = s.size - q ∧ TxV s q v ∧ SIter w4 w.heap.size s q := fun v hv => ⟨s.size - (p + wd),by omega,p + wd,rfl,hv ▸ hin,hS4⟩
  cases b with
  | false =>
   simp [e0,e2,e3,e9]
   obtain ⟨m',h1,q,h2,h3,h4⟩ := fin (.bool false) (by simp)
   exact ⟨m',h1,q,h2,h3,hE3.trans hE4,h4⟩
  | true =>
   by_cases c1 : (rv : Int) = 65533
   ·by_cases c2 : (1 : Int) < wd
    ·simp [e0,e2,e3,e9,c1,c2]
     obtain ⟨m',h1,q,h2,h3,h4⟩ := fin (.bool true) (by simp [c1,c2])
     exact ⟨m',h1,q,h2,h3,hE3.trans hE4,h4⟩
    ·simp [e0,e2,e3,e9,c1,c2]
     obtain ⟨m',h1,q,h2,h3,h4⟩ := fin (.bool false) (by simp [c1,c2])
     exact ⟨m',h1,q,h2,h3,hE3.trans hE4,h4⟩
   ·simp [e0,e2,e3,e9,c1]
    obtain ⟨m',h1,q,h2,h3,h4⟩ := fin (.bool true) (by simp [c1])
    exact ⟨m',h1,q,h2,h3,hE3.trans hE4,h4⟩
 ·have hn := siter_end (P := Tryz.prog) hS2 h 0
  unfold TxI at heq
  rw [txtP_end s h] at heq
  simp [e2,e3,e9,hn,heq]
  exact hE2
end Go.Proofs
namespace Go.Proofs
open Pk
set_option maxRecDepth 10000
attribute [local simp] beq_dec bne_dec
end Go.Proofs
namespace Go.Proofs
open Pk
set_option maxRecDepth 10000
attribute [local simp] beq_dec bne_dec
def txA (s : ByteArray) : Option Bool := some (txtOk s)
theorem txt_txA {w : World} (hT : Tabs w) : Txt txA w := fun s b hs W hW => by
 cases hs
 exact crunes_c s (hT.ext hW)
theorem itemP_ne : ∀ (f : Nat) (bs : List Int), itemP txA f bs ≠ .error (-1)
 | 0,bs,h => by simp [itemP] at h
 | f + 1, bs, h => by
  have hlist : ∀ (n : Nat) (bs : List Int), listP (itemP txA f) n bs ≠ .error (-1) := by
   intro n
   induction n with
   | zero => intro bs h; simp [listP] at h
   | succ n ih =>
    intro bs h
    simp only [listP] at h
    split at h
    ·rename_i c hc; cases h; exact itemP_ne f bs hc
    ·split at h
     ·rename_i c hc; cases h; exact ih _ hc
     ·cases h
  simp only [itemP] at h
  split at h
  ·cases h
  split at h
  ·cases h
  split at h
  ·cases h
  unfold headedP at h
  split at h
  ·cases h
  unfold tailP at h
  split at h
  ·cases h
  split at h
  ·split at h <;> cases h
  split at h
  ·split at h
   ·split at h
    ·rename_i hn; cases hn
    ·cases h
    ·cases h
   ·cases h
  split at h
  ·split at h
   ·rename_i c hc; cases h; exact hlist _ _ hc
   ·cases h
  ·cases h
theorem firstP_ne (bs : List Int) : firstP txA bs ≠ .error (-1) := by
 unfold firstP
 split
 ·exact itemP_ne 8 bs
 ·intro h; cases h
end Go.Proofs