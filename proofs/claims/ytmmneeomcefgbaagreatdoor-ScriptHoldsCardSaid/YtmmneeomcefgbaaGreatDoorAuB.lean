/-
 Contracts of the functions that the law reaches,step by step.
-/
import Derived.Test.YtmmneeomcefgbaaGreatDoorAuA
import Derived.Test.YtmmneeomcefgbaaGreatDoorEngV
import Derived.Lib.Strings
import Derived.Laws.RangeAny
import Derived.Test.YtmmneeomcefgbaaGreatDoorScB
import Derived.Lib.AtoiErrMem
import Derived.RecoverIn
namespace Go.Proofs
open Pk
set_option maxRecDepth 10000
attribute [local simp] beq_dec bne_dec
theorem dec_c (s : ByteArray) (h0 : 0 < s.size) {w : World} (hT : Tabs w) : FN Tryz.prog 165 [.string s] w fun e w' => (∃ r, e = .returned (.tuple #[.int .i32 r, i64 (Utf8.decode s 0).2])) ∧ Ext w w' := by
 refine FN_enter Tryz.func165 rfl rfl (by kernel_rfl) ?_
 have ix : ∀ W, (Instr.index 9 (.string s) (i64 0)).run Tryz.prog W = .ok (u8 (s.get! 0).toNat) W := fun W => by
  have := r_index_str (P := Tryz.prog) (w := W) (t := 9) s .i64 0 (by simp) h0
  rw [get_lt s 0 h0]
  exact this
 have hne : s.toList.isEmpty = false := by
  rw [Lib.toList_data]
  cases h : s.data.toList with
  | nil => exact absurd (show s.size = 0 by rw [Lib.size_eq,h]; rfl) (by omega)
  | cons _ _ => rfl
 obtain ⟨x0,hx0⟩ : ∃ x0,s.get! 0 = x0 := ⟨_,rfl⟩
 rw [hx0] at ix
 have l0 := x0.toNat_lt
 by_cases ha : x0.toNat < 128
 ·have ha' : (x0.toNat : Int) < 128 := by omega
  have hd : (Utf8.decode s 0).2 = 1 := by rw [Lib.decode_at,hx0]; simp [Lib.decodeN,ha]
  simp [hne,ix,ha',hd]
  exact Ext.refl _
 ·have ha' : ¬ (x0.toNat : Int) < 128 := by omega
  simp [hne,ix,ha']
  refine FN.mono (slow_c s h0 hT) ?_
  rintro _ w1 ⟨⟨r,rfl⟩,hE⟩
  simp
  exact hE
def SIter (w : World) (b : Nat) (s : ByteArray) (p : Nat) : Prop := w.heap[b]? = some (.stringIter s p)
theorem SIter.lt {w : World} {b : Nat} {s : ByteArray} {p : Nat} (h : SIter w b s p) : b < w.heap.size := (Array.getElem?_eq_some_iff.1 h).1
theorem SIter.ext {w w' : World} {b : Nat} {s : ByteArray} {p : Nat} (h : SIter w b s p) (hE : Ext w w') : SIter w' b s p := (hE.blk b h.lt).trans h
theorem siter_end {P : Program} {w : World} {b : Nat} {s : ByteArray} {p : Nat} (h : SIter w b s p) (hp : ¬ p < s.size) (ty : TypeId) : (Instr.next (.pointer (some ⟨b, 0, none⟩)) true ty).run P w = .ok (.tuple #[.bool false]) w := by
 unfold SIter at h
 simp [Instr.next,getObj,Sem.run,h,hp]
theorem siter_next {P : Program} {w : World} {b : Nat} {s : ByteArray} {p : Nat} (h : SIter w b s p) (hp : p < s.size) (ty : TypeId) : ∃ w', (Instr.next (.pointer (some ⟨b, 0, none⟩)) true ty).run P w = .ok (.tuple #[.bool true, .int .i64 p, .int .i32 (Utf8.decode s p).1]) w' ∧ SIter w' b s (p + (Utf8.decode s p).2) ∧ Mod (· = b) w w' := by
 have hlt := h.lt
 unfold SIter at h
 refine ⟨{ w with heap := w.heap.setIfInBounds b (.stringIter s (p + (Utf8.decode s p).2)) }, ?_, ?_, ?_⟩
 ·simp only [Instr.next,getObj,setObj,Sem.run_bind,Sem.run,h,Result.andThen,hp,if_true]
  simp [goInt]
 ·unfold SIter
  simp [hlt]
 ·refine ⟨rfl,rfl,rfl,by simp,fun j hj hne => ?_⟩
  have : b ≠ j := fun e => hne e.symm
  simp [this]
theorem r1_class {c : Nat → Int} {n : Nat} {lo hi : Int} (h : r1C (c 0) = (n,lo,hi)) : r1 c = r1L c n (n - 1) 1 lo hi := by unfold r1; rw [h]
set_option maxHeartbeats 4000000 in
theorem r1_dec {n b0 b1 b2 b3 : Nat} (hn : 1 ≤ n) (l0 : b0 < 256) (l1 : b1 < 256) (l2 : b2 < 256) (l3 : b3 < 256) {c : Nat → Int} (h0 : c 0 = b0) (h1 : c 1 = if 1 < n then (b1 : Int) else -1) (h2 : c 2 = if 2 < n then (b2 : Int) else -1) (h3 : c 3 = if 3 < n then (b3 : Int) else -1) :
  (Lib.decodeN n b0 b1 b2 b3).2 = max 1 (r1 c) ∧ (((Lib.decodeN n b0 b1 b2 b3).1 ≠ 65533 ∨ 1 < (Lib.decodeN n b0 b1 b2 b3).2) ↔ r1 c ≠ 0) := by
 by_cases k0 : b0 < 128
 ·rw [r1_class (show r1C (c 0) = (1,0,127) by rw [h0]; unfold r1C; rw [if_neg (by omega),if_neg (by omega),if_neg (by omega),if_neg (by omega),if_neg (by omega),if_neg (by omega),if_neg (by omega),if_neg (by omega)])]
  unfold Lib.decodeN
  rw [if_pos k0]
  simp [r1L]
  omega
 by_cases k1 : 194 ≤ b0 ∧ b0 ≤ 223
 ·rw [r1_class (show r1C (c 0) = (2,128,191) by rw [h0]; unfold r1C; rw [if_pos (by omega)])]
  simp only [r1L,h1,Nat.reduceSub]
  unfold Lib.decodeN
  repeat' split
  all_goals first | (exfalso; omega) | (simp only []; omega)
 by_cases k2 : b0 = 224
 ·rw [r1_class (show r1C (c 0) = (3,160,191) by rw [h0,k2]; rfl)]
  simp only [r1L,h1,h2,Nat.reduceSub,Nat.reduceAdd]
  unfold Lib.decodeN
  repeat' split
  all_goals first | (exfalso; omega) | (simp only []; omega)
 by_cases k3 : b0 = 237
 ·rw [r1_class (show r1C (c 0) = (3,128,159) by rw [h0,k3]; rfl)]
  simp only [r1L,h1,h2,Nat.reduceSub,Nat.reduceAdd]
  unfold Lib.decodeN
  repeat' split
  all_goals first | (exfalso; omega) | (simp only []; omega)
 by_cases k4 : 225 ≤ b0 ∧ b0 ≤ 239
 ·rw [r1_class (show r1C (c 0) = (3,128,191) by rw [h0]; unfold r1C; rw [if_neg (by omega),if_neg (by omega),if_neg (by omega),if_pos (by omega)])]
  simp only [r1L,h1,h2,Nat.reduceSub,Nat.reduceAdd]
  unfold Lib.decodeN
  repeat' split
  all_goals first | (exfalso; omega) | (simp only []; omega)
 by_cases k5 : b0 = 240
 ·rw [r1_class (show r1C (c 0) = (4,144,191) by rw [h0,k5]; rfl)]
  simp only [r1L,h1,h2,h3,Nat.reduceSub,Nat.reduceAdd]
  unfold Lib.decodeN
  repeat' split
  all_goals first | (exfalso; omega) | (simp only []; omega)
 by_cases k6 : b0 = 244
 ·rw [r1_class (show r1C (c 0) = (4,128,143) by rw [h0,k6]; rfl)]
  simp only [r1L,h1,h2,h3,Nat.reduceSub,Nat.reduceAdd]
  unfold Lib.decodeN
  repeat' split
  all_goals first | (exfalso; omega) | (simp only []; omega)
 by_cases k7 : 241 ≤ b0 ∧ b0 ≤ 243
 ·rw [r1_class (show r1C (c 0) = (4,128,191) by rw [h0]; unfold r1C; rw [if_neg (by omega),if_neg (by omega),if_neg (by omega),if_neg (by omega),if_neg (by omega),if_neg (by omega),if_pos (by omega)])]
  simp only [r1L,h1,h2,h3,Nat.reduceSub,Nat.reduceAdd]
  unfold Lib.decodeN
  repeat' split
  all_goals first | (exfalso; omega) | (simp only []; omega)
 ·rw [r1_class (show r1C (c 0) = (0,0,0) by rw [h0]; unfold r1C; rw [if_neg (by omega),if_neg (by omega),if_neg (by omega),if_neg (by omega),if_neg (by omega),if_neg (by omega),if_neg (by omega),if_pos (by omega)])]
  simp only [r1L,Nat.zero_sub]
  unfold Lib.decodeN
  repeat' split
  all_goals first | (exfalso; omega) | (simp only []; omega)
theorem dec_r1 (s : ByteArray) {p : Nat} (h : p < s.size) : (Utf8.decode s p).2 = max 1 (r1 fun i => octA s (p + i)) ∧ (((Utf8.decode s p).1 ≠ 65533 ∨ 1 < (Utf8.decode s p).2) ↔ (r1 fun i => octA s (p + i)) ≠ 0) := by
 rw [Lib.decode_at]
 have hb : ∀ k,(s.get! k).toNat < 256 := fun k => (s.get! k).toNat_lt
 refine r1_dec (by omega) (hb _) (hb _) (hb _) (hb _) ?_ ?_ ?_ ?_
 ·simp only [octA,Nat.add_zero]; rw [if_pos h]
 all_goals
  simp only [octA]
  split
  ·rw [if_pos (by omega)]
  ·rw [if_neg (by omega)]
def txtF (s : ByteArray) : Nat → Nat → Bool
 | 0,_ => true
 | f + 1,p => if p < s.size then decide ((r1 fun i => octA s (p + i)) ≠ 0) && txtF s f (p + max 1 (r1 fun i => octA s (p + i))) else true
theorem txtF_more (s : ByteArray) : ∀ (f g p : Nat), s.size - p ≤ f → s.size - p ≤ g → txtF s f p = txtF s g p
 | 0,0,p,_,_ => rfl
 | 0,g + 1,p,hf,_ => by simp only [txtF]; rw [if_neg (by omega)]
 | f + 1,0,p,_,hg => by simp only [txtF]; rw [if_neg (by omega)]
 | f + 1, g + 1, p, hf, hg => by
  simp only [txtF]
  split
  ·rw [txtF_more s f g _ (by omega) (by omega)]
  ·rfl
def txtP (s : ByteArray) (p : Nat) : Bool := txtF s (s.size - p) p
theorem txtP_end (s : ByteArray) {p : Nat} (h : ¬ p < s.size) : txtP s p = true := by
 unfold txtP
 rw [show s.size - p = 0 by omega]; rfl
theorem txtP_step (s : ByteArray) {p : Nat} (h : p < s.size) : txtP s p = (decide ((r1 fun i => octA s (p + i)) ≠ 0) && txtP s (p + max 1 (r1 fun i => octA s (p + i)))) := by
 unfold txtP
 rw [show s.size - p = (s.size - p - 1) + 1 by omega]
 simp only [txtF]
 rw [if_pos h,txtF_more s (s.size - p - 1) (s.size - (p + max 1 (r1 fun i => octA s (p + i)))) _ (by omega) (by omega)]
def txtOk (s : ByteArray) : Bool := txtP s 0
end Go.Proofs
namespace Go.Proofs
open Pk
set_option maxRecDepth 10000
attribute [local simp] beq_dec bne_dec
abbrev panE (e : Int) : List PanicEntry := [{ v := .iface 48 (i64 e),recovered := false }]
theorem nmust_t (e : Int) (w : World) : FN Tryz.prog 187 [.bool true, i64 e] w fun E w' => (∃ u, E = .returned u) ∧ w' = w := by
 refine FN_enter Tryz.func187 rfl rfl (by kernel_rfl) ?_
 simp
theorem nmust_f (e : Int) (w : World) : FN Tryz.prog 187 [.bool false, i64 e] w fun E w' => E = .panicked (panE e) ∧ w' = w := by
 refine FN_enter Tryz.func187 rfl rfl (by kernel_rfl) ?_
 simp
def cutAt (c : UInt8) : Tx → Option (Tx × Tx)
 | [] => none
 | b :: r => if b = c then some ([], r) else match cutAt c r with
  | none => none
  | some (x,y) => some (b :: x,y)
theorem cutAt_none {c : UInt8} : ∀ {s : Tx}, (∀ j (h : j < s.length), s[j] ≠ c) → cutAt c s = none
 | [],_ => rfl
 | b :: r, h => by
  have h0 := h 0 (by simp)
  simp only [List.getElem_cons_zero] at h0
  rw [cutAt, if_neg h0, cutAt_none fun j hj => by
   have := h (j + 1) (by simp; omega)
   simpa using this]
theorem cutAt_some {c : UInt8} : ∀ {s : Tx} {i : Nat} (hi : i < s.length), s[i] = c → (∀ j (h : j < i), s[j] ≠ c) → cutAt c s = some (s.take i, s.drop (i + 1))
 | b :: r, 0, _, h0, _ => by
  simp only [List.getElem_cons_zero] at h0
  rw [cutAt,if_pos h0]; rfl
 | b :: r, i + 1, hi, h0, h => by
  have hb := h 0 (by omega)
  simp only [List.getElem_cons_zero] at hb
  simp only [List.getElem_cons_succ] at h0
  rw [cutAt, if_neg hb, cutAt_some (by simpa using hi) h0 fun j hj => by
   have := h (j + 1) (by omega)
   simpa using this]
  rfl
theorem dec46n {n b0 b1 b2 b3 : Nat} (hn : 1 ≤ n) : ((Lib.decodeN n b0 b1 b2 b3).1 = 46 ↔ b0 = 46) ∧ 1 ≤ (Lib.decodeN n b0 b1 b2 b3).2 ∧ (Lib.decodeN n b0 b1 b2 b3).2 ≤ n ∧ (Lib.decodeN n b0 b1 b2 b3).2 ≤ 4 ∧ (2 ≤ (Lib.decodeN n b0 b1 b2 b3).2 → b1 ≠ 46) ∧ (3 ≤ (Lib.decodeN n b0 b1 b2 b3).2 → b2 ≠ 46) ∧ (4 ≤ (Lib.decodeN n b0 b1 b2 b3).2 → b3 ≠ 46) := by
 unfold Lib.decodeN
 repeat' split
 all_goals (dsimp only; omega)
theorem dec46 (s : ByteArray) {p : Nat} (hp : p < s.size) : ((Utf8.decode s p).1 = 46 ↔ (s.get! p).toNat = 46) ∧ 1 ≤ (Utf8.decode s p).2 ∧ p + (Utf8.decode s p).2 ≤ s.size ∧ ∀ i, 1 ≤ i → i < (Utf8.decode s p).2 → (s.get! (p + i)).toNat ≠ 46 := by
 rw [Lib.decode_at]
 obtain ⟨k1,k2,k3,k4,k5,k6,k7⟩ := dec46n (n := s.size - p) (b0 := (s.get! p).toNat) (b1 := (s.get! (p + 1)).toNat) (b2 := (s.get! (p + 2)).toNat) (b3 := (s.get! (p + 3)).toNat) (by omega)
 refine ⟨k1,k2,by omega,fun i h1 h2 => ?_⟩
 rcases (show i = 1 ∨ i = 2 ∨ i = 3 by omega) with rfl | rfl | rfl
 ·exact k5 (by omega)
 ·exact k6 (by omega)
 ·exact k7 (by omega)
theorem getb (s : Tx) (k : Nat) (h : k < s.length) : ((⟨s.toArray⟩ : ByteArray).get! k) = s[k] := by
 rw [get_lt _ k (by simpa using h)]; rfl
theorem tx_drop (t : TypeId) (ht : Tryz.prog.underlying t = some .string) (s : Tx) (k : Nat) (h : k ≤ s.length) : ∀ W, (Instr.sliceAt t (tv s) (some (i64 k)) none none).run Tryz.prog W = .ok (tv (s.drop k)) W := fun W => by
 have h1 := run_slice_string_from_if (P := Tryz.prog) (w := W) t ⟨s.toArray⟩ .i64 k ht
 rw [run_sliceAt_string _ _ _ _ _ _ ht,h1,if_pos (by rw [tsz]; omega)]
 have e : (⟨s.toArray⟩ : ByteArray).extract k s.length = ⟨(s.drop k).toArray⟩ := by
  apply ByteArray.ext
  simp
  exact List.take_of_length_le (by simp)
 simp [e]
theorem tx_take (t : TypeId) (ht : Tryz.prog.underlying t = some .string) (s : Tx) (k : Nat) (h : k ≤ s.length) : ∀ W, (Instr.sliceAt t (tv s) none (some (i64 k)) none).run Tryz.prog W = .ok (tv (s.take k)) W := fun W => by
 have h1 := run_slice_string_to_if (P := Tryz.prog) (w := W) t ⟨s.toArray⟩ .i64 k ht
 rw [run_sliceAt_string _ _ _ _ _ _ ht,h1,if_pos (by rw [tsz]; omega)]
 have e : (⟨s.toArray⟩ : ByteArray).extract 0 k = ⟨(s.take k).toArray⟩ := by
  apply ByteArray.ext
  simp
 simp [e]
set_option maxHeartbeats 1000000 in
theorem upto_c {w : World} {b : Nat} {s : Tx} (hb : Blk w b [tv s]) (hs : (s.length : Int) ≤ 1000000) : FN Tryz.prog 242 [ptr b, .int .i32 46] w fun e w' => Mod (fun k => k = b) w w' ∧ match cutAt 46 s with
  | none => e = .panicked (panE 130)
  | some (x,y) => e = .returned (tv x) ∧ Blk w' b [tv y] := by
 refine FN_enter Tryz.func242 rfl rfl (by kernel_rfl) ?_
 have hrg := run_range_string (P := Tryz.prog) w 9 ⟨s.toArray⟩ (by simp)
 simp [hb.cell 0 _ rfl,hrg]
 have hlb := hb.lt
 have hE0 : Ext w (w.iter ⟨s.toArray⟩ 0) := (Ext.refl w).alloc _
 have hS0 : SIter (w.iter ⟨s.toArray⟩ 0) w.heap.size ⟨s.toArray⟩ 0 := w.iter_heap _ 0
 generalize w.iter ⟨s.toArray⟩ 0 = w1 at *
 refine WC_loop (fun m ρ ds w' => ∃ p : Nat, m = s.length - p ∧ p ≤ s.length ∧ ρ 0 = ptr b ∧ ρ 1 = .int .i32 46 ∧ ρ 11 = ptr w.heap.size ∧ ds = [] ∧ Ext w w' ∧ SIter w' w.heap.size ⟨s.toArray⟩ p ∧ ∀ j (h : j < s.length), j < p → s[j] ≠ 46) s.length
  ⟨0,rfl,Nat.zero_le _,by simp,by simp,by simp,rfl,hE0,hS0,fun j _ h => by omega⟩ ?_
 rintro m ρ ds w2 ⟨p,rfl,hp,e0,e1,e11,rfl,hE2,hS2,hno⟩
 by_cases h : p < s.length
 ·have hsz : p < (⟨s.toArray⟩ : ByteArray).size := by simpa using h
  obtain ⟨w3,hn,hS3,hM3⟩ := siter_next (P := Tryz.prog) hS2 hsz 0
  have hE3 : Ext w w3 := ((hE2.mod (S := fun _ => False)).trans' hM3 (fun i hi => .inr (by omega))).ext fun _ h => h.elim
  obtain ⟨d1,d2,d3,d4⟩ := dec46 ⟨s.toArray⟩ hsz
  rw [getb s p h] at d1
  rw [tsz] at d3
  obtain ⟨rv,hrv⟩ : ∃ rv,(Utf8.decode ⟨s.toArray⟩ p).1 = rv := ⟨_,rfl⟩
  obtain ⟨wd,hwd⟩ : ∃ wd,(Utf8.decode ⟨s.toArray⟩ p).2 = wd := ⟨_,rfl⟩
  rw [hrv] at d1 hn
  rw [hwd] at d2 d3 d4 hS3
  have b3 := hb.ext hE3
  by_cases hc : rv = 46
  ·subst hc
   have h46 : s[p] = 46 := UInt8.toNat_inj.1 (d1.1 rfl)
   have st := tx_take 9 (by simp) s p (by omega)
   have sd := tx_drop 281 (by simp) s (p + 1) (by omega)
   have hw : IntKind.i64.wrap ((p : Int) + 1) = p + 1 := wrap64 _ (by omega) (by omega)
   simp only [Int.natCast_add,Int.natCast_one] at sd
   simp [e0,e1,e11,hn,b3.cell 0 _ rfl,b3.thaw,st,sd,hw]
   rw [cutAt_some h h46 fun j hj => hno j (by omega) hj]
   exact ⟨(hE3.mod (S := fun k => k = b)).setC 0 _,rfl,b3.set 0 _⟩
  ·have hc' : ¬ (rv : Int) = 46 := by omega
   simp [e0,e1,e11,hn,hc']
   refine ⟨s.length - (p + wd),by omega,p + wd,rfl,by omega,hE3,hS3,fun j hj hlt => ?_⟩
   by_cases h1 : j < p
   ·exact hno j hj h1
   ·by_cases h2 : j = p
    ·subst h2
     exact fun e => hc (d1.2 (by rw [e]; rfl))
    ·have := d4 (j - p) (by omega) (by omega)
     rw [show p + (j - p) = j by omega,getb s j hj] at this
     exact fun e => this (by rw [e]; rfl)
 ·have hn := siter_end (P := Tryz.prog) hS2 (by simpa using h) 0
  simp [e11,hn]
  rw [cutAt_none fun j hj => hno j hj (by omega)]
  exact ⟨hE2.mod,trivial⟩
theorem rest_c {w : World} {b : Nat} {s : Tx} (hb : Blk w b [tv s]) : FN Tryz.prog 243 [ptr b] w fun e w' => Mod (fun k => k = b) w w' ∧ e = .returned (tv s) := by
 refine FN_enter Tryz.func243 rfl rfl (by kernel_rfl) ?_
 simp [hb.cell 0 _ rfl,hb.thaw]
 exact (Mod.refl _ w).setC 0 _
def bndP (s : Tx) (bound : Nat) : Option Nat := match Lib.parseUintB 64 s with
 | .ok u => if u ≤ bound ∧ Lib.decDigits u = s then some u else none
 | _ => none
theorem pu_lt {s : Tx} {u : Nat} (h : Lib.parseUintB 64 s = .ok u) : u < 18446744073709551616 := by
 unfold Lib.parseUintB at h
 split at h
 ·cases h
 ·have := Lib.parseUintM_le _ s 0 u (Nat.zero_le _) h
  omega
theorem nil_eq (W : World) : (binOp .eql 139 .nilIface .nilIface).run Tryz.prog W = .ok (.bool true) W := by simp [go_sem]
theorem err_eq (t : TypeId) (v : Value) (W : World) : (binOp .eql 139 (.iface t v) .nilIface).run Tryz.prog W = .ok (.bool false) W := by simp [go_sem]
set_option maxHeartbeats 1000000 in
theorem bounded_c (s : Tx) (bound : Nat) (hbd : bound ≤ 9223372036854775807) (hs : s.length ≤ 1000000) {w : World} (hG : Gl w) : FN Tryz.prog 241 [tv s, u64 bound] w fun e w' => Ext w w' ∧ match bndP s bound with
  | none => e = .panicked (panE 130)
  | some u => e = .returned (u64 u) := by
 refine FN_enter Tryz.func241 rfl rfl (by kernel_rfl) ?_
 simp
 have hb : bndP s bound = match Lib.parseUintB 64 s with | .ok u => if u ≤ bound ∧ Lib.decDigits u = s then some u else none | _ => none := rfl
 rcases ho : Lib.parseUintB 64 s with u | _ | _
 ·rw [ho] at hb
  dsimp only at hb
  have hu := pu_lt ho
  refine FN.mono (FN_of_calls Tryz.func273 rfl rfl (Tryz.strconv_ParseUint_10_at64_ok ⟨s.toArray⟩ (by rw [tsz]; omega) u ho w)) ?_
  rintro _ w2 ⟨rfl,hw⟩
  have hE2 : Ext w w2 := by
   rcases hw with rfl | rfl
   ·exact Ext.refl _
   ·exact ext_below (Lib.bytesWorld_below _ _ _)
  by_cases hle : u ≤ bound
  ·have hle' : (u : Int) ≤ bound := by omega
   simp [nil_eq,hle']
   refine FN.mono (n64_c u hu (hG.ext hE2)) ?_
   rintro _ w3 ⟨rfl,hE3⟩
   by_cases hd : Lib.decDigits u = s
   ·have hq : (Lib.decDigits u == s) = true := by simpa using hd
    rw [if_pos ⟨hle,hd⟩] at hb
    simp [hq]
    refine FN.mono (nmust_t 130 w3) ?_
    rintro _ w4 ⟨⟨x,rfl⟩,rfl⟩
    simp [hb]
    exact hE2.trans hE3
   ·have hq : (Lib.decDigits u == s) = false := by simpa using hd
    rw [if_neg fun h => hd h.2] at hb
    simp [hq]
    refine FN.mono (nmust_f 130 w3) ?_
    rintro _ w4 ⟨rfl,rfl⟩
    simp [hb]
    exact hE2.trans hE3
  ·have hle' : ¬ (u : Int) ≤ bound := by omega
   rw [if_neg fun h => hle h.1] at hb
   simp [nil_eq,hle']
   refine FN.mono (nmust_f 130 w2) ?_
   rintro _ w3 ⟨rfl,rfl⟩
   simp [hb]
   exact hE2
 ·rw [ho] at hb
  dsimp only at hb
  obtain ⟨tp,p,hv⟩ := hG.syn
  refine FN.mono (FN_of_calls Tryz.func273 rfl rfl (Tryz.strconv_ParseUint_10_at64_syntax_var ⟨s.toArray⟩ (by rw [tsz]; omega) ho tp p w hv)) ?_
  rintro _ w2 ⟨N,rfl,-,-,hB⟩
  simp [err_eq]
  refine FN.mono (nmust_f 130 w2) ?_
  rintro _ w3 ⟨rfl,rfl⟩
  simp [hb]
  exact ext_below hB
 ·rw [ho] at hb
  dsimp only at hb
  obtain ⟨tp,p,hv⟩ := hG.rng
  refine FN.mono (FN_of_calls Tryz.func273 rfl rfl (Tryz.strconv_ParseUint_10_at64_range_var ⟨s.toArray⟩ (by rw [tsz]; omega) ho tp p w hv)) ?_
  rintro _ w2 ⟨N,rfl,-,-,hB⟩
  simp [err_eq]
  refine FN.mono (nmust_f 130 w2) ?_
  rintro _ w3 ⟨rfl,rfl⟩
  simp [hb]
  exact ext_below hB
end Go.Proofs