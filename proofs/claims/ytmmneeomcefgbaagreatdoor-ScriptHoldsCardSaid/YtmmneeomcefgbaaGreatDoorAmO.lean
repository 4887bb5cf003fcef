/-
 Contracts of the functions that the law reaches,step by step.
-/
import Derived.Test.YtmmneeomcefgbaaGreatDoorProg
import Derived.Test.YtmmneeomcefgbaaGreatDoorEngV
import Derived.Test.YtmmneeomcefgbaaGreatDoorEngR
import Derived.Test.YtmmneeomcefgbaaGreatDoorEngJ
namespace Go.Proofs
open Pk
set_option maxRecDepth 10000
abbrev u32 (x : Int) : Value := .int .u32 x
abbrev u64 (x : Int) : Value := .int .u64 x
abbrev i64 (x : Int) : Value := .int .i64 x
abbrev u8 (x : Int) : Value := .int .u8 x
abbrev ptr (b : Nat) : Value := .pointer (some ⟨b,0,none⟩)
end Go.Proofs
namespace Go.Proofs
open Pk
set_option maxRecDepth 10000
attribute [local simp] beq_dec bne_dec
abbrev Tx := List UInt8
abbrev tv (l : Tx) : Value := .string ⟨l.toArray⟩
abbrev panS : List PanicEntry := [{ v := .iface 48 (i64 370),recovered := false }]
theorem ext_below {w w' : World} (h : Go.RowKit.Below w.heap.size w w') : Ext w w' := ⟨h.os,h.tape,h.output,h.size,h.block⟩
@[simp] theorem tsz (l : Tx) : (⟨l.toArray⟩ : ByteArray).size = l.length := by simp [ByteArray.size]
@[simp] theorem tget (l : Tx) (i : Nat) (h : i < (⟨l.toArray⟩ : ByteArray).size) : (⟨l.toArray⟩ : ByteArray)[i] = l[i]'(by simpa using h) := rfl
theorem u8ne {c d : UInt8} (h : c ≠ d) : ¬ (c.toNat : Int) = d.toNat := fun e => h (UInt8.toNat_inj.1 (by omega))
theorem smust_t (w : World) : FN Tryz.prog 26 [.bool true] w fun E w' => (∃ u, E = .returned u) ∧ w' = w := by
 refine FN_enter Tryz.func26 rfl rfl (by kernel_rfl) ?_
 simp
theorem smust_f (w : World) : FN Tryz.prog 26 [.bool false] w fun E w' => E = .panicked panS ∧ w' = w := by
 refine FN_enter Tryz.func26 rfl rfl (by kernel_rfl) ?_
 simp
structure Rw (w : World) (rb b : Nat) (l : List Tx) : Prop where
 row : ∃ v,Blk w b [v] ∧ Sl w 1 v l.length (l.map tv) ∧ slB v = rb
 ne : rb ≠ b
theorem Rw.mod {w w' : World} {S : Nat → Prop} {rb b : Nat} {l : List Tx} (h : Rw w rb b l) (hM : Mod S w w') (h1 : ¬ S b) (h2 : ¬ S rb) : Rw w' rb b l := by
 obtain ⟨⟨v,hb,hs,he⟩,hn⟩ := h
 exact ⟨⟨v,hb.mod hM h1,hs.mod hM (by rw [he]; exact h2),he⟩,hn⟩
theorem Rw.ext {w w' : World} {rb b : Nat} {l : List Tx} (h : Rw w rb b l) (hE : Ext w w') : Rw w' rb b l := by
 obtain ⟨⟨v,hb,hs,he⟩,hn⟩ := h
 exact ⟨⟨v,hb.ext hE,hs.ext hE,he⟩,hn⟩
theorem Rw.lt {w : World} {rb b : Nat} {l : List Tx} (h : Rw w rb b l) : b < w.heap.size := by
 obtain ⟨⟨v,hb,-⟩,-⟩ := h
 exact hb.lt
def RdS {α : Type} (f : α → Value) (w w' : World) (rb b : Nat) (o : Option (α × List Tx)) (e : Ending) : Prop :=
 Mod (fun k => k = b) w w' ∧ match o with
 | none => e = .panicked panS
 | some (x,r) => e = .returned (f x) ∧ Rw w' rb b r
def nextP : List Tx → Option (Tx × List Tx)
 | [] => none
 | s :: r => some (s,r)
theorem wnext_c {w : World} {rb b : Nat} {l : List Tx} (h : Rw w rb b l) (hl : l.length ≤ 1000000) : FN Tryz.prog 34 [ptr b] w fun e w' => RdS tv w w' rb b (nextP l) e := by
 obtain ⟨⟨v,hb,hs,he⟩,hn⟩ := h
 refine FN_enter Tryz.func34 rfl rfl (by kernel_rfl) ?_
 obtain ⟨va,vc,rfl⟩ := hs.isSlice
 have hlen := fun ty W => hs.isLen (P := Tryz.prog) (t := 60) (by simp) ty W
 cases l with
 | nil =>
  simp [hb.cell 0 _ rfl]
  refine FN.mono (smust_f w) ?_
  rintro _ w2 ⟨rfl,rfl⟩
  simp
  exact ⟨Mod.refl _ _,rfl⟩
 | cons s r =>
  simp only [List.length_cons,List.map_cons] at hs hlen ⊢
  have hp : (0 : Int) < (r.length : Int) + 1 := by omega
  simp [hb.cell 0 _ rfl,hlen,hp]
  refine FN.mono (smust_t w) ?_
  rintro _ w2 ⟨⟨u,rfl⟩,rfl⟩
  obtain ⟨u',hu,hS,hsb⟩ := sl_tail (P := Tryz.prog) (t := 60) hs (by simp) (fun W => by simp) .i64 1 (by omega)
  have ix := fun W => hs.index (P := Tryz.prog) (t := 60) (by simp) .i64 0 (by omega) (by omega) W
  have hu' := hu
  simp only [Int.cast_ofNat_Int] at hu'
  simp
  refine WC_drawC 13 (.F 0 <| .F 1 <| .F 2 <| .F 3 <| .F 4 <| .F 5 <| .F 6 <| .F 7 <| .F 8 <| .F 9 <| .F 10 <| .F 11 <| .F 12 <| .Z) (fun _ => false) rfl (by kernel_rfl) fun W hW => ?_
  have hWE : Ext w2 W := hW ▸ Ext.drew _
  have b2 := hb.ext hWE
  have s2 := hs.ext hWE
  have d0 := s2.at_ 0 (tv s) rfl
  simp only [Nat.add_zero] at d0
  have hS2 := hS W s2
  obtain ⟨ua,uc,hu2⟩ := hS2.isSlice
  subst hu2
  simp at hu'
  simp [b2.cell 0 _ rfl,b2.thaw,ix,d0,hu']
  have hM : Mod (fun k => k = b) W (W.setCell ⟨b,0,none⟩ (.slice ua r.length uc)) := (Mod.refl _ _).setC _ _
  refine ⟨(hWE.mod (S := fun k => k = b)).trans hM,rfl,⟨⟨.slice ua r.length uc,b2.set 0 _,?_,hsb.trans he⟩,hn⟩⟩
  have hS3 : Sl W 1 (.slice ua r.length uc) r.length (r.map tv) := by simpa using hS2
  exact hS3.mod hM (by rw [show slB (.slice ua r.length uc) = rb from hsb.trans he]; exact hn)
def digs : Tx → Nat → Option Nat
 | [],n => some n
 | c :: r,n => if 48 ≤ c.toNat ∧ c.toNat ≤ 57 then digs r (10 * n + (c.toNat - 48)) else none
def numP (s : Tx) (bound : Nat) : Option Nat :=
 if s ≠ [] ∧ s.length < 20 ∧ (s = [48] ∨ s.head? ≠ some 48) then match digs s 0 with
  | none => none
  | some n => if n ≤ bound then some n else none
 else none
theorem numP_le {s : Tx} {b n : Nat} (h : numP s b = some n) : n ≤ b := by
 unfold numP at h
 split at h
 ·split at h
  ·cases h
  ·split at h
   ·cases h; assumption
   ·cases h
 ·cases h
def wordP {α : Type} (f : Tx → Option α) (l : List Tx) : Option (α × List Tx) := match l with
 | [] => none
 | s :: r => match f s with
  | none => none
  | some x => some (x,r)
set_option maxHeartbeats 4000000 in
theorem wnum32_c {w : World} {rb b : Nat} {l : List Tx} (h : Rw w rb b l) (hl : l.length ≤ 1000000) : FN Tryz.prog 110 [ptr b, u64 4294967295] w fun e w' => RdS (fun n : Nat => Value.int .u32 n) w w' rb b (wordP (fun s => numP s 4294967295) l) e := by
 refine FN_enter Tryz.func110 rfl rfl (by kernel_rfl) ?_
 simp
 refine FN.mono (wnext_c h hl) ?_
 rintro _ w1 ⟨hM1,hp⟩
 cases l with
 | nil =>
  obtain rfl : _ = _ := hp
  simp
  exact ⟨hM1,rfl⟩
 | cons s r =>
  obtain ⟨rfl,h1⟩ := hp
  refine with_tail (T := ∀ (σ : Env),(σ 1 = u64 4294967295 ∧ σ 5 = tv s) ∧ (s ≠ [] ∧ s.length < 20 ∧ (s = [48] ∨ s.head? ≠ some 48)) → FNt Tryz.prog 26 [.bool true] w1 (RC ?d ?K ?Q σ []) Tok.mk) (fun tail => ?br) ?jn
  case br =>
   by_cases hn : s = []
   ·have hE : s.isEmpty = true := by rw [hn]; rfl
    simp [hE]
    refine FN.mono (smust_f w1) ?_
    rintro _ w2 ⟨rfl,rfl⟩
    simp
    exact ⟨hM1,by simp [wordP,numP,hn]⟩
   ·have hE : s.isEmpty = false := by
     cases s with
     | nil => exact absurd rfl hn
     | cons _ _ => rfl
    by_cases h20 : (s.length : Int) < 20
    ·have h20' : s.length < 20 := by omega
     by_cases h48 : s = [48]
     ·have hq : (s == [48]) = true := by rw [h48]; rfl
      simp [hE,h20,hq]
      refine tail _ ⟨?_, ?_⟩
      ·simp
      ·exact ⟨hn,h20',.inl h48⟩
     ·have hq : (s == [48]) = false := by simpa using h48
      have h0 : 0 < s.length := List.length_pos_iff.2 hn
      have ix : ∀ W,(Instr.index 9 (tv s) (i64 0)).run Tryz.prog W = .ok (u8 s[0].toNat) W := fun W => r_index_str (P := Tryz.prog) (w := W) (t := 9) ⟨s.toArray⟩ .i64 0 (by simp) (by simpa using h0)
      have hh : s.head? = some s[0] := by
       cases s with
       | nil => exact absurd rfl hn
       | cons _ _ => rfl
      by_cases hc : s[0] = 48
      ·have hci : (s[0].toNat : Int) = 48 := by rw [hc]; rfl
       simp [hE,h20,hq,ix,hci]
       refine FN.mono (smust_f w1) ?_
       rintro _ w2 ⟨rfl,rfl⟩
       simp
       refine ⟨hM1,?_⟩
       simp [wordP,numP,h48,hh,hc]
      ·have hci : ¬ (s[0].toNat : Int) = 48 := u8ne hc
       simp [hE,h20,hq,ix,hci]
       refine tail _ ⟨?_, ?_⟩
       ·simp
       ·exact ⟨hn,h20',.inr (by rw [hh]; simpa using hc)⟩
    ·simp [hE,h20]
     refine FN.mono (smust_f w1) ?_
     rintro _ w2 ⟨rfl,rfl⟩
     simp
     refine ⟨hM1,?_⟩
     have h20' : ¬ s.length < 20 := by omega
     simp [wordP,numP,h20']
  case jn =>
   rintro σ ⟨⟨e1,e5⟩,hne,h20,h0⟩
   refine FN.mono (smust_t w1) ?_
   rintro _ w2 ⟨⟨u,rfl⟩,rfl⟩
   have hP : numP s 4294967295 = match digs s 0 with
     | none => none
     | some n => if n ≤ 4294967295 then some n else none := by
    unfold numP
    rw [if_pos ⟨hne,h20,h0⟩]
   simp [e5]
   refine WC_loop (fun m ρ ds w' => ∃ i n : Nat,m = s.length - i ∧ i ≤ s.length ∧ ρ 1 = u64 4294967295 ∧ ρ 5 = tv s ∧ ρ 30 = i64 s.length ∧ ρ 31 = i64 i ∧ ρ 6 = u64 n ∧ ds = [] ∧ w' = w2 ∧ digs (s.drop i) n = digs s 0 ∧ n < 10 ^ i) s.length ⟨0,0,by simp,by simp,by simp [e1],by simp [e5],by simp,by simp,by simp,rfl,rfl,by simp,by simp⟩ ?_
   rintro m ρ ds w3 ⟨i,n,rfl,hi,q1,q5,q30,q31,q6,rfl,rfl,hd,hn⟩
   by_cases hlt : i < s.length
   ·have hlt' : (i : Int) < s.length := by omega
    have ix : ∀ W,(Instr.index 9 (tv s) (i64 i)).run Tryz.prog W = .ok (u8 s[i].toNat) W := fun W => r_index_str (P := Tryz.prog) (w := W) (t := 9) ⟨s.toArray⟩ .i64 i (by simp) (by simpa using hlt)
    have h10 : 10 ^ i ≤ 10 ^ 18 := Nat.pow_le_pow_right (by omega) (by omega)
    have hdr : s.drop i = s[i] :: s.drop (i + 1) := List.drop_eq_getElem_cons hlt
    have hcl := s[i].toNat_lt
    rw [hdr] at hd
    by_cases hg1 : 48 ≤ s[i].toNat
    ·have h1' : (48 : Int) ≤ s[i].toNat := by omega
     by_cases h2 : s[i].toNat ≤ 57
     ·have h2' : (s[i].toNat : Int) ≤ 57 := by omega
      simp [q5,q30,q31,hlt',ix,h1',h2']
      refine FN.mono (smust_t w3) ?_
      rintro _ w4 ⟨⟨u,rfl⟩,rfl⟩
      have hw1 : IntKind.u64.wrap (10 * (n : Int)) = 10 * n := wrap64u _ (by omega) (by omega)
      have hw2 : IntKind.u8.wrap ((s[i].toNat : Int) - 48) = (s[i].toNat : Int) - 48 := wrap8u _ (by omega) (by omega)
      have hw3 : IntKind.u64.wrap ((s[i].toNat : Int) - 48) = (s[i].toNat : Int) - 48 := wrap64u _ (by omega) (by omega)
      have hw4 : IntKind.u64.wrap (10 * (n : Int) + ((s[i].toNat : Int) - 48)) = 10 * (n : Int) + ((s[i].toNat : Int) - 48) := wrap64u _ (by omega) (by omega)
      simp [q1,q5,q30,q31,q6,ix,hw1,hw2,hw3,hw4]
      have hps : 10 ^ (i + 1) = 10 * 10 ^ i := by rw [Nat.pow_succ,Nat.mul_comm]
      refine ⟨s.length - (i + 1),by omega,i + 1,rfl,by omega,by rw [wrap64 _ (by omega) (by omega)]; rfl,10 * n + (s[i].toNat - 48),by omega,?_,by omega⟩
      rw [← hd,digs,if_pos ⟨hg1,h2⟩]
     ·have h2' : ¬ (s[i].toNat : Int) ≤ 57 := by omega
      simp [q5,q30,q31,hlt',ix,h1',h2']
      refine FN.mono (smust_f w3) ?_
      rintro _ w4 ⟨rfl,rfl⟩
      simp
      refine ⟨hM1,?_⟩
      have : digs s 0 = none := by rw [← hd,digs,if_neg (by omega)]
      simp [wordP,hP,this]
    ·have h1' : ¬ (48 : Int) ≤ s[i].toNat := by omega
     simp [q5,q30,q31,hlt',ix,h1']
     refine FN.mono (smust_f w3) ?_
     rintro _ w4 ⟨rfl,rfl⟩
     simp
     refine ⟨hM1,?_⟩
     have : digs s 0 = none := by rw [← hd,digs,if_neg (by omega)]
     simp [wordP,hP,this]
   ·have hi' : i = s.length := by omega
    have hlt' : ¬ (i : Int) < s.length := by omega
    subst hi'
    have hds : digs s 0 = some n := by rw [← hd,List.drop_length]; rfl
    rw [hds] at hP
    by_cases hb : n ≤ 4294967295
    ·have hb' : (n : Int) ≤ 4294967295 := by omega
     simp [q1,q30,q31,q6,hb']
     refine FN.mono (smust_t w3) ?_
     rintro _ w4 ⟨⟨u,rfl⟩,rfl⟩
     have hw : IntKind.u32.wrap (n : Int) = n := wrap32u _ (by omega) (by omega)
     simp [q6,hw]
     exact ⟨hM1,by simp [wordP,hP,hb]; exact h1⟩
    ·have hb' : ¬ (n : Int) ≤ 4294967295 := by omega
     simp [q1,q30,q31,q6,hb']
     refine FN.mono (smust_f w3) ?_
     rintro _ w4 ⟨rfl,rfl⟩
     simp
     refine ⟨hM1,?_⟩
     simp [wordP,hP,hb]
set_option maxHeartbeats 4000000 in
theorem wnum64_c {w : World} {rb b : Nat} {l : List Tx} (h : Rw w rb b l) (hl : l.length ≤ 1000000) : FN Tryz.prog 111 [ptr b, u64 9223372036854775807] w fun e w' => RdS (fun n : Nat => Value.int .u64 n) w w' rb b (wordP (fun s => numP s 9223372036854775807) l) e := by
 refine FN_enter Tryz.func111 rfl rfl (by kernel_rfl) ?_
 simp
 refine FN.mono (wnext_c h hl) ?_
 rintro _ w1 ⟨hM1,hp⟩
 cases l with
 | nil =>
  obtain rfl : _ = _ := hp
  simp
  exact ⟨hM1,rfl⟩
 | cons s r =>
  obtain ⟨rfl,h1⟩ := hp
  refine with_tail (T := ∀ (σ : Env),(σ 1 = u64 9223372036854775807 ∧ σ 5 = tv s) ∧ (s ≠ [] ∧ s.length < 20 ∧ (s = [48] ∨ s.head? ≠ some 48)) → FNt Tryz.prog 26 [.bool true] w1 (RC ?d ?K ?Q σ []) Tok.mk) (fun tail => ?br) ?jn
  case br =>
   by_cases hn : s = []
   ·have hE : s.isEmpty = true := by rw [hn]; rfl
    simp [hE]
    refine FN.mono (smust_f w1) ?_
    rintro _ w2 ⟨rfl,rfl⟩
    simp
    exact ⟨hM1,by simp [wordP,numP,hn]⟩
   ·have hE : s.isEmpty = false := by
     cases s with
     | nil => exact absurd rfl hn
     | cons _ _ => rfl
    by_cases h20 : (s.length : Int) < 20
    ·have h20' : s.length < 20 := by omega
     by_cases h48 : s = [48]
     ·have hq : (s == [48]) = true := by rw [h48]; rfl
      simp [hE,h20,hq]
      refine tail _ ⟨?_, ?_⟩
      ·simp
      ·exact ⟨hn,h20',.inl h48⟩
     ·have hq : (s == [48]) = false := by simpa using h48
      have h0 : 0 < s.length := List.length_pos_iff.2 hn
      have ix : ∀ W,(Instr.index 9 (tv s) (i64 0)).run Tryz.prog W = .ok (u8 s[0].toNat) W := fun W => r_index_str (P := Tryz.prog) (w := W) (t := 9) ⟨s.toArray⟩ .i64 0 (by simp) (by simpa using h0)
      have hh : s.head? = some s[0] := by
       cases s with
       | nil => exact absurd rfl hn
       | cons _ _ => rfl
      by_cases hc : s[0] = 48
      ·have hci : (s[0].toNat : Int) = 48 := by rw [hc]; rfl
       simp [hE,h20,hq,ix,hci]
       refine FN.mono (smust_f w1) ?_
       rintro _ w2 ⟨rfl,rfl⟩
       simp
       refine ⟨hM1,?_⟩
       simp [wordP,numP,h48,hh,hc]
      ·have hci : ¬ (s[0].toNat : Int) = 48 := u8ne hc
       simp [hE,h20,hq,ix,hci]
       refine tail _ ⟨?_, ?_⟩
       ·simp
       ·exact ⟨hn,h20',.inr (by rw [hh]; simpa using hc)⟩
    ·simp [hE,h20]
     refine FN.mono (smust_f w1) ?_
     rintro _ w2 ⟨rfl,rfl⟩
     simp
     refine ⟨hM1,?_⟩
     have h20' : ¬ s.length < 20 := by omega
     simp [wordP,numP,h20']
  case jn =>
   rintro σ ⟨⟨e1,e5⟩,hne,h20,h0⟩
   refine FN.mono (smust_t w1) ?_
   rintro _ w2 ⟨⟨u,rfl⟩,rfl⟩
   have hP : numP s 9223372036854775807 = match digs s 0 with
     | none => none
     | some n => if n ≤ 9223372036854775807 then some n else none := by
    unfold numP
    rw [if_pos ⟨hne,h20,h0⟩]
   simp [e5]
   refine WC_loop (fun m ρ ds w' => ∃ i n : Nat,m = s.length - i ∧ i ≤ s.length ∧ ρ 1 = u64 9223372036854775807 ∧ ρ 5 = tv s ∧ ρ 30 = i64 s.length ∧ ρ 31 = i64 i ∧ ρ 6 = u64 n ∧ ds = [] ∧ w' = w2 ∧ digs (s.drop i) n = digs s 0 ∧ n < 10 ^ i) s.length ⟨0,0,by simp,by simp,by simp [e1],by simp [e5],by simp,by simp,by simp,rfl,rfl,by simp,by simp⟩ ?_
   rintro m ρ ds w3 ⟨i,n,rfl,hi,q1,q5,q30,q31,q6,rfl,rfl,hd,hn⟩
   by_cases hlt : i < s.length
   ·have hlt' : (i : Int) < s.length := by omega
    have ix : ∀ W,(Instr.index 9 (tv s) (i64 i)).run Tryz.prog W = .ok (u8 s[i].toNat) W := fun W => r_index_str (P := Tryz.prog) (w := W) (t := 9) ⟨s.toArray⟩ .i64 i (by simp) (by simpa using hlt)
    have h10 : 10 ^ i ≤ 10 ^ 18 := Nat.pow_le_pow_right (by omega) (by omega)
    have hdr : s.drop i = s[i] :: s.drop (i + 1) := List.drop_eq_getElem_cons hlt
    have hcl := s[i].toNat_lt
    rw [hdr] at hd
    by_cases hg1 : 48 ≤ s[i].toNat
    ·have h1' : (48 : Int) ≤ s[i].toNat := by omega
     by_cases h2 : s[i].toNat ≤ 57
     ·have h2' : (s[i].toNat : Int) ≤ 57 := by omega
      simp [q5,q30,q31,hlt',ix,h1',h2']
      refine FN.mono (smust_t w3) ?_
      rintro _ w4 ⟨⟨u,rfl⟩,rfl⟩
      have hw1 : IntKind.u64.wrap (10 * (n : Int)) = 10 * n := wrap64u _ (by omega) (by omega)
      have hw2 : IntKind.u8.wrap ((s[i].toNat : Int) - 48) = (s[i].toNat : Int) - 48 := wrap8u _ (by omega) (by omega)
      have hw3 : IntKind.u64.wrap ((s[i].toNat : Int) - 48) = (s[i].toNat : Int) - 48 := wrap64u _ (by omega) (by omega)
      have hw4 : IntKind.u64.wrap (10 * (n : Int) + ((s[i].toNat : Int) - 48)) = 10 * (n : Int) + ((s[i].toNat : Int) - 48) := wrap64u _ (by omega) (by omega)
      simp [q1,q5,q30,q31,q6,ix,hw1,hw2,hw3,hw4]
      have hps : 10 ^ (i + 1) = 10 * 10 ^ i := by rw [Nat.pow_succ,Nat.mul_comm]
      refine ⟨s.length - (i + 1),by omega,i + 1,rfl,by omega,by rw [wrap64 _ (by omega) (by omega)]; rfl,10 * n + (s[i].toNat - 48),by omega,?_,by omega⟩
      rw [← hd,digs,if_pos ⟨hg1,h2⟩]
     ·have h2' : ¬ (s[i].toNat : Int) ≤ 57 := by omega
      simp [q5,q30,q31,hlt',ix,h1',h2']
      refine FN.mono (smust_f w3) ?_
      rintro _ w4 ⟨rfl,rfl⟩
      simp
      refine ⟨hM1,?_⟩
      have : digs s 0 = none := by rw [← hd,digs,if_neg (by omega)]
      simp [wordP,hP,this]
    ·have h1' : ¬ (48 : Int) ≤ s[i].toNat := by omega
     simp [q5,q30,q31,hlt',ix,h1']
     refine FN.mono (smust_f w3) ?_
     rintro _ w4 ⟨rfl,rfl⟩
     simp
     refine ⟨hM1,?_⟩
     have : digs s 0 = none := by rw [← hd,digs,if_neg (by omega)]
     simp [wordP,hP,this]
   ·have hi' : i = s.length := by omega
    have hlt' : ¬ (i : Int) < s.length := by omega
    subst hi'
    have hds : digs s 0 = some n := by rw [← hd,List.drop_length]; rfl
    rw [hds] at hP
    by_cases hb : n ≤ 9223372036854775807
    ·have hb' : (n : Int) ≤ 9223372036854775807 := by omega
     simp [q1,q30,q31,q6,hb']
     refine FN.mono (smust_t w3) ?_
     rintro _ w4 ⟨⟨u,rfl⟩,rfl⟩
     have hw : IntKind.u64.wrap (n : Int) = n := wrap64u _ (by omega) (by omega)
     simp [q6]
     exact ⟨hM1,by simp [wordP,hP,hb]; exact h1⟩
    ·have hb' : ¬ (n : Int) ≤ 9223372036854775807 := by omega
     simp [q1,q30,q31,q6,hb']
     refine FN.mono (smust_f w3) ?_
     rintro _ w4 ⟨rfl,rfl⟩
     simp
     refine ⟨hM1,?_⟩
     simp [wordP,hP,hb]
set_option maxHeartbeats 4000000 in
theorem wnum8_c {w : World} {rb b : Nat} {l : List Tx} (h : Rw w rb b l) (hl : l.length ≤ 1000000) : FN Tryz.prog 126 [ptr b, u64 255] w fun e w' => RdS (fun n : Nat => Value.int .u8 n) w w' rb b (wordP (fun s => numP s 255) l) e := by
 refine FN_enter Tryz.func126 rfl rfl (by kernel_rfl) ?_
 simp
 refine FN.mono (wnext_c h hl) ?_
 rintro _ w1 ⟨hM1,hp⟩
 cases l with
 | nil =>
  obtain rfl : _ = _ := hp
  simp
  exact ⟨hM1,rfl⟩
 | cons s r =>
  obtain ⟨rfl,h1⟩ := hp
  refine with_tail (T := ∀ (σ : Env),(σ 1 = u64 255 ∧ σ 5 = tv s) ∧ (s ≠ [] ∧ s.length < 20 ∧ (s = [48] ∨ s.head? ≠ some 48)) → FNt Tryz.prog 26 [.bool true] w1 (RC ?d ?K ?Q σ []) Tok.mk) (fun tail => ?br) ?jn
  case br =>
   by_cases hn : s = []
   ·have hE : s.isEmpty = true := by rw [hn]; rfl
    simp [hE]
    refine FN.mono (smust_f w1) ?_
    rintro _ w2 ⟨rfl,rfl⟩
    simp
    exact ⟨hM1,by simp [wordP,numP,hn]⟩
   ·have hE : s.isEmpty = false := by
     cases s with
     | nil => exact absurd rfl hn
     | cons _ _ => rfl
    by_cases h20 : (s.length : Int) < 20
    ·have h20' : s.length < 20 := by omega
     by_cases h48 : s = [48]
     ·have hq : (s == [48]) = true := by rw [h48]; rfl
      simp [hE,h20,hq]
      refine tail _ ⟨?_, ?_⟩
      ·simp
      ·exact ⟨hn,h20',.inl h48⟩
     ·have hq : (s == [48]) = false := by simpa using h48
      have h0 : 0 < s.length := List.length_pos_iff.2 hn
      have ix : ∀ W,(Instr.index 9 (tv s) (i64 0)).run Tryz.prog W = .ok (u8 s[0].toNat) W := fun W => r_index_str (P := Tryz.prog) (w := W) (t := 9) ⟨s.toArray⟩ .i64 0 (by simp) (by simpa using h0)
      have hh : s.head? = some s[0] := by
       cases s with
       | nil => exact absurd rfl hn
       | cons _ _ => rfl
      by_cases hc : s[0] = 48
      ·have hci : (s[0].toNat : Int) = 48 := by rw [hc]; rfl
       simp [hE,h20,hq,ix,hci]
       refine FN.mono (smust_f w1) ?_
       rintro _ w2 ⟨rfl,rfl⟩
       simp
       refine ⟨hM1,?_⟩
       simp [wordP,numP,h48,hh,hc]
      ·have hci : ¬ (s[0].toNat : Int) = 48 := u8ne hc
       simp [hE,h20,hq,ix,hci]
       refine tail _ ⟨?_, ?_⟩
       ·simp
       ·exact ⟨hn,h20',.inr (by rw [hh]; simpa using hc)⟩
    ·simp [hE,h20]
     refine FN.mono (smust_f w1) ?_
     rintro _ w2 ⟨rfl,rfl⟩
     simp
     refine ⟨hM1,?_⟩
     have h20' : ¬ s.length < 20 := by omega
     simp [wordP,numP,h20']
  case jn =>
   rintro σ ⟨⟨e1,e5⟩,hne,h20,h0⟩
   refine FN.mono (smust_t w1) ?_
   rintro _ w2 ⟨⟨u,rfl⟩,rfl⟩
   have hP : numP s 255 = match digs s 0 with
     | none => none
     | some n => if n ≤ 255 then some n else none := by
    unfold numP
    rw [if_pos ⟨hne,h20,h0⟩]
   simp [e5]
   refine WC_loop (fun m ρ ds w' => ∃ i n : Nat,m = s.length - i ∧ i ≤ s.length ∧ ρ 1 = u64 255 ∧ ρ 5 = tv s ∧ ρ 30 = i64 s.length ∧ ρ 31 = i64 i ∧ ρ 6 = u64 n ∧ ds = [] ∧ w' = w2 ∧ digs (s.drop i) n = digs s 0 ∧ n < 10 ^ i) s.length ⟨0,0,by simp,by simp,by simp [e1],by simp [e5],by simp,by simp,by simp,rfl,rfl,by simp,by simp⟩ ?_
   rintro m ρ ds w3 ⟨i,n,rfl,hi,q1,q5,q30,q31,q6,rfl,rfl,hd,hn⟩
   by_cases hlt : i < s.length
   ·have hlt' : (i : Int) < s.length := by omega
    have ix : ∀ W,(Instr.index 9 (tv s) (i64 i)).run Tryz.prog W = .ok (u8 s[i].toNat) W := fun W => r_index_str (P := Tryz.prog) (w := W) (t := 9) ⟨s.toArray⟩ .i64 i (by simp) (by simpa using hlt)
    have h10 : 10 ^ i ≤ 10 ^ 18 := Nat.pow_le_pow_right (by omega) (by omega)
    have hdr : s.drop i = s[i] :: s.drop (i + 1) := List.drop_eq_getElem_cons hlt
    have hcl := s[i].toNat_lt
    rw [hdr] at hd
    by_cases hg1 : 48 ≤ s[i].toNat
    ·have h1' : (48 : Int) ≤ s[i].toNat := by omega
     by_cases h2 : s[i].toNat ≤ 57
     ·have h2' : (s[i].toNat : Int) ≤ 57 := by omega
      simp [q5,q30,q31,hlt',ix,h1',h2']
      refine FN.mono (smust_t w3) ?_
      rintro _ w4 ⟨⟨u,rfl⟩,rfl⟩
      have hw1 : IntKind.u64.wrap (10 * (n : Int)) = 10 * n := wrap64u _ (by omega) (by omega)
      have hw2 : IntKind.u8.wrap ((s[i].toNat : Int) - 48) = (s[i].toNat : Int) - 48 := wrap8u _ (by omega) (by omega)
      have hw3 : IntKind.u64.wrap ((s[i].toNat : Int) - 48) = (s[i].toNat : Int) - 48 := wrap64u _ (by omega) (by omega)
      have hw4 : IntKind.u64.wrap (10 * (n : Int) + ((s[i].toNat : Int) - 48)) = 10 * (n : Int) + ((s[i].toNat : Int) - 48) := wrap64u _ (by omega) (by omega)
      simp [q1,q5,q30,q31,q6,ix,hw1,hw2,hw3,hw4]
      have hps : 10 ^ (i + 1) = 10 * 10 ^ i := by rw [Nat.pow_succ,Nat.mul_comm]
      refine ⟨s.length - (i + 1),by omega,i + 1,rfl,by omega,by rw [wrap64 _ (by omega) (by omega)]; rfl,10 * n + (s[i].toNat - 48),by omega,?_,by omega⟩
      rw [← hd,digs,if_pos ⟨hg1,h2⟩]
     ·have h2' : ¬ (s[i].toNat : Int) ≤ 57 := by omega
      simp [q5,q30,q31,hlt',ix,h1',h2']
      refine FN.mono (smust_f w3) ?_
      rintro _ w4 ⟨rfl,rfl⟩
      simp
      refine ⟨hM1,?_⟩
      have : digs s 0 = none := by rw [← hd,digs,if_neg (by omega)]
      simp [wordP,hP,this]
    ·have h1' : ¬ (48 : Int) ≤ s[i].toNat := by omega
     simp [q5,q30,q31,hlt',ix,h1']
     refine FN.mono (smust_f w3) ?_
     rintro _ w4 ⟨rfl,rfl⟩
     simp
     refine ⟨hM1,?_⟩
     have : digs s 0 = none := by rw [← hd,digs,if_neg (by omega)]
     simp [wordP,hP,this]
   ·have hi' : i = s.length := by omega
    have hlt' : ¬ (i : Int) < s.length := by omega
    subst hi'
    have hds : digs s 0 = some n := by rw [← hd,List.drop_length]; rfl
    rw [hds] at hP
    by_cases hb : n ≤ 255
    ·have hb' : (n : Int) ≤ 255 := by omega
     simp [q1,q30,q31,q6,hb']
     refine FN.mono (smust_t w3) ?_
     rintro _ w4 ⟨⟨u,rfl⟩,rfl⟩
     have hw : IntKind.u8.wrap (n : Int) = n := wrap8u _ (by omega) (by omega)
     simp [q6,hw]
     exact ⟨hM1,by simp [wordP,hP,hb]; exact h1⟩
    ·have hb' : ¬ (n : Int) ≤ 255 := by omega
     simp [q1,q30,q31,q6,hb']
     refine FN.mono (smust_f w3) ?_
     rintro _ w4 ⟨rfl,rfl⟩
     simp
     refine ⟨hM1,?_⟩
     simp [wordP,hP,hb]
theorem wnode_c {w : World} {rb b : Nat} {l : List Tx} (h : Rw w rb b l) (hl : l.length ≤ 1000000) : FN Tryz.prog 49 [ptr b] w fun e w' => RdS (fun n : Nat => u32 n) w w' rb b (wordP (fun s => numP s 4294967295) l) e := by
 refine FN_enter Tryz.func49 rfl rfl (by kernel_rfl) ?_
 simp
 refine FN.mono (wnum32_c h hl) ?_
 rintro e w' hR
 obtain ⟨hM,hp⟩ := hR
 cases ho : wordP (fun s => numP s 4294967295) l with
 | none => rw [ho] at hp; obtain rfl : _ = _ := hp; simp; exact ⟨hM,rfl⟩
 | some q => rw [ho] at hp; obtain ⟨rfl,h1⟩ := hp; simp; exact ⟨hM,rfl,h1⟩
theorem wlong_c {w : World} {rb b : Nat} {l : List Tx} (h : Rw w rb b l) (hl : l.length ≤ 1000000) : FN Tryz.prog 50 [ptr b] w fun e w' => RdS (fun n : Nat => u64 n) w w' rb b (wordP (fun s => numP s 9223372036854775807) l) e := by
 refine FN_enter Tryz.func50 rfl rfl (by kernel_rfl) ?_
 simp
 refine FN.mono (wnum64_c h hl) ?_
 rintro e w' hR
 obtain ⟨hM,hp⟩ := hR
 cases ho : wordP (fun s => numP s 9223372036854775807) l with
 | none => rw [ho] at hp; obtain rfl : _ = _ := hp; simp; exact ⟨hM,rfl⟩
 | some q => rw [ho] at hp; obtain ⟨rfl,h1⟩ := hp; simp; exact ⟨hM,rfl,h1⟩
theorem wsmall_c {w : World} {rb b : Nat} {l : List Tx} (h : Rw w rb b l) (hl : l.length ≤ 1000000) : FN Tryz.prog 73 [ptr b] w fun e w' => RdS (fun n : Nat => u8 n) w w' rb b (wordP (fun s => numP s 255) l) e := by
 refine FN_enter Tryz.func73 rfl rfl (by kernel_rfl) ?_
 simp
 refine FN.mono (wnum8_c h hl) ?_
 rintro e w' hR
 obtain ⟨hM,hp⟩ := hR
 cases ho : wordP (fun s => numP s 255) l with
 | none => rw [ho] at hp; obtain rfl : _ = _ := hp; simp; exact ⟨hM,rfl⟩
 | some q => rw [ho] at hp; obtain ⟨rfl,h1⟩ := hp; simp; exact ⟨hM,rfl,h1⟩
end Go.Proofs