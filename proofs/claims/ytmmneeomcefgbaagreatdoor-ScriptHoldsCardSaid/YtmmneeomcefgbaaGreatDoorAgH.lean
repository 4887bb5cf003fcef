/-
 Contracts of the functions that the law reaches,step by step.
-/
import Derived.Test.YtmmneeomcefgbaaGreatDoorAgC
namespace Go.Proofs
open Pk
set_option maxRecDepth 10000
attribute [local simp] beq_dec bne_dec
def shp : Nat → List Int
 | 1 => [1,4,1,1,1]
 | 2 => [1,1,1,1]
 | 3 => [1,1,1,1,5,1]
 | 4 => [1,1,1,1,1]
 | _ => [1,1,1,1,5]
def nAt (l : List It) (j : Nat) : Int := match l[j]? with | some x => x.n | none => 0
noncomputable def recOfD (k : Int) (l : List It) : Option Rec :=
 if k = 1 then (match l[1]? with | some x => (match nameOfD x with | some n => some { rec0 with kind := 1,nn := n.nn,ns := n.ns,nt := n.nt,nq := n.nq,what := min (nAt l 2) 9,why := min (nAt l 3) 9,at' := nAt l 4 } | none => none) | none => none)
 else if k = 2 then some { rec0 with kind := 2,num := nAt l 1,node := nAt l 2 % 4294967296,reg := nAt l 3 % 4294967296 }
 else if k = 3 then some { rec0 with kind := 3,num := nAt l 1,node := nAt l 2 % 4294967296,reg := nAt l 3 % 4294967296,yes := decide (nAt l 4 = 1),til := nAt l 5 }
 else if k = 4 then some { rec0 with kind := 4,node := nAt l 1 % 4294967296,fro := nAt l 2,til := nAt l 3,lev := nAt l 4 % 256 }
 else some { rec0 with kind := 5,node := nAt l 1 % 4294967296,reg := nAt l 2 % 4294967296,num := nAt l 3,yes := decide (nAt l 4 = 1) }
noncomputable def ofD (t : It) : Option Rec := if t.k = 4 then (match t.l with | [] => none | x0 :: _ => if x0.k = 1 ∧ 1 ≤ x0.n ∧ x0.n ≤ 5 then (if shB t (shp x0.n.toNat) then (match recOfD x0.n t.l with | none => none | some r => if rightE r = 0 ∧ t = itemR r then some r else none) else none) else none) else none
theorem nameOfD_ok {t : It} {n : Nam} (h : nameOfD t = some n) (hn : ∀ x ∈ t.l, 0 ≤ x.n ∧ x.n ≤ 18446744073709551615) (hnn : ∀ x ∈ t.l, ∀ y ∈ x.l, ∀ z ∈ y.l, 0 ≤ z.n) : NamOk n ∧ (0 ≤ n.nt ∧ n.nt ≤ 18446744073709551615) := by
 unfold nameOfD at h
 split at h
 ·split at h
  ·rename_i x0 x1 x2 hl
   split at h
   ·cases h
   ·rename_i a b he
    split at h
    ·cases h
     have := endOfD_ok he (hnn x0 (by rw [hl]; simp))
     have h1 := hn x1 (by rw [hl]; simp)
     exact ⟨⟨this.1,this.2,by show 0 ≤ x2.n % 4294967296 ∧ x2.n % 4294967296 ≤ 4294967295; omega⟩,h1⟩
    ·cases h
  ·cases h
 ·cases h
end Go.Proofs
namespace Go.Proofs
open Pk
set_option maxRecDepth 10000
attribute [local simp] beq_dec bne_dec
end Go.Proofs
namespace Go.Proofs
open Pk
set_option maxRecDepth 10000
attribute [local simp] beq_dec bne_dec
end Go.Proofs
namespace Go.Proofs
open Pk
set_option maxRecDepth 10000
attribute [local simp] beq_dec bne_dec
end Go.Proofs
namespace Go.Proofs
open Pk
set_option maxRecDepth 10000
theorem ofD_inv {t : It} {r : Rec} (h : ofD t = some r) : rightE r = 0 ∧ t = itemR r := by
 unfold ofD at h
 split at h
 ·split at h
  ·cases h
  ·split at h
   ·split at h
    ·split at h
     ·cases h
     ·split at h
      ·cases h; assumption
      ·cases h
    ·cases h
   ·cases h
 ·cases h
theorem endOfD_rend {a b : Int} (ha : 1 ≤ a ∧ a ≤ 4294967295) (hb : 0 ≤ b ∧ b ≤ 4294967295) : endOfD (rendI a b) = some (a, b) := by
 have e : rendI a b = listI [uintI 2,listI [uintI a,uintI b]] := by unfold rendI; rw [if_neg (by omega)]
 have e0 : rendI 0 0 = listI [uintI 1,uintI 0] := by unfold rendI; rw [if_pos ⟨rfl,rfl⟩]
 unfold endOfD
 rw [if_neg (by rw [e,e0]; simp [listI,uintI]),if_pos ⟨by rw [e]; exact ⟨rfl,rfl⟩,by rw [e]; rfl⟩]
 rw [e]
 show (if shB (listI [uintI a,uintI b]) [1,1] then _ else _) = _
 rw [if_pos ⟨rfl,rfl⟩]
 exact if_pos ⟨⟨ha.1,ha.2,hb.2⟩,e.symm⟩
theorem nameOfD_rname {n : Nam} (hn : NamOk n) (h0 : nameE n = 0) : nameOfD (rnameI n) = some n := by
 have h1 := (nameE_inv h0).1
 have h2 := hn.nn
 have hq : n.nq % 4294967296 = n.nq := by have := hn.nq; omega
 unfold nameOfD
 rw [if_pos ⟨rfl,by unfold rnameI rendI; split <;> rfl⟩]
 show (match endOfD (rendI n.nn n.ns) with | none => none | some (a,b) => _) = _
 rw [endOfD_rend (by omega) hn.ns]
 show (if nameE ⟨n.nn,n.ns,n.nt,n.nq % 4294967296⟩ = 0 ∧ rnameI n = rnameI ⟨n.nn,n.ns,n.nt,n.nq % 4294967296⟩ then some ⟨n.nn,n.ns,n.nt,n.nq % 4294967296⟩ else none) = some n
 rw [hq]
 have hc : nameE ⟨n.nn,n.ns,n.nt,n.nq⟩ = 0 ∧ rnameI n = rnameI ⟨n.nn,n.ns,n.nt,n.nq⟩ := ⟨h0,rfl⟩
 exact if_pos hc
theorem ofD_item {r : Rec} (hr : RecOk r) (h0 : rightE r = 0) : ofD (itemR r) = some r := by
 obtain ⟨hk,hf,hn,ht3,hb⟩ := right_inv h0
 have fin : ∀ {x : Rec}, shB (itemR r) (shp r.kind.toNat) → recOfD r.kind (itemR r).l = some x → x = r → ofD (itemR r) = some r := fun {x} hs hx he => by
  unfold ofD
  rw [if_pos (show (itemR r).k = 4 from rfl)]
  show (if (uintI r.kind).k = 1 ∧ 1 ≤ (uintI r.kind).n ∧ (uintI r.kind).n ≤ 5 then _ else _) = _
  rw [if_pos ⟨rfl,hk⟩]
  show (if shB (itemR r) (shp r.kind.toNat) then _ else _) = _
  rw [if_pos hs]
  show (match recOfD r.kind (itemR r).l with | none => none | some r' => _) = _
  rw [hx,he]
  exact if_pos ⟨h0,rfl⟩
 have h2 := hr.node
 have h3 := hr.reg
 have h7 := hr.lev
 have m1 : r.node % 4294967296 = r.node := by omega
 have m2 : r.reg % 4294967296 = r.reg := by omega
 have m3 : r.lev % 256 = r.lev := by omega
 have hy : decide ((boolI r.yes).n = 1) = r.yes := by cases r.yes <;> rfl
 have hcase : r.kind = 1 ∨ r.kind = 2 ∨ r.kind = 3 ∨ r.kind = 4 ∨ r.kind = 5 := by omega
 have il : (itemR r).l = uintI r.kind :: partsR r := rfl
 have hf' := hf
 have hb' := hb
 unfold fineR at hf'
 unfold bareR at hb'
 rcases hcase with e | e | e | e | e
 ·rw [if_pos e] at hf' hb'
  obtain ⟨i1,i2,i3,i4,i5⟩ := repF_inv hf'
  have hp : partsR r = repI r := by unfold partsR; rw [if_pos e]
  have hnm := (nameE_inv i1).1
  have hno : NamOk (namR r) := ⟨hr.nn,hr.ns,hr.nq⟩
  refine fin (x := repB r) ?_ ?_ hb'
  ·refine ⟨rfl,?_⟩
   rw [il,hp,e,repI,← rnameI_eq hnm]
   unfold rnameI
   rfl
  ·rw [il,hp]
   unfold recOfD
   rw [if_pos e]
   show (match nameOfD (nameI (namR r)) with | some n => some { rec0 with kind := 1,nn := n.nn,ns := n.ns,nt := n.nt,nq := n.nq,what := min r.what 9,why := min r.why 9,at' := r.at' } | none => none) = _
   rw [← rnameI_eq hnm,nameOfD_rname hno i1,show min r.what 9 = r.what by omega,show min r.why 9 = r.why by omega,← e]
   rfl
 ·have hp : partsR r = askI r := by unfold partsR; rw [if_neg (by omega),if_pos e]
  rw [if_neg (by omega),if_pos e] at hb'
  refine fin (x := askBr r) ?_ ?_ hb'
  ·refine ⟨rfl,?_⟩
   rw [il,hp,e]; rfl
  ·rw [il,hp]
   unfold recOfD
   rw [if_neg (by omega),if_pos e]
   show some { rec0 with kind := 2,num := r.num,node := r.node % 4294967296,reg := r.reg % 4294967296 } = _
   rw [m1,m2,← e]; rfl
 ·have hp : partsR r = tellI r := by unfold partsR; rw [if_neg (by omega),if_neg (by omega),if_pos e]
  rw [if_neg (by omega),if_neg (by omega),if_pos e] at hb'
  refine fin (x := tellB r) ?_ ?_ hb'
  ·refine ⟨rfl,?_⟩
   rw [il,hp,e]; rfl
  ·rw [il,hp]
   unfold recOfD
   rw [if_neg (by omega),if_neg (by omega),if_pos e]
   show some { rec0 with kind := 3,num := r.num,node := r.node % 4294967296,reg := r.reg % 4294967296,yes := decide ((boolI r.yes).n = 1),til := r.til } = _
   rw [m1,m2,hy,← e]; rfl
 ·have hp : partsR r = foreI r := by unfold partsR; rw [if_neg (by omega),if_neg (by omega),if_neg (by omega),if_pos e]
  rw [if_neg (by omega),if_neg (by omega),if_neg (by omega),if_pos e] at hb'
  refine fin (x := foreB r) ?_ ?_ hb'
  ·refine ⟨rfl,?_⟩
   rw [il,hp,e]; rfl
  ·rw [il,hp]
   unfold recOfD
   rw [if_neg (by omega),if_neg (by omega),if_neg (by omega),if_pos e]
   show some { rec0 with kind := 4,node := r.node % 4294967296,fro := r.fro,til := r.til,lev := r.lev % 256 } = _
   rw [m1,m3,← e]; rfl
 ·have hp : partsR r = memI r := by unfold partsR; rw [if_neg (by omega),if_neg (by omega),if_neg (by omega),if_neg (by omega)]
  rw [if_neg (by omega),if_neg (by omega),if_neg (by omega),if_neg (by omega)] at hb'
  refine fin (x := memB r) ?_ ?_ hb'
  ·refine ⟨rfl,?_⟩
   rw [il,hp,e]; rfl
  ·rw [il,hp]
   unfold recOfD
   rw [if_neg (by omega),if_neg (by omega),if_neg (by omega),if_neg (by omega)]
   show some { rec0 with kind := 5,node := r.node % 4294967296,reg := r.reg % 4294967296,num := r.num,yes := decide ((boolI r.yes).n = 1) } = _
   rw [m1,m2,hy,← e]; rfl
end Go.Proofs