/-
 Contracts of the functions that the law reaches,step by step.
-/
import Derived.Test.YtmmneeomcefgbaaGreatDoorAgA
import Derived.Test.YtmmneeomcefgbaaGreatDoorAeT
import Derived.Test.YtmmneeomcefgbaaGreatDoorAfA
import Derived.Test.YtmmneeomcefgbaaGreatDoorEngV
namespace Go.Proofs
open Pk
set_option maxRecDepth 10000
attribute [local simp] beq_dec bne_dec
end Go.Proofs
namespace Go.Proofs
open Pk
set_option maxRecDepth 10000
attribute [local simp] beq_dec bne_dec
def shB (t : It) (ks : List Int) : Prop := t.k = 4 ∧ t.l.map It.k = ks
instance (t : It) (ks : List Int) : Decidable (shB t ks) := by unfold shB; infer_instance
end Go.Proofs
namespace Go.Proofs
open Pk
set_option maxRecDepth 10000
attribute [local simp] beq_dec bne_dec
def bareB (t : It) : Bool := (decide (t.k = 1) || (decide (t.k = 5) || decide (t.n = 0))) && ((decide (t.k = 2) || decide (t.b.length = 0)) && ((decide (t.k = 3) || decide (t.s = ⟨#[]⟩)) && (decide (t.k = 4) || decide (t.l.length = 0))))
end Go.Proofs
namespace Go.Proofs
open Pk
set_option maxRecDepth 10000
attribute [local simp] beq_dec bne_dec
noncomputable def endOfD (t : It) : Option (Int × Int) := if t = rendI 0 0 then some (0,0) else if shB t [1,4] ∧ bareB t = true then (match t.l with | [_,x1] => if shB x1 [1,1] then (match x1.l with | [y0,y1] => if (1 ≤ y0.n ∧ y0.n ≤ 4294967295 ∧ y1.n ≤ 4294967295) ∧ t = rendI y0.n y1.n then some (y0.n,y1.n) else none | _ => none) else none | _ => none) else none
end Go.Proofs
namespace Go.Proofs
open Pk
set_option maxRecDepth 10000
end Go.Proofs
namespace Go.Proofs
open Pk
set_option maxRecDepth 10000
end Go.Proofs
namespace Go.Proofs
open Pk
set_option maxRecDepth 10000
attribute [local simp] beq_dec bne_dec
noncomputable def nameOfD (t : It) : Option Nam := if shB t [4,1,1] then (match t.l with | [x0,x1,x2] => (match endOfD x0 with | none => none | some (a,b) => if nameE ⟨a,b,x1.n,x2.n % 4294967296⟩ = 0 ∧ t = rnameI ⟨a,b,x1.n,x2.n % 4294967296⟩ then some ⟨a,b,x1.n,x2.n % 4294967296⟩ else none) | _ => none) else none
theorem endOfD_ok {t : It} {a b : Int} (h : endOfD t = some (a, b)) (hnn : ∀ x ∈ t.l, ∀ y ∈ x.l, 0 ≤ y.n) : (0 ≤ a ∧ a ≤ 4294967295) ∧ (0 ≤ b ∧ b ≤ 4294967295) := by
 unfold endOfD at h
 split at h
 ·cases h; omega
 split at h
 ·rename_i hs
  split at h
  ·rename_i q0 q1 hl
   split at h
   ·split at h
    ·rename_i y0 y1 hl1
     split at h
     ·rename_i hc
      cases h
      have := hnn q1 (by rw [hl]; simp) y1 (by rw [hl1]; simp)
      omega
     ·cases h
    ·cases h
   ·cases h
  ·cases h
 ·cases h
end Go.Proofs
namespace Go.Proofs
open Pk
set_option maxRecDepth 10000
attribute [local simp] beq_dec bne_dec
end Go.Proofs
namespace Go.Proofs
open Pk
set_option maxRecDepth 10000
attribute [local simp] beq_dec bne_dec
end Go.Proofs