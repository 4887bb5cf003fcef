/-
 Contracts of the functions that the law reaches,step by step.
-/
import Derived.Test.YtmmneeomcefgbaaGreatDoorAeP
import Derived.Test.YtmmneeomcefgbaaGreatDoorAfA
import Derived.Test.YtmmneeomcefgbaaGreatDoorEngAH
import Derived.Laws.MakeOwn
namespace Go.Proofs
open Pk
set_option maxRecDepth 10000
end Go.Proofs
namespace Go.Proofs
open Pk
set_option maxRecDepth 10000
end Go.Proofs
namespace Go.Proofs
open Pk
set_option maxRecDepth 10000
theorem nums_back {x : List Int} (hx : ∀ c ∈ x, 0 ≤ c ∧ c ≤ 255) : (strOfNums x).data.toList.map (fun c => (c.toNat : Int)) = x := by
 rw [strOfNums_data,List.map_map]
 conv => rhs; rw [← List.map_id x]
 refine List.map_congr_left fun c hc => ?_
 have := hx c hc
 simp
 omega
end Go.Proofs
namespace Go.Proofs
open Pk
set_option maxRecDepth 10000
attribute [local simp] beq_dec bne_dec
def rendI (n s : Int) : It := if n = 0 ∧ s = 0 then listI [uintI 1,uintI 0] else listI [uintI 2,listI [uintI n,uintI s]]
def rnameI (n : Nam) : It := listI [rendI n.nn n.ns,uintI n.nt,uintI n.nq]
theorem rnameI_eq {n : Nam} (h : n.nn ≠ 0) : rnameI n = nameI n := by
 unfold rnameI nameI rendI endI
 rw [if_neg (fun e => h e.1),if_neg h]
end Go.Proofs
namespace Go.Proofs
open Pk
set_option maxRecDepth 10000
attribute [local simp] beq_dec bne_dec
end Go.Proofs
namespace Go.Proofs
open Pk
set_option maxRecDepth 10000
attribute [local simp] beq_dec bne_dec
end Go.Proofs
namespace Go.Proofs
open Pk
set_option maxRecDepth 10000
attribute [local simp] beq_dec bne_dec
end Go.Proofs