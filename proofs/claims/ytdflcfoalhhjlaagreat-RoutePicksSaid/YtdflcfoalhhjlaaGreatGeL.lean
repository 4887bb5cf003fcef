/-
 Contracts of the functions that the law reaches,step by step.
-/
import Derived.Test.YtdflcfoalhhjlaaGreatGeK
namespace Go.Proofs
open Pk
set_option maxRecDepth 10000
end Go.Proofs
namespace Go.Proofs
open Pk
set_option maxRecDepth 10000
end Go.Proofs