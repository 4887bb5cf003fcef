/-
  Contracts of the functions that the law reaches, step by step.
-/
import Derived.ProofKit
import Derived.OpenShut
import Derived.Test.YthamfghcfjhifaaGreatDoorAmO
import Derived.Test.YthamfghcfjhifaaGreatDoorEngR
namespace Go.Proofs
open Go.ChangeShapes Go.WideShapes Go.ChangeAt Go.RowKit Go.Deep Pk
set_option maxRecDepth 10000
end Go.Proofs
