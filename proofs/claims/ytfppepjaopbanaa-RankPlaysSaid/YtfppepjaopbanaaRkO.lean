/-
  Contracts of the functions that the law reaches, step by step.
-/
import Derived.Test.YtfppepjaopbanaaProg
import Derived.Test.YtfppepjaopbanaaEngZ
import Derived.Test.YtfppepjaopbanaaEngW
import Derived.Test.YtfppepjaopbanaaEngS
import Derived.Test.YtfppepjaopbanaaEngQ
import Derived.Test.YtfppepjaopbanaaEngU
namespace Go.Proofs
open Pk
set_option maxRecDepth 10000
abbrev u32 (x : Int) : Value := .int .u32 x
abbrev u64 (x : Int) : Value := .int .u64 x
abbrev i64 (x : Int) : Value := .int .i64 x
abbrev ptr (b : Nat) : Value := .pointer (some ⟨b, 0, none⟩)
end Go.Proofs
