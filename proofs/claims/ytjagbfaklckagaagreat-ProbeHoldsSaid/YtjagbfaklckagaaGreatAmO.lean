/-
  Contracts of the functions that the law reaches, step by step.
-/
import Derived.Test.YtjagbfaklckagaaGreatProg
import Derived.Test.YtjagbfaklckagaaGreatEngZ
import Derived.Test.YtjagbfaklckagaaGreatEngW
import Derived.Test.YtjagbfaklckagaaGreatEngS
import Derived.Test.YtjagbfaklckagaaGreatEngQ
import Derived.Test.YtjagbfaklckagaaGreatEngU
import Derived.Test.YtjagbfaklckagaaGreatEngT
import Derived.Test.YtjagbfaklckagaaGreatEngAB
import Derived.Test.YtjagbfaklckagaaGreatEngAC
import Derived.Test.YtjagbfaklckagaaGreatEngAD
import Derived.Test.YtjagbfaklckagaaGreatEngV
namespace Go.Proofs
open Pk
set_option maxRecDepth 10000
abbrev u32 (x : Int) : Value := .int .u32 x
abbrev u64 (x : Int) : Value := .int .u64 x
abbrev i64 (x : Int) : Value := .int .i64 x
abbrev u8 (x : Int) : Value := .int .u8 x
abbrev ptr (b : Nat) : Value := .pointer (some ⟨b, 0, none⟩)
end Go.Proofs
