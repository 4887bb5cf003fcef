/-
  Contracts of the functions that the law reaches,step by step.
-/
import Derived.Test.YtmmneeomcefgbaaGreatDoorProg
import Derived.Test.YtmmneeomcefgbaaGreatDoorEngV
import Derived.Test.YtmmneeomcefgbaaGreatDoorEngR
import Derived.Test.YtmmneeomcefgbaaGreatDoorEngJ
namespace Go.Proofs
open Pk
set_option maxRecDepth 10000
abbrev u32 (x : Int) : Value := .int .u32 x
abbrev u64 (x : Int) : Value := .int .u64 x
abbrev i64 (x : Int) : Value := .int .i64 x
abbrev u8 (x : Int) : Value := .int .u8 x
abbrev ptr (b : Nat) : Value := .pointer (some ⟨b,0,none⟩)
end Go.Proofs
