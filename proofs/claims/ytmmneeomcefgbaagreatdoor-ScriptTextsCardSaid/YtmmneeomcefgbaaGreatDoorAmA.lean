/-
  Contracts of the functions that the law reaches,step by step.
-/
import Derived.Test.YtmmneeomcefgbaaGreatDoorAmO
namespace Go.Proofs
open Pk
set_option maxRecDepth 10000
/-! ### Records -/
structure Rec where
  kind : Int
  nn : Int
  ns : Int
  nt : Int
  nq : Int
  what : Int
  why : Int
  at' : Int
  num : Int
  node : Int
  reg : Int
  yes : Bool
  fro : Int
  til : Int
  lev : Int
abbrev recC (r : Rec) : List Value := [i64 r.kind,u32 r.nn,u32 r.ns,u64 r.nt,u32 r.nq,i64 r.what,i64 r.why,u64 r.at',u64 r.num,u32 r.node,u32 r.reg,.bool r.yes,u64 r.fro,u64 r.til,u8 r.lev]
abbrev recV (r : Rec) : Value := .agg #[i64 r.kind,u32 r.nn,u32 r.ns,u64 r.nt,u32 r.nq,i64 r.what,i64 r.why,u64 r.at',u64 r.num,u32 r.node,u32 r.reg,.bool r.yes,u64 r.fro,u64 r.til,u8 r.lev]
def rec0 : Rec := ⟨0,0,0,0,0,0,0,0,0,0,0,false,0,0,0⟩
instance : DecidableEq Rec := fun a b => decidable_of_iff (a.kind = b.kind ∧ a.nn = b.nn ∧ a.ns = b.ns ∧ a.nt = b.nt ∧ a.nq = b.nq ∧ a.what = b.what ∧ a.why = b.why ∧ a.at' = b.at' ∧ a.num = b.num ∧ a.node = b.node ∧ a.reg = b.reg ∧ a.yes = b.yes ∧ a.fro = b.fro ∧ a.til = b.til ∧ a.lev = b.lev) (by cases a; cases b; simp)
/-- What a record's cells may be. -/
structure RecOk (r : Rec) : Prop where
  nn : 0 ≤ r.nn ∧ r.nn ≤ 4294967295
  ns : 0 ≤ r.ns ∧ r.ns ≤ 4294967295
  nt : 0 ≤ r.nt ∧ r.nt ≤ 18446744073709551615
  nq : 0 ≤ r.nq ∧ r.nq ≤ 4294967295
  what : -9223372036854775808 ≤ r.what ∧ r.what ≤ 9223372036854775807
  why : -9223372036854775808 ≤ r.why ∧ r.why ≤ 9223372036854775807
  at' : 0 ≤ r.at' ∧ r.at' ≤ 18446744073709551615
  num : 0 ≤ r.num ∧ r.num ≤ 18446744073709551615
  node : 0 ≤ r.node ∧ r.node ≤ 4294967295
  reg : 0 ≤ r.reg ∧ r.reg ≤ 4294967295
  fro : 0 ≤ r.fro ∧ r.fro ≤ 18446744073709551615
  til : 0 ≤ r.til ∧ r.til ≤ 18446744073709551615
  lev : 0 ≤ r.lev ∧ r.lev ≤ 255
/-! ### Items that are leaves -/
abbrev leafC (k n : Int) : List Value := [i64 k,u64 n,.slice none 0 0,.string ⟨#[]⟩,.slice none 0 0]
abbrev leafV (k n : Int) : Value := .agg #[i64 k,u64 n,.slice none 0 0,.string ⟨#[]⟩,.slice none 0 0]
abbrev panV (e : Int) : List PanicEntry := [{ v := .iface 48 (i64 e),recovered := false }]
end Go.Proofs
