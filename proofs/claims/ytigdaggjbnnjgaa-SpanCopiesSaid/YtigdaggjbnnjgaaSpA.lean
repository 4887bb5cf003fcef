/-
  Contracts of the functions that the law reaches, step by step.
-/
import Derived.Test.YtigdaggjbnnjgaaProg
import Derived.Test.YtigdaggjbnnjgaaEngW
import Derived.Test.YtigdaggjbnnjgaaEngS
import Derived.Test.YtigdaggjbnnjgaaEngQ
namespace Go.Proofs
open Pk
set_option maxRecDepth 10000
abbrev u32 (x : Int) : Value := .int .u32 x
abbrev u64 (x : Int) : Value := .int .u64 x
abbrev ptr (b : Nat) : Value := .pointer (some ⟨b, 0, none⟩)
abbrev ML := List (Int × Int)
abbrev MA (w : World) (r : Nat) (m : ML) := MapAt (Value.int .u64) (Value.int .u64) w r m
abbrev MV (w : World) (v : Value) (m : ML) := MapV (Value.int .u64) (Value.int .u64) w v m
theorem k23 : KeyEq Try.prog 23 (Value.int .u64) := keyEq_int (by simp)
theorem tm72 : Try.prog.underlying 72 = some (.map 23 23) := by simp
theorem z23 (w : World) : (zeroValue 23).run Try.prog w = .ok (.int .u64 0) w := by simp
abbrev PK := Int × Int
def pkc (p : PK) : List Value := [u32 p.1, u32 p.2]
def ekP (p : PK) : Value := .agg (pkc p).toArray
theorem f67 : flatA Try.prog 67 = some [.int .u32, .int .u32] := by kernel_rfl
theorem k67 : KeyEq Try.prog 67 ekP := keyEq_flat f67 (fun _ => rfl) fun a b => by
  obtain ⟨a1, a2⟩ := a
  obtain ⟨b1, b2⟩ := b
  by_cases h1 : a1 = b1 <;> by_cases h2 : a2 = b2 <;> simp [pkc, eqcs, eqc, h1, h2]
theorem tm61 : Try.prog.underlying 61 = some (.map 67 72) := by simp
theorem z72 (w : World) : (zeroValue 72).run Try.prog w = .ok (.map none) w := by simp
end Go.Proofs
