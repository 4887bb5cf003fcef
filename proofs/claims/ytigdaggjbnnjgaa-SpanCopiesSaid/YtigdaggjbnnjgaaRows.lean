/-
  No cell of these rows narrows 'for every input' (looked for: loops, veiled, ifaces, maps, wideKeys, modest, calm, conditions, laid).
  DERIVED. THE GIVEN ROWS OF THIS SEAT. 3 by the template 'for every input the law returns true; each argument reads behind the call as it read before'; 0 by the template 'total and deterministic' (their statements: YtigdaggjbnnjgaaTotals.lean).
  GIVEN WITH THE SEED: the statements are not yours to turn. If you find one false, say at which input.
  Laid BY PROGRAM, IN A SANDBOX (cutbox-rows.mjs): the forced cells as the released guide's own fill.sh prints them over the translation a93ef799eb5168db… (all of the seat's roots in one cut). By AI agents, Wed Nov 11 2026. No macro, syntax, notation, axiom, sorry.
-/
import Derived.Test.YtigdaggjbnnjgaaChecked
import GoSem.Claim
import GoSem.ClaimJoined
import GoSem.ClaimMapViews
import Derived.JoinedTies
import Derived.KernelRfl
namespace Go.Proofs.Ytigdaggjbnnjgaa
/- THE CELL 'sum', in the pinned program and in every row, IS THE sha256 OF THE DUMP (.gsa) THAT YtigdaggjbnnjgaaProg.lean LOADS. Nothing in Lean hashes anything: it is a label: what it is worth is what the hold of that sum in a sandbox is worth. -/
noncomputable def Try.pinned : Pinned := { name := "ytigdaggjbnnjgaa", sum := "a93ef799eb5168db9dfea4d824e3690eca38e74d46521f4d21ce439315525828", checked := Try.checked }
namespace Rows
def none {H : Type} : Left H := { results := [], args := [] }

/-- 'packsaddlelaw20.SpanHolds': WHATEVER THE INPUT: true; the input reads as it did. -/
def spanHoldsSpec : ChangeSpec := { name := "spanHolds", fn := fun _ => fun
  | [d1, d2, d3] => { results := [.lit (.bool true)], args := [d1, d2, d3] }
  | _ => none }
def spanHoldsRow : OpenClaim := { program := "ytigdaggjbnnjgaa", sum := "a93ef799eb5168db9dfea4d824e3690eca38e74d46521f4d21ce439315525828", func := "packsaddle/packsaddlelaw20.SpanHolds", spec := "spanHolds", inPlace := ["maps.clone"], unfollowed := true, recurses := true, plainKeys := false, apart := false }
def SpanHoldsSaid : Prop := spanHoldsRow.holds Try.pinned (OpenSpec.ofChange spanHoldsSpec)

/-- ITS FALSE NEIGHBOUR: 'it returns false'. Refute it at one input. -/
def spanHoldsWrong : ChangeSpec := { name := "spanHolds", fn := fun _ => fun
  | [d1, d2, d3] => { results := [.lit (.bool false)], args := [d1, d2, d3] }
  | _ => none }
def SpanHoldsWrongFalsely : Prop := spanHoldsRow.holds Try.pinned (OpenSpec.ofChange spanHoldsWrong)

/-- 'packsaddlelaw20.SpanFull': WHATEVER THE INPUT: true; the input reads as it did. -/
def spanFullSpec : ChangeSpec := { name := "spanFull", fn := fun _ => fun
  | [d] => { results := [.lit (.bool true)], args := [d] }
  | _ => none }
def spanFullRow : OpenClaim := { program := "ytigdaggjbnnjgaa", sum := "a93ef799eb5168db9dfea4d824e3690eca38e74d46521f4d21ce439315525828", func := "packsaddle/packsaddlelaw20.SpanFull", spec := "spanFull", inPlace := ["maps.clone"], unfollowed := true, recurses := true, plainKeys := false, apart := false }
def SpanFullSaid : Prop := spanFullRow.holds Try.pinned (OpenSpec.ofChange spanFullSpec)

/-- ITS FALSE NEIGHBOUR: 'it returns false'. Refute it at one input. -/
def spanFullWrong : ChangeSpec := { name := "spanFull", fn := fun _ => fun
  | [d] => { results := [.lit (.bool false)], args := [d] }
  | _ => none }
def SpanFullWrongFalsely : Prop := spanFullRow.holds Try.pinned (OpenSpec.ofChange spanFullWrong)

/-- 'packsaddlelaw20.SpanCopies': WHATEVER THE INPUT: true; the input reads as it did. -/
def spanCopiesSpec : ChangeSpec := { name := "spanCopies", fn := fun _ => fun
  | [d1, d2] => { results := [.lit (.bool true)], args := [d1, d2] }
  | _ => none }
def spanCopiesRow : OpenClaim := { program := "ytigdaggjbnnjgaa", sum := "a93ef799eb5168db9dfea4d824e3690eca38e74d46521f4d21ce439315525828", func := "packsaddle/packsaddlelaw20.SpanCopies", spec := "spanCopies", inPlace := ["maps.clone"], unfollowed := true, recurses := true, plainKeys := false, apart := false }
def SpanCopiesSaid : Prop := spanCopiesRow.holds Try.pinned (OpenSpec.ofChange spanCopiesSpec)

/-- ITS FALSE NEIGHBOUR: 'it returns false'. Refute it at one input. -/
def spanCopiesWrong : ChangeSpec := { name := "spanCopies", fn := fun _ => fun
  | [d1, d2] => { results := [.lit (.bool false)], args := [d1, d2] }
  | _ => none }
def SpanCopiesWrongFalsely : Prop := spanCopiesRow.holds Try.pinned (OpenSpec.ofChange spanCopiesWrong)

/- THE SECOND FORM. 'bulk': how many values and letters a reading holds, each counted each time it is reached (what is shared counts as often as it is met; a slice's spare places count too). A statement '..UptoSaid' is the law's where the arguments, and the package variables that the reading takes, are together of bulk at most 1048576: NARROWER than '..Said'. Prove '..Said' where nothing that the law and all that it calls make is longer than what came in: it says more and counts as full. Else prove '..UptoSaid'. A law counts once. -/
mutual
def uptoBulk {H : Type} : DataW H → Nat
  | .lit (.string bytes) => bytes.length + 1
  | .lit _ => 1
  | .nil => 1
  | .ptr d => uptoBulk d + 1
  | .slice elems spare => uptoBulkAll elems + uptoBulkAll spare + 1
  | .agg parts => uptoBulkAll parts + 1
  | .iface _ d => uptoBulk d + 1
  | .map entries => uptoBulkEntries entries + 1
  | .held _ => 1
def uptoBulkAll {H : Type} : List (DataW H) → Nat
  | [] => 0
  | d :: r => uptoBulk d + uptoBulkAll r
def uptoBulkEntries {H : Type} : List (Lit × DataW H) → Nat
  | [] => 0
  | x :: r => uptoBulkEntry x + uptoBulkEntries r
def uptoBulkEntry {H : Type} : Lit × DataW H → Nat
  | (.string bytes, d) => bytes.length + uptoBulk d + 1
  | (_, d) => uptoBulk d + 1
 end
def uptoSmall : (H : Type) → List (DataW H) → Bool := fun _ ds => decide (uptoBulkAll ds ≤ 1048576)
def OpenSpec.upto (s : _root_.Go.ChangeSpec) : _root_.Go.OpenSpec := { _root_.Go.OpenSpec.ofChange s with cond := some uptoSmall }

/-- 'packsaddlelaw20.SpanHolds', WHERE WHAT IT READS IS OF BULK AT MOST 1048576: true; the input reads as it did. -/
def spanHoldsUptoRow : OpenClaim := { program := "ytigdaggjbnnjgaa", sum := "a93ef799eb5168db9dfea4d824e3690eca38e74d46521f4d21ce439315525828", func := "packsaddle/packsaddlelaw20.SpanHolds", spec := "spanHolds", inPlace := ["maps.clone"], unfollowed := true, recurses := true, plainKeys := false, apart := false, narrowed := true }
def SpanHoldsUptoSaid : Prop := spanHoldsUptoRow.holds Try.pinned (OpenSpec.upto spanHoldsSpec)

/-- 'packsaddlelaw20.SpanFull', WHERE WHAT IT READS IS OF BULK AT MOST 1048576: true; the input reads as it did. -/
def spanFullUptoRow : OpenClaim := { program := "ytigdaggjbnnjgaa", sum := "a93ef799eb5168db9dfea4d824e3690eca38e74d46521f4d21ce439315525828", func := "packsaddle/packsaddlelaw20.SpanFull", spec := "spanFull", inPlace := ["maps.clone"], unfollowed := true, recurses := true, plainKeys := false, apart := false, narrowed := true }
def SpanFullUptoSaid : Prop := spanFullUptoRow.holds Try.pinned (OpenSpec.upto spanFullSpec)

/-- 'packsaddlelaw20.SpanCopies', WHERE WHAT IT READS IS OF BULK AT MOST 1048576: true; the input reads as it did. -/
def spanCopiesUptoRow : OpenClaim := { program := "ytigdaggjbnnjgaa", sum := "a93ef799eb5168db9dfea4d824e3690eca38e74d46521f4d21ce439315525828", func := "packsaddle/packsaddlelaw20.SpanCopies", spec := "spanCopies", inPlace := ["maps.clone"], unfollowed := true, recurses := true, plainKeys := false, apart := false, narrowed := true }
def SpanCopiesUptoSaid : Prop := spanCopiesUptoRow.holds Try.pinned (OpenSpec.upto spanCopiesSpec)

end Rows
end Go.Proofs.Ytigdaggjbnnjgaa
