/-
  No cell of these rows narrows 'for every input' (looked for: loops, veiled, ifaces, maps, wideKeys, modest, calm, conditions, laid).
  DERIVED. THE GIVEN ROWS OF THIS SEAT. 4 by the template 'for every input the law returns true; each argument reads behind the call as it read before'; 0 by the template 'total and deterministic' (their statements: YtjagbfaklckagaaGreatTotals.lean).
  GIVEN WITH THE SEED: the statements are not yours to turn. If you find one false, say at which input.
  Laid BY PROGRAM, IN A SANDBOX (cutbox-rows.mjs): the forced cells as the released guide's own fill.sh prints them over the translation 087cb221453b5eff… (all of the seat's roots in one cut). By AI agents, Wed Nov 11 2026. No macro, syntax, notation, axiom, sorry.
-/
import Derived.Test.YtjagbfaklckagaaGreatChecked
import GoSem.Claim
import GoSem.ClaimJoined
import GoSem.ClaimMapViews
import Derived.JoinedTies
import Derived.KernelRfl
namespace Go.Proofs.YtjagbfaklckagaaGreat
/- THE CELL 'sum', in the pinned program and in every row, IS THE sha256 OF THE DUMP (.gsa) THAT YtjagbfaklckagaaGreatProg.lean LOADS. Nothing in Lean hashes anything: it is a label: what it is worth is what the hold of that sum in a sandbox is worth. -/
noncomputable def Tryz.pinned : Pinned := { name := "ytjagbfaklckagaagreat", sum := "087cb221453b5eff978ee0663aa6adfd9b4b598b8e352124b329fc69dbb1659f", checked := Tryz.checked }
namespace Rows
def none {H : Type} : Left H := { results := [], args := [] }

/-- 'packsaddlelaw26.ProbeFull': WHATEVER THE INPUT: true; the input reads as it did. -/
def probeFullSpec : ChangeSpec := { name := "probeFull", fn := fun _ => fun
  | [d1, d2] => { results := [.lit (.bool true)], args := [d1, d2] }
  | _ => none }
def probeFullRow : OpenClaim := { program := "ytjagbfaklckagaagreat", sum := "087cb221453b5eff978ee0663aa6adfd9b4b598b8e352124b329fc69dbb1659f", func := "packsaddle/packsaddlelaw26.ProbeFull", spec := "probeFull", unfollowed := true, recurses := true, plainKeys := false, apart := false }
def ProbeFullSaid : Prop := probeFullRow.holds Tryz.pinned (OpenSpec.ofChange probeFullSpec)

/-- ITS FALSE NEIGHBOUR: 'it returns false'. Refute it at one input. -/
def probeFullWrong : ChangeSpec := { name := "probeFull", fn := fun _ => fun
  | [d1, d2] => { results := [.lit (.bool false)], args := [d1, d2] }
  | _ => none }
def ProbeFullWrongFalsely : Prop := probeFullRow.holds Tryz.pinned (OpenSpec.ofChange probeFullWrong)

/-- 'packsaddlelaw26.ProbeHolds': WHATEVER THE INPUT: true; the input reads as it did. -/
def probeHoldsSpec : ChangeSpec := { name := "probeHolds", fn := fun _ => fun
  | [d1, d2, d3] => { results := [.lit (.bool true)], args := [d1, d2, d3] }
  | _ => none }
def probeHoldsRow : OpenClaim := { program := "ytjagbfaklckagaagreat", sum := "087cb221453b5eff978ee0663aa6adfd9b4b598b8e352124b329fc69dbb1659f", func := "packsaddle/packsaddlelaw26.ProbeHolds", spec := "probeHolds", unfollowed := true, recurses := true, plainKeys := false, apart := false }
def ProbeHoldsSaid : Prop := probeHoldsRow.holds Tryz.pinned (OpenSpec.ofChange probeHoldsSpec)

/-- ITS FALSE NEIGHBOUR: 'it returns false'. Refute it at one input. -/
def probeHoldsWrong : ChangeSpec := { name := "probeHolds", fn := fun _ => fun
  | [d1, d2, d3] => { results := [.lit (.bool false)], args := [d1, d2, d3] }
  | _ => none }
def ProbeHoldsWrongFalsely : Prop := probeHoldsRow.holds Tryz.pinned (OpenSpec.ofChange probeHoldsWrong)

/-- 'packsaddlelaw26.ProbePlays': WHATEVER THE INPUT: true; the input reads as it did. -/
def probePlaysSpec : ChangeSpec := { name := "probePlays", fn := fun _ => fun
  | [d1, d2] => { results := [.lit (.bool true)], args := [d1, d2] }
  | _ => none }
def probePlaysRow : OpenClaim := { program := "ytjagbfaklckagaagreat", sum := "087cb221453b5eff978ee0663aa6adfd9b4b598b8e352124b329fc69dbb1659f", func := "packsaddle/packsaddlelaw26.ProbePlays", spec := "probePlays", inPlace := ["maps.clone"], unfollowed := true, recurses := true, plainKeys := false, apart := false }
def ProbePlaysSaid : Prop := probePlaysRow.holds Tryz.pinned (OpenSpec.ofChange probePlaysSpec)

/-- ITS FALSE NEIGHBOUR: 'it returns false'. Refute it at one input. -/
def probePlaysWrong : ChangeSpec := { name := "probePlays", fn := fun _ => fun
  | [d1, d2] => { results := [.lit (.bool false)], args := [d1, d2] }
  | _ => none }
def ProbePlaysWrongFalsely : Prop := probePlaysRow.holds Tryz.pinned (OpenSpec.ofChange probePlaysWrong)

/-- 'packsaddlelaw26.ProbeCopies': WHATEVER THE INPUT: true; the input reads as it did. -/
def probeCopiesSpec : ChangeSpec := { name := "probeCopies", fn := fun _ => fun
  | [d1, d2] => { results := [.lit (.bool true)], args := [d1, d2] }
  | _ => none }
def probeCopiesRow : OpenClaim := { program := "ytjagbfaklckagaagreat", sum := "087cb221453b5eff978ee0663aa6adfd9b4b598b8e352124b329fc69dbb1659f", func := "packsaddle/packsaddlelaw26.ProbeCopies", spec := "probeCopies", inPlace := ["maps.clone"], unfollowed := true, recurses := true, plainKeys := false, apart := false }
def ProbeCopiesSaid : Prop := probeCopiesRow.holds Tryz.pinned (OpenSpec.ofChange probeCopiesSpec)

/-- ITS FALSE NEIGHBOUR: 'it returns false'. Refute it at one input. -/
def probeCopiesWrong : ChangeSpec := { name := "probeCopies", fn := fun _ => fun
  | [d1, d2] => { results := [.lit (.bool false)], args := [d1, d2] }
  | _ => none }
def ProbeCopiesWrongFalsely : Prop := probeCopiesRow.holds Tryz.pinned (OpenSpec.ofChange probeCopiesWrong)

/- THE SECOND FORM. 'bulk': how many values and letters a reading holds, each counted each time it is reached (what is shared counts as often as it is met; a slice's spare places count too). A statement '..UptoSaid' is the law's where the arguments, and the package variables that the reading takes, are together of bulk at most 1048576: NARROWER than '..Said'. Prove '..Said' where nothing that the law and all that it calls make is longer than what came in: it says more and counts as full. Else prove '..UptoSaid'. A law counts once. -/
mutual
def uptoBulk {H : Type} : DataW H → Nat
  | .lit (.string bytes) => bytes.length + 1
  | .lit _ => 1
  | .nil => 1
  | .ptr d => uptoBulk d + 1
  | .slice elems spare => uptoBulkAll elems + uptoBulkAll spare + 1
  | .agg parts => uptoBulkAll parts + 1
  | .iface _ d => uptoBulk d + 1
  | .map entries => uptoBulkEntries entries + 1
  | .held _ => 1
def uptoBulkAll {H : Type} : List (DataW H) → Nat
  | [] => 0
  | d :: r => uptoBulk d + uptoBulkAll r
def uptoBulkEntries {H : Type} : List (Lit × DataW H) → Nat
  | [] => 0
  | x :: r => uptoBulkEntry x + uptoBulkEntries r
def uptoBulkEntry {H : Type} : Lit × DataW H → Nat
  | (.string bytes, d) => bytes.length + uptoBulk d + 1
  | (_, d) => uptoBulk d + 1
 end
def uptoSmall : (H : Type) → List (DataW H) → Bool := fun _ ds => decide (uptoBulkAll ds ≤ 1048576)
def OpenSpec.upto (s : _root_.Go.ChangeSpec) : _root_.Go.OpenSpec := { _root_.Go.OpenSpec.ofChange s with cond := some uptoSmall }

/-- 'packsaddlelaw26.ProbeFull', WHERE WHAT IT READS IS OF BULK AT MOST 1048576: true; the input reads as it did. -/
def probeFullUptoRow : OpenClaim := { program := "ytjagbfaklckagaagreat", sum := "087cb221453b5eff978ee0663aa6adfd9b4b598b8e352124b329fc69dbb1659f", func := "packsaddle/packsaddlelaw26.ProbeFull", spec := "probeFull", unfollowed := true, recurses := true, plainKeys := false, apart := false, narrowed := true }
def ProbeFullUptoSaid : Prop := probeFullUptoRow.holds Tryz.pinned (OpenSpec.upto probeFullSpec)

/-- 'packsaddlelaw26.ProbeHolds', WHERE WHAT IT READS IS OF BULK AT MOST 1048576: true; the input reads as it did. -/
def probeHoldsUptoRow : OpenClaim := { program := "ytjagbfaklckagaagreat", sum := "087cb221453b5eff978ee0663aa6adfd9b4b598b8e352124b329fc69dbb1659f", func := "packsaddle/packsaddlelaw26.ProbeHolds", spec := "probeHolds", unfollowed := true, recurses := true, plainKeys := false, apart := false, narrowed := true }
def ProbeHoldsUptoSaid : Prop := probeHoldsUptoRow.holds Tryz.pinned (OpenSpec.upto probeHoldsSpec)

/-- 'packsaddlelaw26.ProbePlays', WHERE WHAT IT READS IS OF BULK AT MOST 1048576: true; the input reads as it did. -/
def probePlaysUptoRow : OpenClaim := { program := "ytjagbfaklckagaagreat", sum := "087cb221453b5eff978ee0663aa6adfd9b4b598b8e352124b329fc69dbb1659f", func := "packsaddle/packsaddlelaw26.ProbePlays", spec := "probePlays", inPlace := ["maps.clone"], unfollowed := true, recurses := true, plainKeys := false, apart := false, narrowed := true }
def ProbePlaysUptoSaid : Prop := probePlaysUptoRow.holds Tryz.pinned (OpenSpec.upto probePlaysSpec)

/-- 'packsaddlelaw26.ProbeCopies', WHERE WHAT IT READS IS OF BULK AT MOST 1048576: true; the input reads as it did. -/
def probeCopiesUptoRow : OpenClaim := { program := "ytjagbfaklckagaagreat", sum := "087cb221453b5eff978ee0663aa6adfd9b4b598b8e352124b329fc69dbb1659f", func := "packsaddle/packsaddlelaw26.ProbeCopies", spec := "probeCopies", inPlace := ["maps.clone"], unfollowed := true, recurses := true, plainKeys := false, apart := false, narrowed := true }
def ProbeCopiesUptoSaid : Prop := probeCopiesUptoRow.holds Tryz.pinned (OpenSpec.upto probeCopiesSpec)

end Rows
end Go.Proofs.YtjagbfaklckagaaGreat
