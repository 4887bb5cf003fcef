/-
  No cell of these rows narrows 'for every input' (looked for: loops, veiled, ifaces, maps, wideKeys, modest, calm, conditions, laid).
  DERIVED. THE GIVEN ROWS OF THIS SEAT. 4 by the template 'for every input the law returns true; each argument reads behind the call as it read before'; 0 by the template 'total and deterministic' (their statements: YtdgkfilajbnhgaaGreatTotals.lean).
  GIVEN WITH THE SEED: the statements are not yours to turn. If you find one false, say at which input.
  Laid BY PROGRAM, IN A SANDBOX (cutbox-rows.mjs): the forced cells as the released guide's own fill.sh prints them over the translation 4464b92a45f8242d… (all of the seat's roots in one cut). By AI agents, Wed Nov 11 2026. No macro, syntax, notation, axiom, sorry.
-/
import Derived.Test.YtdgkfilajbnhgaaGreatChecked
import GoSem.Claim
import GoSem.ClaimJoined
import GoSem.ClaimMapViews
import Derived.JoinedTies
import Derived.KernelRfl
namespace Go.Proofs.YtdgkfilajbnhgaaGreat
/- THE CELL 'sum', in the pinned program and in every row, IS THE sha256 OF THE DUMP (.gsa) THAT YtdgkfilajbnhgaaGreatProg.lean LOADS. Nothing in Lean hashes anything: it is a label: what it is worth is what the hold of that sum in a sandbox is worth. -/
noncomputable def Tryz.pinned : Pinned := { name := "ytdgkfilajbnhgaagreat", sum := "4464b92a45f8242dd3c050765a5683f9330e666e48ec5babcc563a2ca0a76ad0", checked := Tryz.checked }
namespace Rows
def none {H : Type} : Left H := { results := [], args := [] }

/-- 'packsaddlelaw23.GraphBests': WHATEVER THE INPUT: true; the input reads as it did. -/
def graphBestsSpec : ChangeSpec := { name := "graphBests", fn := fun _ => fun
  | [d1, d2] => { results := [.lit (.bool true)], args := [d1, d2] }
  | _ => none }
def graphBestsRow : OpenClaim := { program := "ytdgkfilajbnhgaagreat", sum := "4464b92a45f8242dd3c050765a5683f9330e666e48ec5babcc563a2ca0a76ad0", func := "packsaddle/packsaddlelaw23.GraphBests", spec := "graphBests", inPlace := ["maps.clone"], unfollowed := true, recurses := true, plainKeys := false, apart := false }
def GraphBestsSaid : Prop := graphBestsRow.holds Tryz.pinned (OpenSpec.ofChange graphBestsSpec)

/-- ITS FALSE NEIGHBOUR: 'it returns false'. Refute it at one input. -/
def graphBestsWrong : ChangeSpec := { name := "graphBests", fn := fun _ => fun
  | [d1, d2] => { results := [.lit (.bool false)], args := [d1, d2] }
  | _ => none }
def GraphBestsWrongFalsely : Prop := graphBestsRow.holds Tryz.pinned (OpenSpec.ofChange graphBestsWrong)

/-- 'packsaddlelaw23.GraphReaches': WHATEVER THE INPUT: true; the input reads as it did. -/
def graphReachesSpec : ChangeSpec := { name := "graphReaches", fn := fun _ => fun
  | [d1, d2, d3] => { results := [.lit (.bool true)], args := [d1, d2, d3] }
  | _ => none }
def graphReachesRow : OpenClaim := { program := "ytdgkfilajbnhgaagreat", sum := "4464b92a45f8242dd3c050765a5683f9330e666e48ec5babcc563a2ca0a76ad0", func := "packsaddle/packsaddlelaw23.GraphReaches", spec := "graphReaches", inPlace := ["maps.clone"], unfollowed := true, recurses := true, plainKeys := false, apart := false }
def GraphReachesSaid : Prop := graphReachesRow.holds Tryz.pinned (OpenSpec.ofChange graphReachesSpec)

/-- ITS FALSE NEIGHBOUR: 'it returns false'. Refute it at one input. -/
def graphReachesWrong : ChangeSpec := { name := "graphReaches", fn := fun _ => fun
  | [d1, d2, d3] => { results := [.lit (.bool false)], args := [d1, d2, d3] }
  | _ => none }
def GraphReachesWrongFalsely : Prop := graphReachesRow.holds Tryz.pinned (OpenSpec.ofChange graphReachesWrong)

/-- 'packsaddlelaw23.GraphBetter': WHATEVER THE INPUT: true; the input reads as it did. -/
def graphBetterSpec : ChangeSpec := { name := "graphBetter", fn := fun _ => fun
  | [d1, d2] => { results := [.lit (.bool true)], args := [d1, d2] }
  | _ => none }
def graphBetterRow : OpenClaim := { program := "ytdgkfilajbnhgaagreat", sum := "4464b92a45f8242dd3c050765a5683f9330e666e48ec5babcc563a2ca0a76ad0", func := "packsaddle/packsaddlelaw23.GraphBetter", spec := "graphBetter", inPlace := ["maps.clone"], unfollowed := true, recurses := true, plainKeys := false, apart := false }
def GraphBetterSaid : Prop := graphBetterRow.holds Tryz.pinned (OpenSpec.ofChange graphBetterSpec)

/-- ITS FALSE NEIGHBOUR: 'it returns false'. Refute it at one input. -/
def graphBetterWrong : ChangeSpec := { name := "graphBetter", fn := fun _ => fun
  | [d1, d2] => { results := [.lit (.bool false)], args := [d1, d2] }
  | _ => none }
def GraphBetterWrongFalsely : Prop := graphBetterRow.holds Tryz.pinned (OpenSpec.ofChange graphBetterWrong)

/-- 'packsaddlelaw23.GraphHolds': WHATEVER THE INPUT: true; the input reads as it did. -/
def graphHoldsSpec : ChangeSpec := { name := "graphHolds", fn := fun _ => fun
  | [d1, d2, d3] => { results := [.lit (.bool true)], args := [d1, d2, d3] }
  | _ => none }
def graphHoldsRow : OpenClaim := { program := "ytdgkfilajbnhgaagreat", sum := "4464b92a45f8242dd3c050765a5683f9330e666e48ec5babcc563a2ca0a76ad0", func := "packsaddle/packsaddlelaw23.GraphHolds", spec := "graphHolds", inPlace := ["maps.clone"], unfollowed := true, recurses := true, plainKeys := false, apart := false }
def GraphHoldsSaid : Prop := graphHoldsRow.holds Tryz.pinned (OpenSpec.ofChange graphHoldsSpec)

/-- ITS FALSE NEIGHBOUR: 'it returns false'. Refute it at one input. -/
def graphHoldsWrong : ChangeSpec := { name := "graphHolds", fn := fun _ => fun
  | [d1, d2, d3] => { results := [.lit (.bool false)], args := [d1, d2, d3] }
  | _ => none }
def GraphHoldsWrongFalsely : Prop := graphHoldsRow.holds Tryz.pinned (OpenSpec.ofChange graphHoldsWrong)

/- THE SECOND FORM. 'bulk': how many values and letters a reading holds, each counted each time it is reached (what is shared counts as often as it is met; a slice's spare places count too). A statement '..UptoSaid' is the law's where the arguments, and the package variables that the reading takes, are together of bulk at most 1048576: NARROWER than '..Said'. Prove '..Said' where nothing that the law and all that it calls make is longer than what came in: it says more and counts as full. Else prove '..UptoSaid'. A law counts once. -/
mutual
def uptoBulk {H : Type} : DataW H → Nat
  | .lit (.string bytes) => bytes.length + 1
  | .lit _ => 1
  | .nil => 1
  | .ptr d => uptoBulk d + 1
  | .slice elems spare => uptoBulkAll elems + uptoBulkAll spare + 1
  | .agg parts => uptoBulkAll parts + 1
  | .iface _ d => uptoBulk d + 1
  | .map entries => uptoBulkEntries entries + 1
  | .held _ => 1
def uptoBulkAll {H : Type} : List (DataW H) → Nat
  | [] => 0
  | d :: r => uptoBulk d + uptoBulkAll r
def uptoBulkEntries {H : Type} : List (Lit × DataW H) → Nat
  | [] => 0
  | x :: r => uptoBulkEntry x + uptoBulkEntries r
def uptoBulkEntry {H : Type} : Lit × DataW H → Nat
  | (.string bytes, d) => bytes.length + uptoBulk d + 1
  | (_, d) => uptoBulk d + 1
 end
def uptoSmall : (H : Type) → List (DataW H) → Bool := fun _ ds => decide (uptoBulkAll ds ≤ 1048576)
def OpenSpec.upto (s : _root_.Go.ChangeSpec) : _root_.Go.OpenSpec := { _root_.Go.OpenSpec.ofChange s with cond := some uptoSmall }

/-- 'packsaddlelaw23.GraphBests', WHERE WHAT IT READS IS OF BULK AT MOST 1048576: true; the input reads as it did. -/
def graphBestsUptoRow : OpenClaim := { program := "ytdgkfilajbnhgaagreat", sum := "4464b92a45f8242dd3c050765a5683f9330e666e48ec5babcc563a2ca0a76ad0", func := "packsaddle/packsaddlelaw23.GraphBests", spec := "graphBests", inPlace := ["maps.clone"], unfollowed := true, recurses := true, plainKeys := false, apart := false, narrowed := true }
def GraphBestsUptoSaid : Prop := graphBestsUptoRow.holds Tryz.pinned (OpenSpec.upto graphBestsSpec)

/-- 'packsaddlelaw23.GraphReaches', WHERE WHAT IT READS IS OF BULK AT MOST 1048576: true; the input reads as it did. -/
def graphReachesUptoRow : OpenClaim := { program := "ytdgkfilajbnhgaagreat", sum := "4464b92a45f8242dd3c050765a5683f9330e666e48ec5babcc563a2ca0a76ad0", func := "packsaddle/packsaddlelaw23.GraphReaches", spec := "graphReaches", inPlace := ["maps.clone"], unfollowed := true, recurses := true, plainKeys := false, apart := false, narrowed := true }
def GraphReachesUptoSaid : Prop := graphReachesUptoRow.holds Tryz.pinned (OpenSpec.upto graphReachesSpec)

/-- 'packsaddlelaw23.GraphBetter', WHERE WHAT IT READS IS OF BULK AT MOST 1048576: true; the input reads as it did. -/
def graphBetterUptoRow : OpenClaim := { program := "ytdgkfilajbnhgaagreat", sum := "4464b92a45f8242dd3c050765a5683f9330e666e48ec5babcc563a2ca0a76ad0", func := "packsaddle/packsaddlelaw23.GraphBetter", spec := "graphBetter", inPlace := ["maps.clone"], unfollowed := true, recurses := true, plainKeys := false, apart := false, narrowed := true }
def GraphBetterUptoSaid : Prop := graphBetterUptoRow.holds Tryz.pinned (OpenSpec.upto graphBetterSpec)

/-- 'packsaddlelaw23.GraphHolds', WHERE WHAT IT READS IS OF BULK AT MOST 1048576: true; the input reads as it did. -/
def graphHoldsUptoRow : OpenClaim := { program := "ytdgkfilajbnhgaagreat", sum := "4464b92a45f8242dd3c050765a5683f9330e666e48ec5babcc563a2ca0a76ad0", func := "packsaddle/packsaddlelaw23.GraphHolds", spec := "graphHolds", inPlace := ["maps.clone"], unfollowed := true, recurses := true, plainKeys := false, apart := false, narrowed := true }
def GraphHoldsUptoSaid : Prop := graphHoldsUptoRow.holds Tryz.pinned (OpenSpec.upto graphHoldsSpec)

end Rows
end Go.Proofs.YtdgkfilajbnhgaaGreat
