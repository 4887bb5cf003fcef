/-
  No cell of these rows narrows 'for every input' (looked for: loops, veiled, ifaces, maps, wideKeys, modest, calm, conditions, laid).
  DERIVED. THE GIVEN ROWS OF THIS SEAT. 4 by the template 'for every input the law returns true; each argument reads behind the call as it read before'; 0 by the template 'total and deterministic' (their statements: YtdflcfoalhhjlaaGreatTotals.lean).
  GIVEN WITH THE SEED: the statements are not yours to turn. If you find one false, say at which input.
  Laid BY PROGRAM, IN A SANDBOX (cutbox-rows.mjs): the forced cells as the released guide's own fill.sh prints them over the translation cc943d10b2a1efa7… (all of the seat's roots in one cut). By AI agents, Wed Nov 11 2026. No macro, syntax, notation, axiom, sorry.
-/
import Derived.Test.YtdflcfoalhhjlaaGreatChecked
import GoSem.Claim
import GoSem.ClaimJoined
import GoSem.ClaimMapViews
import Derived.JoinedTies
import Derived.KernelRfl
namespace Go.Proofs.YtdflcfoalhhjlaaGreat
/- THE CELL 'sum', in the pinned program and in every row, IS THE sha256 OF THE DUMP (.gsa) THAT YtdflcfoalhhjlaaGreatProg.lean LOADS. Nothing in Lean hashes anything: it is a label: what it is worth is what the hold of that sum in a sandbox is worth. -/
noncomputable def Tryz.pinned : Pinned := { name := "ytdflcfoalhhjlaagreat", sum := "cc943d10b2a1efa7e33ad640d8dd4e2fc9943958421662dba11bb0cd38fda530", checked := Tryz.checked }
namespace Rows
def none {H : Type} : Left H := { results := [], args := [] }

/-- 'packsaddlelaw24.RouteWays': WHATEVER THE INPUT: true; the input reads as it did. -/
def routeWaysSpec : ChangeSpec := { name := "routeWays", fn := fun _ => fun
  | [d1, d2, d3] => { results := [.lit (.bool true)], args := [d1, d2, d3] }
  | _ => none }
def routeWaysRow : OpenClaim := { program := "ytdflcfoalhhjlaagreat", sum := "cc943d10b2a1efa7e33ad640d8dd4e2fc9943958421662dba11bb0cd38fda530", func := "packsaddle/packsaddlelaw24.RouteWays", spec := "routeWays", inPlace := ["maps.clone"], unfollowed := true, recurses := true, plainKeys := false, apart := false }
def RouteWaysSaid : Prop := routeWaysRow.holds Tryz.pinned (OpenSpec.ofChange routeWaysSpec)

/-- ITS FALSE NEIGHBOUR: 'it returns false'. Refute it at one input. -/
def routeWaysWrong : ChangeSpec := { name := "routeWays", fn := fun _ => fun
  | [d1, d2, d3] => { results := [.lit (.bool false)], args := [d1, d2, d3] }
  | _ => none }
def RouteWaysWrongFalsely : Prop := routeWaysRow.holds Tryz.pinned (OpenSpec.ofChange routeWaysWrong)

/-- 'packsaddlelaw24.RouteTakes': WHATEVER THE INPUT: true; the input reads as it did. -/
def routeTakesSpec : ChangeSpec := { name := "routeTakes", fn := fun _ => fun
  | [d1, d2, d3] => { results := [.lit (.bool true)], args := [d1, d2, d3] }
  | _ => none }
def routeTakesRow : OpenClaim := { program := "ytdflcfoalhhjlaagreat", sum := "cc943d10b2a1efa7e33ad640d8dd4e2fc9943958421662dba11bb0cd38fda530", func := "packsaddle/packsaddlelaw24.RouteTakes", spec := "routeTakes", inPlace := ["maps.clone"], unfollowed := true, recurses := true, plainKeys := false, apart := false }
def RouteTakesSaid : Prop := routeTakesRow.holds Tryz.pinned (OpenSpec.ofChange routeTakesSpec)

/-- ITS FALSE NEIGHBOUR: 'it returns false'. Refute it at one input. -/
def routeTakesWrong : ChangeSpec := { name := "routeTakes", fn := fun _ => fun
  | [d1, d2, d3] => { results := [.lit (.bool false)], args := [d1, d2, d3] }
  | _ => none }
def RouteTakesWrongFalsely : Prop := routeTakesRow.holds Tryz.pinned (OpenSpec.ofChange routeTakesWrong)

/-- 'packsaddlelaw24.RouteHolds': WHATEVER THE INPUT: true; the input reads as it did. -/
def routeHoldsSpec : ChangeSpec := { name := "routeHolds", fn := fun _ => fun
  | [d1, d2, d3] => { results := [.lit (.bool true)], args := [d1, d2, d3] }
  | _ => none }
def routeHoldsRow : OpenClaim := { program := "ytdflcfoalhhjlaagreat", sum := "cc943d10b2a1efa7e33ad640d8dd4e2fc9943958421662dba11bb0cd38fda530", func := "packsaddle/packsaddlelaw24.RouteHolds", spec := "routeHolds", inPlace := ["maps.clone"], unfollowed := true, recurses := true, plainKeys := false, apart := false }
def RouteHoldsSaid : Prop := routeHoldsRow.holds Tryz.pinned (OpenSpec.ofChange routeHoldsSpec)

/-- ITS FALSE NEIGHBOUR: 'it returns false'. Refute it at one input. -/
def routeHoldsWrong : ChangeSpec := { name := "routeHolds", fn := fun _ => fun
  | [d1, d2, d3] => { results := [.lit (.bool false)], args := [d1, d2, d3] }
  | _ => none }
def RouteHoldsWrongFalsely : Prop := routeHoldsRow.holds Tryz.pinned (OpenSpec.ofChange routeHoldsWrong)

/-- 'packsaddlelaw24.RoutePicks': WHATEVER THE INPUT: true; the input reads as it did. -/
def routePicksSpec : ChangeSpec := { name := "routePicks", fn := fun _ => fun
  | [d1, d2] => { results := [.lit (.bool true)], args := [d1, d2] }
  | _ => none }
def routePicksRow : OpenClaim := { program := "ytdflcfoalhhjlaagreat", sum := "cc943d10b2a1efa7e33ad640d8dd4e2fc9943958421662dba11bb0cd38fda530", func := "packsaddle/packsaddlelaw24.RoutePicks", spec := "routePicks", inPlace := ["maps.clone"], unfollowed := true, recurses := true, plainKeys := false, apart := false }
def RoutePicksSaid : Prop := routePicksRow.holds Tryz.pinned (OpenSpec.ofChange routePicksSpec)

/-- ITS FALSE NEIGHBOUR: 'it returns false'. Refute it at one input. -/
def routePicksWrong : ChangeSpec := { name := "routePicks", fn := fun _ => fun
  | [d1, d2] => { results := [.lit (.bool false)], args := [d1, d2] }
  | _ => none }
def RoutePicksWrongFalsely : Prop := routePicksRow.holds Tryz.pinned (OpenSpec.ofChange routePicksWrong)

/- THE SECOND FORM. 'bulk': how many values and letters a reading holds, each counted each time it is reached (what is shared counts as often as it is met; a slice's spare places count too). A statement '..UptoSaid' is the law's where the arguments, and the package variables that the reading takes, are together of bulk at most 1048576: NARROWER than '..Said'. Prove '..Said' where nothing that the law and all that it calls make is longer than what came in: it says more and counts as full. Else prove '..UptoSaid'. A law counts once. -/
mutual
def uptoBulk {H : Type} : DataW H → Nat
  | .lit (.string bytes) => bytes.length + 1
  | .lit _ => 1
  | .nil => 1
  | .ptr d => uptoBulk d + 1
  | .slice elems spare => uptoBulkAll elems + uptoBulkAll spare + 1
  | .agg parts => uptoBulkAll parts + 1
  | .iface _ d => uptoBulk d + 1
  | .map entries => uptoBulkEntries entries + 1
  | .held _ => 1
def uptoBulkAll {H : Type} : List (DataW H) → Nat
  | [] => 0
  | d :: r => uptoBulk d + uptoBulkAll r
def uptoBulkEntries {H : Type} : List (Lit × DataW H) → Nat
  | [] => 0
  | x :: r => uptoBulkEntry x + uptoBulkEntries r
def uptoBulkEntry {H : Type} : Lit × DataW H → Nat
  | (.string bytes, d) => bytes.length + uptoBulk d + 1
  | (_, d) => uptoBulk d + 1
 end
def uptoSmall : (H : Type) → List (DataW H) → Bool := fun _ ds => decide (uptoBulkAll ds ≤ 1048576)
def OpenSpec.upto (s : _root_.Go.ChangeSpec) : _root_.Go.OpenSpec := { _root_.Go.OpenSpec.ofChange s with cond := some uptoSmall }

/-- 'packsaddlelaw24.RouteWays', WHERE WHAT IT READS IS OF BULK AT MOST 1048576: true; the input reads as it did. -/
def routeWaysUptoRow : OpenClaim := { program := "ytdflcfoalhhjlaagreat", sum := "cc943d10b2a1efa7e33ad640d8dd4e2fc9943958421662dba11bb0cd38fda530", func := "packsaddle/packsaddlelaw24.RouteWays", spec := "routeWays", inPlace := ["maps.clone"], unfollowed := true, recurses := true, plainKeys := false, apart := false, narrowed := true }
def RouteWaysUptoSaid : Prop := routeWaysUptoRow.holds Tryz.pinned (OpenSpec.upto routeWaysSpec)

/-- 'packsaddlelaw24.RouteTakes', WHERE WHAT IT READS IS OF BULK AT MOST 1048576: true; the input reads as it did. -/
def routeTakesUptoRow : OpenClaim := { program := "ytdflcfoalhhjlaagreat", sum := "cc943d10b2a1efa7e33ad640d8dd4e2fc9943958421662dba11bb0cd38fda530", func := "packsaddle/packsaddlelaw24.RouteTakes", spec := "routeTakes", inPlace := ["maps.clone"], unfollowed := true, recurses := true, plainKeys := false, apart := false, narrowed := true }
def RouteTakesUptoSaid : Prop := routeTakesUptoRow.holds Tryz.pinned (OpenSpec.upto routeTakesSpec)

/-- 'packsaddlelaw24.RouteHolds', WHERE WHAT IT READS IS OF BULK AT MOST 1048576: true; the input reads as it did. -/
def routeHoldsUptoRow : OpenClaim := { program := "ytdflcfoalhhjlaagreat", sum := "cc943d10b2a1efa7e33ad640d8dd4e2fc9943958421662dba11bb0cd38fda530", func := "packsaddle/packsaddlelaw24.RouteHolds", spec := "routeHolds", inPlace := ["maps.clone"], unfollowed := true, recurses := true, plainKeys := false, apart := false, narrowed := true }
def RouteHoldsUptoSaid : Prop := routeHoldsUptoRow.holds Tryz.pinned (OpenSpec.upto routeHoldsSpec)

/-- 'packsaddlelaw24.RoutePicks', WHERE WHAT IT READS IS OF BULK AT MOST 1048576: true; the input reads as it did. -/
def routePicksUptoRow : OpenClaim := { program := "ytdflcfoalhhjlaagreat", sum := "cc943d10b2a1efa7e33ad640d8dd4e2fc9943958421662dba11bb0cd38fda530", func := "packsaddle/packsaddlelaw24.RoutePicks", spec := "routePicks", inPlace := ["maps.clone"], unfollowed := true, recurses := true, plainKeys := false, apart := false, narrowed := true }
def RoutePicksUptoSaid : Prop := routePicksUptoRow.holds Tryz.pinned (OpenSpec.upto routePicksSpec)

end Rows
end Go.Proofs.YtdflcfoalhhjlaaGreat
