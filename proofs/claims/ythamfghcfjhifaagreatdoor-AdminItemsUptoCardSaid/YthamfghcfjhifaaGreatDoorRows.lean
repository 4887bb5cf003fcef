/-
  NARROWER THAN 'FOR EVERY INPUT', by the rows' own cells (each row's printed sentence says how): AdminRecords: laid · AdminReports: laid · AdminBytes: laid · AdminItems: loops, laid · AdminHolds: laid · AdminWords: laid.
  DERIVED. THE GIVEN ROWS OF THIS SEAT. 6 by the template 'for every input the law returns true; each argument reads behind the call as it read before'; 0 by the template 'total and deterministic' (their statements: YthamfghcfjhifaaGreatDoorTotals.lean).
  GIVEN WITH THE SEED: the statements are not yours to turn. If you find one false, say at which input.
  Laid BY PROGRAM, IN A SANDBOX (cutbox-rows.mjs): the forced cells as the released guide's own fill.sh prints them over the translation 93113c89d1342c95… (all of the seat's roots in one cut). By AI agents, Wed Nov 11 2026. No macro, syntax, notation, axiom, sorry.
-/
import Derived.Test.YthamfghcfjhifaaGreatDoorChecked
import GoSem.PinnedTables
import GoSem.Claim
import GoSem.ClaimJoined
import GoSem.ClaimMapViews
import Derived.JoinedTies
import Derived.KernelRfl
namespace Go.Proofs.YthamfghcfjhifaaGreatDoor
/- THE CELL 'sum', in the pinned program and in every row, IS THE sha256 OF THE DUMP (.gsa) THAT YthamfghcfjhifaaGreatDoorProg.lean LOADS. Nothing in Lean hashes anything: it is a label: what it is worth is what the hold of that sum in a sandbox is worth. -/
noncomputable def Tryz.pinned : Pinned := { name := "ythamfghcfjhifaagreatdoor", sum := "93113c89d1342c9549feecbf59bbed7c3a784c609b7074995ae1d584704d1fa1", checked := Tryz.checked }
namespace Rows
def none {H : Type} : Left H := { results := [], args := [] }

/- WHAT THE LISTED PACKAGE-LEVEL VARIABLES READ AS WHEN THE CALL BEGINS. Each datum BY PROGRAM (the guide's laid-datum.mjs) off the statement by which the dump's own 'gosem.cut.vars' lays the variable. In a bare row this is a premise. The card (YthamfghcfjhifaaGreatDoorCards.lean) ties it to the program's text. -/
def laid_unicode_utf8_acceptRanges {H : Type} : DataW H := .agg [.agg [.lit (.int .u8 128), .lit (.int .u8 191)], .agg [.lit (.int .u8 160), .lit (.int .u8 191)], .agg [.lit (.int .u8 128), .lit (.int .u8 159)], .agg [.lit (.int .u8 144), .lit (.int .u8 191)], .agg [.lit (.int .u8 128), .lit (.int .u8 143)], .agg [.lit (.int .u8 0), .lit (.int .u8 0)], .agg [.lit (.int .u8 0), .lit (.int .u8 0)], .agg [.lit (.int .u8 0), .lit (.int .u8 0)], .agg [.lit (.int .u8 0), .lit (.int .u8 0)], .agg [.lit (.int .u8 0), .lit (.int .u8 0)], .agg [.lit (.int .u8 0), .lit (.int .u8 0)], .agg [.lit (.int .u8 0), .lit (.int .u8 0)], .agg [.lit (.int .u8 0), .lit (.int .u8 0)], .agg [.lit (.int .u8 0), .lit (.int .u8 0)], .agg [.lit (.int .u8 0), .lit (.int .u8 0)], .agg [.lit (.int .u8 0), .lit (.int .u8 0)]]
/-- One of Go's own tables, pinned by name: the form's constant. -/
def laid_unicode_utf8_first : DataW Unit := Go.Pinned.utf8First

/-- 'packsaddlelaw10.AdminRecords': WHATEVER THE INPUT: true; the input reads as it did. -/
def adminRecordsSpec : ChangeSpec := { name := "adminRecords", fn := fun _ => fun
  | [d] => { results := [.lit (.bool true)], args := [d] }
  | _ => none }
def adminRecordsRow : OpenClaim := { program := "ythamfghcfjhifaagreatdoor", sum := "93113c89d1342c9549feecbf59bbed7c3a784c609b7074995ae1d584704d1fa1", func := "packsaddle/packsaddlelaw10.AdminRecords", spec := "adminRecords", unfollowed := true, recurses := true, named := ["unicode/utf8.first", "unicode/utf8.acceptRanges"], apart := false, laid := [("unicode/utf8.acceptRanges", laid_unicode_utf8_acceptRanges), ("unicode/utf8.first", laid_unicode_utf8_first)] }
def AdminRecordsSaid : Prop := adminRecordsRow.holds Tryz.pinned (OpenSpec.ofChange adminRecordsSpec)

/-- ITS FALSE NEIGHBOUR: 'it returns false'. Refute it at one input. -/
def adminRecordsWrong : ChangeSpec := { name := "adminRecords", fn := fun _ => fun
  | [d] => { results := [.lit (.bool false)], args := [d] }
  | _ => none }
def AdminRecordsWrongFalsely : Prop := adminRecordsRow.holds Tryz.pinned (OpenSpec.ofChange adminRecordsWrong)

/-- 'packsaddlelaw10.AdminReports': WHATEVER THE INPUT: true; the input reads as it did. -/
def adminReportsSpec : ChangeSpec := { name := "adminReports", fn := fun _ => fun
  | [d1, d2, d3] => { results := [.lit (.bool true)], args := [d1, d2, d3] }
  | _ => none }
def adminReportsRow : OpenClaim := { program := "ythamfghcfjhifaagreatdoor", sum := "93113c89d1342c9549feecbf59bbed7c3a784c609b7074995ae1d584704d1fa1", func := "packsaddle/packsaddlelaw10.AdminReports", spec := "adminReports", unfollowed := true, recurses := true, named := ["unicode/utf8.first", "unicode/utf8.acceptRanges"], apart := false, laid := [("unicode/utf8.acceptRanges", laid_unicode_utf8_acceptRanges), ("unicode/utf8.first", laid_unicode_utf8_first)] }
def AdminReportsSaid : Prop := adminReportsRow.holds Tryz.pinned (OpenSpec.ofChange adminReportsSpec)

/-- ITS FALSE NEIGHBOUR: 'it returns false'. Refute it at one input. -/
def adminReportsWrong : ChangeSpec := { name := "adminReports", fn := fun _ => fun
  | [d1, d2, d3] => { results := [.lit (.bool false)], args := [d1, d2, d3] }
  | _ => none }
def AdminReportsWrongFalsely : Prop := adminReportsRow.holds Tryz.pinned (OpenSpec.ofChange adminReportsWrong)

/-- 'packsaddlelaw10.AdminBytes': WHATEVER THE INPUT: true; the input reads as it did. -/
def adminBytesSpec : ChangeSpec := { name := "adminBytes", fn := fun _ => fun
  | [d] => { results := [.lit (.bool true)], args := [d] }
  | _ => none }
def adminBytesRow : OpenClaim := { program := "ythamfghcfjhifaagreatdoor", sum := "93113c89d1342c9549feecbf59bbed7c3a784c609b7074995ae1d584704d1fa1", func := "packsaddle/packsaddlelaw10.AdminBytes", spec := "adminBytes", unfollowed := true, recurses := true, named := ["unicode/utf8.first", "unicode/utf8.acceptRanges"], apart := false, laid := [("unicode/utf8.acceptRanges", laid_unicode_utf8_acceptRanges), ("unicode/utf8.first", laid_unicode_utf8_first)] }
def AdminBytesSaid : Prop := adminBytesRow.holds Tryz.pinned (OpenSpec.ofChange adminBytesSpec)

/-- ITS FALSE NEIGHBOUR: 'it returns false'. Refute it at one input. -/
def adminBytesWrong : ChangeSpec := { name := "adminBytes", fn := fun _ => fun
  | [d] => { results := [.lit (.bool false)], args := [d] }
  | _ => none }
def AdminBytesWrongFalsely : Prop := adminBytesRow.holds Tryz.pinned (OpenSpec.ofChange adminBytesWrong)

/-- 'packsaddlelaw10.AdminItems': WHATEVER THE INPUT: true; the input reads as it did. -/
def adminItemsSpec : ChangeSpec := { name := "adminItems", fn := fun _ => fun
  | [d] => { results := [.lit (.bool true)], args := [d] }
  | _ => none }
def adminItemsRow : OpenClaim := { program := "ythamfghcfjhifaagreatdoor", sum := "93113c89d1342c9549feecbf59bbed7c3a784c609b7074995ae1d584704d1fa1", func := "packsaddle/packsaddlelaw10.AdminItems", spec := "adminItems", unfollowed := true, recurses := true, named := ["unicode/utf8.first", "unicode/utf8.acceptRanges"], loops := true, apart := false, laid := [("unicode/utf8.acceptRanges", laid_unicode_utf8_acceptRanges), ("unicode/utf8.first", laid_unicode_utf8_first)] }
def AdminItemsSaid : Prop := adminItemsRow.holds Tryz.pinned (OpenSpec.ofChange adminItemsSpec)

/-- ITS FALSE NEIGHBOUR: 'it returns false'. Refute it at one input. -/
def adminItemsWrong : ChangeSpec := { name := "adminItems", fn := fun _ => fun
  | [d] => { results := [.lit (.bool false)], args := [d] }
  | _ => none }
def AdminItemsWrongFalsely : Prop := adminItemsRow.holds Tryz.pinned (OpenSpec.ofChange adminItemsWrong)

/-- 'packsaddlelaw10.AdminHolds': WHATEVER THE INPUT: true; the input reads as it did. -/
def adminHoldsSpec : ChangeSpec := { name := "adminHolds", fn := fun _ => fun
  | [d1, d2] => { results := [.lit (.bool true)], args := [d1, d2] }
  | _ => none }
def adminHoldsRow : OpenClaim := { program := "ythamfghcfjhifaagreatdoor", sum := "93113c89d1342c9549feecbf59bbed7c3a784c609b7074995ae1d584704d1fa1", func := "packsaddle/packsaddlelaw10.AdminHolds", spec := "adminHolds", unfollowed := true, recurses := true, named := ["unicode/utf8.first", "unicode/utf8.acceptRanges"], apart := false, laid := [("unicode/utf8.acceptRanges", laid_unicode_utf8_acceptRanges), ("unicode/utf8.first", laid_unicode_utf8_first)] }
def AdminHoldsSaid : Prop := adminHoldsRow.holds Tryz.pinned (OpenSpec.ofChange adminHoldsSpec)

/-- ITS FALSE NEIGHBOUR: 'it returns false'. Refute it at one input. -/
def adminHoldsWrong : ChangeSpec := { name := "adminHolds", fn := fun _ => fun
  | [d1, d2] => { results := [.lit (.bool false)], args := [d1, d2] }
  | _ => none }
def AdminHoldsWrongFalsely : Prop := adminHoldsRow.holds Tryz.pinned (OpenSpec.ofChange adminHoldsWrong)

/-- 'packsaddlelaw10.AdminWords': WHATEVER THE INPUT: true; the input reads as it did. -/
def adminWordsSpec : ChangeSpec := { name := "adminWords", fn := fun _ => fun
  | [d1, d2] => { results := [.lit (.bool true)], args := [d1, d2] }
  | _ => none }
def adminWordsRow : OpenClaim := { program := "ythamfghcfjhifaagreatdoor", sum := "93113c89d1342c9549feecbf59bbed7c3a784c609b7074995ae1d584704d1fa1", func := "packsaddle/packsaddlelaw10.AdminWords", spec := "adminWords", unfollowed := true, recurses := true, named := ["unicode/utf8.first", "unicode/utf8.acceptRanges"], apart := false, laid := [("unicode/utf8.acceptRanges", laid_unicode_utf8_acceptRanges), ("unicode/utf8.first", laid_unicode_utf8_first)] }
def AdminWordsSaid : Prop := adminWordsRow.holds Tryz.pinned (OpenSpec.ofChange adminWordsSpec)

/-- ITS FALSE NEIGHBOUR: 'it returns false'. Refute it at one input. -/
def adminWordsWrong : ChangeSpec := { name := "adminWords", fn := fun _ => fun
  | [d1, d2] => { results := [.lit (.bool false)], args := [d1, d2] }
  | _ => none }
def AdminWordsWrongFalsely : Prop := adminWordsRow.holds Tryz.pinned (OpenSpec.ofChange adminWordsWrong)

/- THE SECOND FORM. 'bulk': how many values and letters a reading holds, each counted each time it is reached (what is shared counts as often as it is met; a slice's spare places count too). A statement '..UptoSaid' is the law's where the arguments, and the package variables that the reading takes, are together of bulk at most 1048576: NARROWER than '..Said'. Prove '..Said' where nothing that the law and all that it calls make is longer than what came in: it says more and counts as full. Else prove '..UptoSaid'. A law counts once. -/
mutual
def uptoBulk {H : Type} : DataW H → Nat
  | .lit (.string bytes) => bytes.length + 1
  | .lit _ => 1
  | .nil => 1
  | .ptr d => uptoBulk d + 1
  | .slice elems spare => uptoBulkAll elems + uptoBulkAll spare + 1
  | .agg parts => uptoBulkAll parts + 1
  | .iface _ d => uptoBulk d + 1
  | .map entries => uptoBulkEntries entries + 1
  | .held _ => 1
def uptoBulkAll {H : Type} : List (DataW H) → Nat
  | [] => 0
  | d :: r => uptoBulk d + uptoBulkAll r
def uptoBulkEntries {H : Type} : List (Lit × DataW H) → Nat
  | [] => 0
  | x :: r => uptoBulkEntry x + uptoBulkEntries r
def uptoBulkEntry {H : Type} : Lit × DataW H → Nat
  | (.string bytes, d) => bytes.length + uptoBulk d + 1
  | (_, d) => uptoBulk d + 1
 end
def uptoSmall : (H : Type) → List (DataW H) → Bool := fun _ ds => decide (uptoBulkAll ds ≤ 1048576)
def OpenSpec.upto (s : _root_.Go.ChangeSpec) : _root_.Go.OpenSpec := { _root_.Go.OpenSpec.ofChange s with cond := some uptoSmall }

/-- 'packsaddlelaw10.AdminRecords', WHERE WHAT IT READS IS OF BULK AT MOST 1048576: true; the input reads as it did. -/
def adminRecordsUptoRow : OpenClaim := { program := "ythamfghcfjhifaagreatdoor", sum := "93113c89d1342c9549feecbf59bbed7c3a784c609b7074995ae1d584704d1fa1", func := "packsaddle/packsaddlelaw10.AdminRecords", spec := "adminRecords", unfollowed := true, recurses := true, named := ["unicode/utf8.first", "unicode/utf8.acceptRanges"], apart := false, laid := [("unicode/utf8.acceptRanges", laid_unicode_utf8_acceptRanges), ("unicode/utf8.first", laid_unicode_utf8_first)], narrowed := true }
def AdminRecordsUptoSaid : Prop := adminRecordsUptoRow.holds Tryz.pinned (OpenSpec.upto adminRecordsSpec)

/-- 'packsaddlelaw10.AdminReports', WHERE WHAT IT READS IS OF BULK AT MOST 1048576: true; the input reads as it did. -/
def adminReportsUptoRow : OpenClaim := { program := "ythamfghcfjhifaagreatdoor", sum := "93113c89d1342c9549feecbf59bbed7c3a784c609b7074995ae1d584704d1fa1", func := "packsaddle/packsaddlelaw10.AdminReports", spec := "adminReports", unfollowed := true, recurses := true, named := ["unicode/utf8.first", "unicode/utf8.acceptRanges"], apart := false, laid := [("unicode/utf8.acceptRanges", laid_unicode_utf8_acceptRanges), ("unicode/utf8.first", laid_unicode_utf8_first)], narrowed := true }
def AdminReportsUptoSaid : Prop := adminReportsUptoRow.holds Tryz.pinned (OpenSpec.upto adminReportsSpec)

/-- 'packsaddlelaw10.AdminBytes', WHERE WHAT IT READS IS OF BULK AT MOST 1048576: true; the input reads as it did. -/
def adminBytesUptoRow : OpenClaim := { program := "ythamfghcfjhifaagreatdoor", sum := "93113c89d1342c9549feecbf59bbed7c3a784c609b7074995ae1d584704d1fa1", func := "packsaddle/packsaddlelaw10.AdminBytes", spec := "adminBytes", unfollowed := true, recurses := true, named := ["unicode/utf8.first", "unicode/utf8.acceptRanges"], apart := false, laid := [("unicode/utf8.acceptRanges", laid_unicode_utf8_acceptRanges), ("unicode/utf8.first", laid_unicode_utf8_first)], narrowed := true }
def AdminBytesUptoSaid : Prop := adminBytesUptoRow.holds Tryz.pinned (OpenSpec.upto adminBytesSpec)

/-- 'packsaddlelaw10.AdminItems', WHERE WHAT IT READS IS OF BULK AT MOST 1048576: true; the input reads as it did. -/
def adminItemsUptoRow : OpenClaim := { program := "ythamfghcfjhifaagreatdoor", sum := "93113c89d1342c9549feecbf59bbed7c3a784c609b7074995ae1d584704d1fa1", func := "packsaddle/packsaddlelaw10.AdminItems", spec := "adminItems", unfollowed := true, recurses := true, named := ["unicode/utf8.first", "unicode/utf8.acceptRanges"], loops := true, apart := false, laid := [("unicode/utf8.acceptRanges", laid_unicode_utf8_acceptRanges), ("unicode/utf8.first", laid_unicode_utf8_first)], narrowed := true }
def AdminItemsUptoSaid : Prop := adminItemsUptoRow.holds Tryz.pinned (OpenSpec.upto adminItemsSpec)

/-- 'packsaddlelaw10.AdminHolds', WHERE WHAT IT READS IS OF BULK AT MOST 1048576: true; the input reads as it did. -/
def adminHoldsUptoRow : OpenClaim := { program := "ythamfghcfjhifaagreatdoor", sum := "93113c89d1342c9549feecbf59bbed7c3a784c609b7074995ae1d584704d1fa1", func := "packsaddle/packsaddlelaw10.AdminHolds", spec := "adminHolds", unfollowed := true, recurses := true, named := ["unicode/utf8.first", "unicode/utf8.acceptRanges"], apart := false, laid := [("unicode/utf8.acceptRanges", laid_unicode_utf8_acceptRanges), ("unicode/utf8.first", laid_unicode_utf8_first)], narrowed := true }
def AdminHoldsUptoSaid : Prop := adminHoldsUptoRow.holds Tryz.pinned (OpenSpec.upto adminHoldsSpec)

/-- 'packsaddlelaw10.AdminWords', WHERE WHAT IT READS IS OF BULK AT MOST 1048576: true; the input reads as it did. -/
def adminWordsUptoRow : OpenClaim := { program := "ythamfghcfjhifaagreatdoor", sum := "93113c89d1342c9549feecbf59bbed7c3a784c609b7074995ae1d584704d1fa1", func := "packsaddle/packsaddlelaw10.AdminWords", spec := "adminWords", unfollowed := true, recurses := true, named := ["unicode/utf8.first", "unicode/utf8.acceptRanges"], apart := false, laid := [("unicode/utf8.acceptRanges", laid_unicode_utf8_acceptRanges), ("unicode/utf8.first", laid_unicode_utf8_first)], narrowed := true }
def AdminWordsUptoSaid : Prop := adminWordsUptoRow.holds Tryz.pinned (OpenSpec.upto adminWordsSpec)

end Rows
end Go.Proofs.YthamfghcfjhifaaGreatDoor
