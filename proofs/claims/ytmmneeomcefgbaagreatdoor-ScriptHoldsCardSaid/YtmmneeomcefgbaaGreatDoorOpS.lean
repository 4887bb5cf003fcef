/-
 Contracts of the functions that the law reaches,step by step.
-/
import Derived.Test.YtmmneeomcefgbaaGreatDoorRows
import Derived.Test.YtmmneeomcefgbaaGreatDoorCards
import Derived.Test.YtmmneeomcefgbaaGreatDoorTie
import Derived.ProofKit
import Derived.OpenShut
import Derived.JoinedOf
import Derived.Handed
import Derived.Lib.LaidIn
import Derived.Lib.LaidU8
import Derived.Lib.LaidU8T
import Derived.MakeChecks
import Derived.Test.YtmmneeomcefgbaaGreatDoorScB
import Derived.Test.YtmmneeomcefgbaaGreatDoorEngR
namespace Go.Proofs.YtmmneeomcefgbaaGreatDoor
open Go Go.ChangeShapes Go.WideShapes Go.ChangeAt Go.RowKit Go.Deep Pk
set_option maxRecDepth 100000
theorem Tryz.own : ownKnob Tryz.prog.godebug = Option.none := by kernel_rfl
theorem Tryz.laidOut : laidOutB Tryz.prog = true := by kernel_rfl
theorem kept_of_ext {w w' : World} (h : Ext w w') (may : MemPlace → Prop) : w.keptBut w' may := by
 refine ⟨h.os,h.out,fun i hi => ?_⟩
 rw [h.blk i hi]
 cases w.heap[i]? with
 | none => rfl
 | some o => cases o <;> simp
theorem shut_bool {H : Type} {enc : TypeId × Value → H} {P : Program} {w : World} {base : Nat} {spare : Nat → Bool} {held : Bool} {t : TypeId} {b : Bool} (ht : P.underlying t = some .bool) : DataW.Trod enc P w base spare held t (.bool b) (.lit (.bool b)) [] :=
 ⟨1,by simp [DataW.trod,Value.cells,ht]⟩
theorem below_of_ext {w w' : World} (h : Ext w w') : Go.RowKit.Below w.heap.size w w' := ⟨h.os,h.tape,h.out,h.size,h.blk⟩
def litV : DataW Unit → Value
 | .lit (.int k n) => .int k n
 | _ => .bool false
def litsV : DataW Unit → Array Value
 | .agg l => (l.map litV).toArray
 | _ => #[]
abbrev rangeS : ByteArray := ⟨#[118,97,108,117,101,32,111,117,116,32,111,102,32,114,97,110,103,101]⟩
abbrev syntaxS : ByteArray := ⟨#[105,110,118,97,108,105,100,32,115,121,110,116,97,120]⟩
noncomputable def low : Nat := (World.holding Tryz.prog default ⟨#[],#[],[]⟩).heap.size
noncomputable def laidWorld (os : Os) : World :=
 let w0 := World.holding Tryz.prog os ⟨#[.cells #[.string syntaxS] 379,.cells #[.string rangeS] 379],#[],[]⟩
 let put (h : Array Obj) (g : Nat) (cs : Array Value) : Array Obj := h.modify g fun
  | .cells _ t frozen => .cells cs t frozen
  | o => o
 let h1 := put w0.heap 1 (Lib.firstTab.map fun z => Value.int .u8 z).toArray
 let h2 := put h1 2 ((List.range 16).flatMap fun i => [Value.int .u8 (Lib.accLo i),Value.int .u8 (Lib.accHi i)]).toArray
 let h3 := put h2 3 (litsV Rows.laid_internal_strconv_uint64pow10)
 let h4 := put h3 4 #[.iface 377 (.pointer (some ⟨low,0,Option.none⟩))]
 let h5 := put h4 5 #[.iface 377 (.pointer (some ⟨low + 1,0,Option.none⟩))]
 let h6 := put h5 6 (litsV Rows.laid_math_bits_deBruijn32tab)
 let h7 := put h6 7 (litsV Rows.laid_math_bits_deBruijn64tab)
 {w0 with heap := h7 }
abbrev laidL : List (String × DataW Unit) := [("math/bits.deBruijn32tab", Rows.laid_math_bits_deBruijn32tab), ("math/bits.deBruijn64tab", Rows.laid_math_bits_deBruijn64tab), ("internal/strconv.uint64pow10", Rows.laid_internal_strconv_uint64pow10), ("unicode/utf8.acceptRanges", Rows.laid_unicode_utf8_acceptRanges), ("strconv.ErrRange", Rows.laid_strconv_ErrRange), ("strconv.ErrSyntax", Rows.laid_strconv_ErrSyntax), ("unicode/utf8.first", Rows.laid_unicode_utf8_first)]
theorem laid_met (os : Os) (args : Array Value) : laidMetH Tryz.prog laidL ((laidWorld os).forCall (fun _ _ => 0) ⟨#[], args, []⟩).memory := by
 have h : laidMet Tryz.prog laidL ((laidWorld os).forCall (fun _ _ => 0) ⟨#[], args, []⟩).memory :=
  (LaidIn.of_run (l := laidL) [1,2,3,4,5,6,7,low,low + 1] 8 (by kernel_rfl) (by kernel_rfl) (by kernel_rfl) (by kernel_rfl)).met
 exact h
def u8Ren : Shelf.Ren := ⟨fun x => x,fun x => if x = 5 then 5 else if x = 119 then 310 else if x = 138 then 312 else if x = 139 then 313 else 0,fun x => if x = 3 then 1 else if x = 4 then 2 else 0⟩
theorem u8Types : Proofs.U8Types Tryz.prog u8Ren := { t5 := by kernel_rfl,t119 := by kernel_rfl,t138 := by kernel_rfl,t139 := by kernel_rfl }
theorem u8Extra : Proofs.U8Extra Tryz.prog u8Ren := { n3 := by kernel_rfl,n4 := by kernel_rfl,y3 := by kernel_rfl,y4 := by kernel_rfl,c5 := by kernel_rfl,c119 := by kernel_rfl,c138 := by kernel_rfl }
theorem tabs_of_laid {w : World} (h : laidMetH Tryz.prog laidL w) : Tabs w := by
 have h1 : laidMet Tryz.prog laidL w := h
 have e3 : Lib.firstData = Rows.laid_unicode_utf8_first := by kernel_rfl
 have e4 : Lib.acceptData = Rows.laid_unicode_utf8_acceptRanges := by kernel_rfl
 have := utf8Tabs_of_readsT u8Types u8Extra (w := w) (by rw [e3]; exact Lib.laidMet.reads h1 (by simp)) (by rw [e4]; exact Lib.laidMet.reads h1 (by simp))
 exact this
theorem iface_of {H : Type} {enc : TypeId × Value → H} {P : Program} {w : World} {base : Nat} {sp : Nat → Bool} {held : Bool} {fuel : Nat} {t : TypeId} {ms : Array _} {cs : List Value} {name : String} {d : DataW H} {p : List MemPlace} (ht : P.underlying t = some (.interface ms))
  (h : DataW.trod enc P w base sp held fuel t cs = some (.iface name d,p)) : ∃ u v,cs = [.iface u v] := by
 cases fuel with
 | zero => simp [DataW.trod] at h
 | succ n =>
  rcases cs with _ | ⟨x, _ | ⟨y, r⟩⟩
  ·simp [DataW.trod,ht] at h
  ·cases x <;> simp [DataW.trod,ht] at h
   exact ⟨_,_,rfl⟩
  ·simp [DataW.trod,ht] at h
theorem gl_of_laid {w : World} (h : laidMetH Tryz.prog laidL w) : Gl w ∧ 8 ≤ w.heap.size := by
 have h1 : laidMet Tryz.prog laidL w := h
 obtain ⟨g, t, cs, fuel, p, hg, ht, hv, hd⟩ := Lib.laidMet.reads h1 (n := "internal/strconv.uint64pow10") (d := Rows.laid_internal_strconv_uint64pow10) (by simp)
 obtain ⟨g2, t2, cs2, fuel2, p2, hg2, ht2, hv2, hd2⟩ := Lib.laidMet.reads h1 (n := "strconv.ErrSyntax") (d := Rows.laid_strconv_ErrSyntax) (by simp)
 obtain ⟨g3, t3, cs3, fuel3, p3, hg3, ht3, hv3, hd3⟩ := Lib.laidMet.reads h1 (n := "strconv.ErrRange") (d := Rows.laid_strconv_ErrRange) (by simp)
 obtain ⟨g4, t4, cs4, fuel4, p4, hg4, ht4, hv4, hd4⟩ := Lib.laidMet.reads h1 (n := "math/bits.deBruijn64tab") (d := Rows.laid_math_bits_deBruijn64tab) (by simp)
 have eg : Tryz.prog.globalNamed "internal/strconv.uint64pow10" = some 3 := by kernel_rfl
 have eg2 : Tryz.prog.globalNamed "strconv.ErrSyntax" = some 4 := by kernel_rfl
 have eg3 : Tryz.prog.globalNamed "strconv.ErrRange" = some 5 := by kernel_rfl
 have eg4 : Tryz.prog.globalNamed "math/bits.deBruijn64tab" = some 7 := by kernel_rfl
 rw [eg] at hg
 rw [eg2] at hg2
 rw [eg3] at hg3
 cases hg
 cases hg2
 cases hg3
 have et : (Tryz.prog.globals[3]?).map (·.type) = some 369 := by kernel_rfl
 have et2 : (Tryz.prog.globals[4]?).map (·.type) = some 139 := by kernel_rfl
 have et3 : (Tryz.prog.globals[5]?).map (·.type) = some 139 := by kernel_rfl
 rw [et] at ht
 rw [et2] at ht2
 rw [et3] at ht3
 cases ht
 cases ht2
 cases ht3
 have e1 : (Rows.laid_internal_strconv_uint64pow10 : DataW Unit) = Lib.tabData .u64 Lib.pow10Tab := by kernel_rfl
 rw [e1] at hd
 have c1 := Lib.cells_of_tab (n := 20) (e := 24) (by kernel_rfl) (by kernel_rfl) (by kernel_rfl) (by kernel_rfl) hd
 obtain ⟨u2,v2,c2⟩ := iface_of Tryz.underlying139 hd2
 obtain ⟨u3,v3,c3⟩ := iface_of Tryz.underlying139 hd3
 refine ⟨⟨?_, ⟨u2, v2, ?_⟩, ⟨u3, v3, ?_⟩, tabs_of_laid h⟩, ?_⟩
 ·show w.var? _ _ = _
  rw [hv,← c1]
 ·rw [hv2,← c2]
 ·rw [hv3,← c3]
 ·unfold World.var? at hv4
  rw [eg4] at hv4
  simp only [Option.bind_some] at hv4
  rcases Nat.lt_or_ge 7 w.heap.size with h | h
  ·omega
  ·rw [Array.getElem?_eq_none h] at hv4
   cases hv4
end Go.Proofs.YtmmneeomcefgbaaGreatDoor