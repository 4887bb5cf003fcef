/-
  Contracts of the functions that the law reaches,step by step.
-/
import Derived.Test.YtmmneeomcefgbaaGreatDoorAuA
import Derived.Test.YtmmneeomcefgbaaGreatDoorEngV
import Derived.Lib.Strings
import Derived.Laws.RangeAny
namespace Go.Proofs
open Pk
set_option maxRecDepth 10000
attribute [local simp] beq_dec bne_dec
/-! ### A range over a text -/
def SIter (w : World) (b : Nat) (s : ByteArray) (p : Nat) : Prop := w.heap[b]? = some (.stringIter s p)
theorem SIter.lt {w : World} {b : Nat} {s : ByteArray} {p : Nat} (h : SIter w b s p) : b < w.heap.size := (Array.getElem?_eq_some_iff.1 h).1
theorem SIter.ext {w w' : World} {b : Nat} {s : ByteArray} {p : Nat} (h : SIter w b s p) (hE : Ext w w') : SIter w' b s p := (hE.blk b h.lt).trans h
theorem siter_end {P : Program} {w : World} {b : Nat} {s : ByteArray} {p : Nat} (h : SIter w b s p) (hp : ¬ p < s.size) (ty : TypeId) : (Instr.next (.pointer (some ⟨b, 0, none⟩)) true ty).run P w = .ok (.tuple #[.bool false]) w := by
  unfold SIter at h
  simp [Instr.next,getObj,Sem.run,h,hp]
theorem siter_next {P : Program} {w : World} {b : Nat} {s : ByteArray} {p : Nat} (h : SIter w b s p) (hp : p < s.size) (ty : TypeId) : ∃ w', (Instr.next (.pointer (some ⟨b, 0, none⟩)) true ty).run P w = .ok (.tuple #[.bool true, .int .i64 p, .int .i32 (Utf8.decode s p).1]) w' ∧ SIter w' b s (p + (Utf8.decode s p).2) ∧ Mod (· = b) w w' := by
  have hlt := h.lt
  unfold SIter at h
  refine ⟨{ w with heap := w.heap.setIfInBounds b (.stringIter s (p + (Utf8.decode s p).2)) }, ?_, ?_, ?_⟩
  · simp only [Instr.next,getObj,setObj,Sem.run_bind,Sem.run,h,Result.andThen,hp,if_true]
    simp [goInt]
  · unfold SIter
    simp [hlt]
  · refine ⟨rfl,rfl,rfl,by simp,fun j hj hne => ?_⟩
    have : b ≠ j := fun e => hne e.symm
    simp [this]
/-! ### Which texts are right,plain -/
/-- Are a text's runes right,from a place on? -/
def txtF (s : ByteArray) : Nat → Nat → Bool
  | 0,_ => true
  | f + 1,p => if p < s.size then decide ((r1 fun i => octA s (p + i)) ≠ 0) && txtF s f (p + max 1 (r1 fun i => octA s (p + i))) else true
def txtP (s : ByteArray) (p : Nat) : Bool := txtF s (s.size - p) p
/-- Is a text right? -/
def txtOk (s : ByteArray) : Bool := txtP s 0
end Go.Proofs
