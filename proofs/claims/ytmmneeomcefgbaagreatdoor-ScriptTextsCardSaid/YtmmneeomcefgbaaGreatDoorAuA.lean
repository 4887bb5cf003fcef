/-
  Contracts of the functions that the law reaches,step by step.
-/
import Derived.Test.YtmmneeomcefgbaaGreatDoorAmO
import Derived.Lib.DecodeNEq
namespace Go.Proofs
open Pk
set_option maxRecDepth 10000
attribute [local simp] beq_dec bne_dec
/-! ### The runes of texts: the document's -/
def octA (s : ByteArray) (p : Nat) : Int := if p < s.size then ((s.get! p).toNat : Int) else -1
theorem get_lt (s : ByteArray) (k : Nat) (h : k < s.size) : s.get! k = s[k]'h := by
  cases s with
  | mk d => exact getElem!_pos d k h
/-- The document's classes of first bytes: how many bytes,and the second one's bounds. -/
def r1C (a : Int) : Nat × Int × Int := if 194 ≤ a ∧ a ≤ 223 then (2,128,191) else if a = 224 then (3,160,191) else if a = 237 then (3,128,159) else if 225 ≤ a ∧ a ≤ 239 then (3,128,191) else if a = 240 then (4,144,191) else if a = 244 then (4,128,143) else if 241 ≤ a ∧ a ≤ 243 then (4,128,191) else if 127 < a then (0,0,0) else (1,0,127)
def r1L (c : Nat → Int) (n : Nat) : Nat → Nat → Int → Int → Nat
  | 0,_,_,_ => n
  | k + 1,i,lo,hi => if c i < lo ∨ hi < c i then 0 else r1L c n k (i + 1) 128 191
def r1 (c : Nat → Int) : Nat := r1L c (r1C (c 0)).1 ((r1C (c 0)).1 - 1) 1 (r1C (c 0)).2.1 (r1C (c 0)).2.2
/-- The two tables of unicode/utf8 as they are laid. -/
def Tabs (w : World) : Prop := (∀ c,c < 256 → w.cell? ⟨1,c,none⟩ = some (.int .u8 (Lib.firstT c))) ∧ (∀ i,i < 16 → w.cell? ⟨2,2 * i,none⟩ = some (.int .u8 (Lib.accLo i)) ∧ w.cell? ⟨2,2 * i + 1,none⟩ = some (.int .u8 (Lib.accHi i)))
theorem Tabs.ext {w w' : World} (h : Tabs w) (hE : Ext w w') : Tabs w' :=
  ⟨fun c hc => by rw [hE.cell _ (by rw [h.1 c hc]; rfl),h.1 c hc],fun i hi => ⟨by rw [hE.cell _ (by rw [(h.2 i hi).1]; rfl),(h.2 i hi).1],by rw [hE.cell _ (by rw [(h.2 i hi).2]; rfl),(h.2 i hi).2]⟩⟩
end Go.Proofs
