/-
  Contracts of the functions that the law reaches, step by step.
-/
import Derived.Test.YtfppepjaopbanaaRkL
namespace Go.Proofs
open Pk
set_option maxRecDepth 10000
abbrev nmN (n : Int) : Nm := (1, 0, 0, n)
theorem named_c (n : Int) (w : World) : FN Try.prog 17 [u32 n] w fun r w' => r = .returned (nmV (nmN n)) ∧ Ext w w' := by
  refine FN_enter Try.func17 rfl rfl (by kernel_rfl) ?_
  simp
  exact (Ext.refl w).alloc _
/-- A line of one's own: its blocks, and what else has changed, are where `Pd` holds. -/
structure LineP (Pd : Nat → Prop) (wb W : World) (l : Nat) (s : List Wt) (most : Int) : Prop where
  ex : ∃ Rq Rw M N, LineAt W l Rq Rw M N s most ∧ ∀ k, Foot l Rq Rw M k → Pd k
  mod : Mod Pd wb W
section
variable {Pd : Nat → Prop} {wb W W' : World} {l : Nat} {s : List Wt} {most : Int}
theorem LineP.ext (h : LineP Pd wb W l s most) (hE : Ext W W') : LineP Pd wb W' l s most := by
  obtain ⟨⟨Rq, Rw, M, N, h1, h2⟩, h3⟩ := h
  exact ⟨⟨Rq, Rw, M, N, h1.ext hE, h2⟩, h3.trans hE.mod⟩
theorem LineP.put (hP : ∀ k, wb.heap.size ≤ k → Pd k) (h : LineP Pd wb W l s most) (hbd : s.length ≤ 1048575) (x : Wt) :
    FN Try.prog 8 [ptr l, wtV x] W fun e W' => e = .returned (i64 (putE s most x)) ∧ LineP Pd wb W' l (if putE s most x = 0 then s ++ [x] else s) most := by
  obtain ⟨⟨Rq, Rw, M, N, h1, h2⟩, h3⟩ := h
  refine FN.mono (put_c h1 hbd x) ?_
  rintro _ W' ⟨rfl, M', N', g1, g2, g3⟩
  exact ⟨rfl, ⟨Rq, Rw, M', N', g1, fun k hk => (g3 k hk).elim (h2 k) fun hk => hP k (Nat.le_trans h3.size hk)⟩, h3.trans (g2.weaken h2)⟩
theorem LineP.drop (h : LineP Pd wb W l s most) (hbd : s.length ≤ 1048575) (n : Nm) :
    FN Try.prog 10 [ptr l, nmV n] W fun e W' => e = .returned (.tuple #[wtV (dropV s n), i64 (dropE s n)]) ∧ LineP Pd wb W' l (if dropE s n = 0 then mdel s n else s) most := by
  obtain ⟨⟨Rq, Rw, M, N, h1, h2⟩, h3⟩ := h
  refine FN.mono (drop_c h1 hbd n) ?_
  rintro _ W' ⟨rfl, M', N', g1, g2, g3⟩
  exact ⟨rfl, ⟨Rq, Rw, M', N', g1, fun k hk => h2 k (g3 k hk)⟩, h3.trans (g2.weaken h2)⟩
theorem LineP.move (hP : ∀ k, wb.heap.size ≤ k → Pd k) (h : LineP Pd wb W l s most) (hbd : s.length ≤ 1048575) (n : Nm) (tn : Int) :
    FN Try.prog 20 [ptr l, nmV n, u32 tn] W fun e W' => e = .returned (i64 (moveE s n tn)) ∧ LineP Pd wb W' l (moved s n tn) most := by
  obtain ⟨⟨Rq, Rw, M, N, h1, h2⟩, h3⟩ := h
  refine FN.mono (move_c h1 hbd n tn) ?_
  rintro _ W' ⟨rfl, M', N', g1, g2, g3⟩
  exact ⟨rfl, ⟨Rq, Rw, M', N', g1, fun k hk => (g3 k hk).elim (h2 k) fun hk => hP k (Nat.le_trans h3.size hk)⟩, h3.trans (g2.weaken h2)⟩
end
theorem LineP.new (m : Int) (h0 : 0 ≤ m) (h1 : m ≤ 4096) (w : World) : FN Try.prog 6 [i64 m] w fun e W => ∃ l, e = .returned (.tuple #[ptr l, i64 0]) ∧ LineP (fun k => w.heap.size ≤ k) w W l [] m ∧ w.heap.size ≤ l ∧ Ext w W := by
  refine FN.mono (new_c m h0 h1 w) ?_
  rintro _ W ⟨l, Rq, Rw, rfl, g1, g2, g3, g4, g5⟩
  exact ⟨l, rfl, ⟨⟨Rq, Rw, [], [], g1, by
    rintro k (rfl | rfl | rfl | ⟨x, hx, _⟩)
    · exact g3
    · exact g4
    · exact g5
    · cases hx⟩, g2.mod⟩, g3, g2⟩
/-! ### Strings -/
theorem b_add_str (W : World) (t : TypeId) (a b : ByteArray) (h : (a.size : Int) + b.size ≤ 9223372036854775807) : (binOp .add t (.string a) (.string b)).run Try.prog W = .ok (.string (a ++ b)) W := by simp [binOp, Op.stringOp, h]
theorem str1 (W : World) (c : Int) : (convert 64 9 (.slice (some ⟨W.heap.size, 0, none⟩) 1 1)).run Try.prog (W.alloc (.cells #[.int .u8 c] 5)) = .ok (.string (strOfNums [c])) (W.alloc (.cells #[.int .u8 c] 5)) := by
  refine run_convert_bytes_arg _ 64 5 (by simp) (by simp) W.heap.size 0 1 1 [c] rfl ?_ 9 (by simp)
  intro i hi
  have : i = 0 := by omega
  subst this
  simp
end Go.Proofs
