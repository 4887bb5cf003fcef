/-
 Contracts of the functions that the law reaches,step by step.
-/
import Derived.Test.YtmmneeomcefgbaaGreatDoorAmO
namespace Go.Proofs
open Pk
set_option maxRecDepth 10000
structure Rec where
 kind : Int
 nn : Int
 ns : Int
 nt : Int
 nq : Int
 what : Int
 why : Int
 at' : Int
 num : Int
 node : Int
 reg : Int
 yes : Bool
 fro : Int
 til : Int
 lev : Int
abbrev recC (r : Rec) : List Value := [i64 r.kind,u32 r.nn,u32 r.ns,u64 r.nt,u32 r.nq,i64 r.what,i64 r.why,u64 r.at',u64 r.num,u32 r.node,u32 r.reg,.bool r.yes,u64 r.fro,u64 r.til,u8 r.lev]
abbrev recV (r : Rec) : Value := .agg #[i64 r.kind,u32 r.nn,u32 r.ns,u64 r.nt,u32 r.nq,i64 r.what,i64 r.why,u64 r.at',u64 r.num,u32 r.node,u32 r.reg,.bool r.yes,u64 r.fro,u64 r.til,u8 r.lev]
def rec0 : Rec := ⟨0,0,0,0,0,0,0,0,0,0,0,false,0,0,0⟩
instance : DecidableEq Rec := fun a b => decidable_of_iff (a.kind = b.kind ∧ a.nn = b.nn ∧ a.ns = b.ns ∧ a.nt = b.nt ∧ a.nq = b.nq ∧ a.what = b.what ∧ a.why = b.why ∧ a.at' = b.at' ∧ a.num = b.num ∧ a.node = b.node ∧ a.reg = b.reg ∧ a.yes = b.yes ∧ a.fro = b.fro ∧ a.til = b.til ∧ a.lev = b.lev) (by cases a; cases b; simp)
structure RecOk (r : Rec) : Prop where
 nn : 0 ≤ r.nn ∧ r.nn ≤ 4294967295
 ns : 0 ≤ r.ns ∧ r.ns ≤ 4294967295
 nt : 0 ≤ r.nt ∧ r.nt ≤ 18446744073709551615
 nq : 0 ≤ r.nq ∧ r.nq ≤ 4294967295
 what : -9223372036854775808 ≤ r.what ∧ r.what ≤ 9223372036854775807
 why : -9223372036854775808 ≤ r.why ∧ r.why ≤ 9223372036854775807
 at' : 0 ≤ r.at' ∧ r.at' ≤ 18446744073709551615
 num : 0 ≤ r.num ∧ r.num ≤ 18446744073709551615
 node : 0 ≤ r.node ∧ r.node ≤ 4294967295
 reg : 0 ≤ r.reg ∧ r.reg ≤ 4294967295
 fro : 0 ≤ r.fro ∧ r.fro ≤ 18446744073709551615
 til : 0 ≤ r.til ∧ r.til ≤ 18446744073709551615
 lev : 0 ≤ r.lev ∧ r.lev ≤ 255
abbrev leafC (k n : Int) : List Value := [i64 k,u64 n,.slice none 0 0,.string ⟨#[]⟩,.slice none 0 0]
abbrev leafV (k n : Int) : Value := .agg #[i64 k,u64 n,.slice none 0 0,.string ⟨#[]⟩,.slice none 0 0]
abbrev panV (e : Int) : List PanicEntry := [{ v := .iface 48 (i64 e),recovered := false }]
theorem must_t (e : Int) (w : World) : FN Tryz.prog 155 [.bool true, i64 e] w fun E w' => (∃ u, E = .returned u) ∧ w' = w := by
 refine FN_enter Tryz.func155 rfl rfl (by kernel_rfl) ?_
 simp
theorem must_f (e : Int) (w : World) : FN Tryz.prog 155 [.bool false, i64 e] w fun E w' => E = .panicked (panV e) ∧ w' = w := by
 refine FN_enter Tryz.func155 rfl rfl (by kernel_rfl) ?_
 simp
theorem num64_c (x : Int) (w : World) (h : 0 ≤ x ∧ x ≤ 18446744073709551615) : FN Tryz.prog 202 [u64 x] w fun e w' => e = .returned (leafV 1 x) ∧ Ext w w' := by
 refine FN_enter Tryz.func202 rfl rfl (by kernel_rfl) ?_
 simp
 have hE := (Ext.refl w).alloc (.cells #[i64 1,u64 x,.slice none 0 0,.string ⟨#[]⟩,.slice none 0 0] 160)
 exact hE
theorem num32_c (x : Int) (w : World) (h : 0 ≤ x ∧ x ≤ 4294967295) : FN Tryz.prog 203 [u32 x] w fun e w' => e = .returned (leafV 1 x) ∧ Ext w w' := by
 refine FN_enter Tryz.func203 rfl rfl (by kernel_rfl) ?_
 have hw : IntKind.u64.wrap x = x := wrap64u _ h.1 (by omega)
 simp [hw]
 exact (Ext.refl w).alloc (.cells #[i64 1,u64 x,.slice none 0 0,.string ⟨#[]⟩,.slice none 0 0] 160)
theorem num8_c (x : Int) (w : World) (h : 0 ≤ x ∧ x ≤ 255) : FN Tryz.prog 214 [u8 x] w fun e w' => e = .returned (leafV 1 x) ∧ Ext w w' := by
 refine FN_enter Tryz.func214 rfl rfl (by kernel_rfl) ?_
 have hw : IntKind.u64.wrap x = x := wrap64u _ h.1 (by omega)
 simp [hw]
 exact (Ext.refl w).alloc (.cells #[i64 1,u64 x,.slice none 0 0,.string ⟨#[]⟩,.slice none 0 0] 160)
theorem numi_c (x : Int) (w : World) (h : 0 ≤ x ∧ x ≤ 18446744073709551615) : FN Tryz.prog 256 [i64 x] w fun e w' => e = .returned (leafV 1 x) ∧ Ext w w' := by
 refine FN_enter Tryz.func256 rfl rfl (by kernel_rfl) ?_
 have hw : IntKind.u64.wrap x = x := wrap64u _ h.1 (by omega)
 simp [hw]
 exact (Ext.refl w).alloc (.cells #[i64 1,u64 x,.slice none 0 0,.string ⟨#[]⟩,.slice none 0 0] 160)
theorem numk_c (x : Int) (w : World) (h : 0 ≤ x ∧ x ≤ 18446744073709551615) : FN Tryz.prog 199 [i64 x] w fun e w' => e = .returned (leafV 1 x) ∧ Ext w w' := by
 refine FN_enter Tryz.func199 rfl rfl (by kernel_rfl) ?_
 have hw : IntKind.u64.wrap x = x := wrap64u _ h.1 (by omega)
 simp [hw]
 exact (Ext.refl w).alloc (.cells #[i64 1,u64 x,.slice none 0 0,.string ⟨#[]⟩,.slice none 0 0] 160)
theorem truth_c (b : Bool) (w : World) : FN Tryz.prog 209 [.bool b] w fun e w' => e = .returned (leafV 5 (if b then 1 else 0)) ∧ Ext w w' := by
 refine FN_enter Tryz.func209 rfl rfl (by kernel_rfl) ?_
 cases b with
 | false =>
  simp
  exact ((Ext.refl w).alloc (.cells #[i64 5,u64 0,.slice none 0 0,.string ⟨#[]⟩,.slice none 0 0] 160)).alloc _
 | true =>
  simp
  exact ((Ext.refl w).alloc _).alloc _
theorem list_c (a : Option Addr) (n c : Nat) (w : World) : FN Tryz.prog 198 [.slice a n c] w fun e w' => e = .returned (.agg #[i64 4, u64 0, .slice none 0 0, .string ⟨#[]⟩, .slice a n c]) ∧ Ext w w' := by
 refine FN_enter Tryz.func198 rfl rfl (by kernel_rfl) ?_
 simp
 exact (Ext.refl w).alloc _
end Go.Proofs