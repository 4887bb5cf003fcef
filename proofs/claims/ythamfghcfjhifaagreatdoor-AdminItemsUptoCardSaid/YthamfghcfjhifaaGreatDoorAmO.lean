/-
  Contracts of the functions that the law reaches, step by step.
-/
import Derived.Test.YthamfghcfjhifaaGreatDoorProg
import Derived.Test.YthamfghcfjhifaaGreatDoorEngV
import Derived.Test.YthamfghcfjhifaaGreatDoorEngR
import Derived.Test.YthamfghcfjhifaaGreatDoorEngJ
namespace Go.Proofs
open Pk
set_option maxRecDepth 10000
abbrev u32 (x : Int) : Value := .int .u32 x
abbrev u64 (x : Int) : Value := .int .u64 x
abbrev i64 (x : Int) : Value := .int .i64 x
abbrev u8 (x : Int) : Value := .int .u8 x
abbrev ptr (b : Nat) : Value := .pointer (some ⟨b, 0, none⟩)
end Go.Proofs
namespace Go.Proofs
open Pk
set_option maxRecDepth 10000
/-! ### Records -/
structure Rec where
  kind : Int
  nn : Int
  ns : Int
  nt : Int
  nq : Int
  what : Int
  why : Int
  at' : Int
  num : Int
  node : Int
  reg : Int
  yes : Bool
  fro : Int
  til : Int
  lev : Int
abbrev recC (r : Rec) : List Value := [i64 r.kind, u32 r.nn, u32 r.ns, u64 r.nt, u32 r.nq, i64 r.what, i64 r.why, u64 r.at', u64 r.num, u32 r.node, u32 r.reg, .bool r.yes, u64 r.fro, u64 r.til, u8 r.lev]
abbrev recV (r : Rec) : Value := .agg #[i64 r.kind, u32 r.nn, u32 r.ns, u64 r.nt, u32 r.nq, i64 r.what, i64 r.why, u64 r.at', u64 r.num, u32 r.node, u32 r.reg, .bool r.yes, u64 r.fro, u64 r.til, u8 r.lev]
def rec0 : Rec := ⟨0, 0, 0, 0, 0, 0, 0, 0, 0, 0, 0, false, 0, 0, 0⟩
instance : DecidableEq Rec := fun a b => decidable_of_iff (a.kind = b.kind ∧ a.nn = b.nn ∧ a.ns = b.ns ∧ a.nt = b.nt ∧ a.nq = b.nq ∧ a.what = b.what ∧ a.why = b.why ∧ a.at' = b.at' ∧ a.num = b.num ∧ a.node = b.node ∧ a.reg = b.reg ∧ a.yes = b.yes ∧ a.fro = b.fro ∧ a.til = b.til ∧ a.lev = b.lev) (by cases a; cases b; simp)
/-- What a record's cells may be. -/
structure RecOk (r : Rec) : Prop where
  nn : 0 ≤ r.nn ∧ r.nn ≤ 4294967295
  ns : 0 ≤ r.ns ∧ r.ns ≤ 4294967295
  nt : 0 ≤ r.nt ∧ r.nt ≤ 18446744073709551615
  nq : 0 ≤ r.nq ∧ r.nq ≤ 4294967295
  what : -9223372036854775808 ≤ r.what ∧ r.what ≤ 9223372036854775807
  why : -9223372036854775808 ≤ r.why ∧ r.why ≤ 9223372036854775807
  at' : 0 ≤ r.at' ∧ r.at' ≤ 18446744073709551615
  num : 0 ≤ r.num ∧ r.num ≤ 18446744073709551615
  node : 0 ≤ r.node ∧ r.node ≤ 4294967295
  reg : 0 ≤ r.reg ∧ r.reg ≤ 4294967295
  fro : 0 ≤ r.fro ∧ r.fro ≤ 18446744073709551615
  til : 0 ≤ r.til ∧ r.til ≤ 18446744073709551615
  lev : 0 ≤ r.lev ∧ r.lev ≤ 255
/-! ### Items that are leaves -/
abbrev leafC (k n : Int) : List Value := [i64 k, u64 n, .slice none 0 0, .string ⟨#[]⟩, .slice none 0 0]
abbrev leafV (k n : Int) : Value := .agg #[i64 k, u64 n, .slice none 0 0, .string ⟨#[]⟩, .slice none 0 0]
abbrev panV (e : Int) : List PanicEntry := [{ v := .iface 32 (i64 e), recovered := false }]
theorem must_t (e : Int) (w : World) : FN Tryz.prog 37 [.bool true, i64 e] w fun E w' => (∃ u, E = .returned u) ∧ w' = w := by
  refine FN_enter Tryz.func37 rfl rfl (by kernel_rfl) ?_
  simp
theorem must_f (e : Int) (w : World) : FN Tryz.prog 37 [.bool false, i64 e] w fun E w' => E = .panicked (panV e) ∧ w' = w := by
  refine FN_enter Tryz.func37 rfl rfl (by kernel_rfl) ?_
  simp
theorem num64_c (x : Int) (w : World) (h : 0 ≤ x ∧ x ≤ 18446744073709551615) : FN Tryz.prog 59 [u64 x] w fun e w' => e = .returned (leafV 1 x) ∧ Ext w w' := by
  refine FN_enter Tryz.func59 rfl rfl (by kernel_rfl) ?_
  simp
  have hE := (Ext.refl w).alloc (.cells #[i64 1, u64 x, .slice none 0 0, .string ⟨#[]⟩, .slice none 0 0] 51)
  exact hE
theorem num32_c (x : Int) (w : World) (h : 0 ≤ x ∧ x ≤ 4294967295) : FN Tryz.prog 60 [u32 x] w fun e w' => e = .returned (leafV 1 x) ∧ Ext w w' := by
  refine FN_enter Tryz.func60 rfl rfl (by kernel_rfl) ?_
  have hw : IntKind.u64.wrap x = x := wrap64u _ h.1 (by omega)
  simp [hw]
  exact (Ext.refl w).alloc (.cells #[i64 1, u64 x, .slice none 0 0, .string ⟨#[]⟩, .slice none 0 0] 51)
theorem num8_c (x : Int) (w : World) (h : 0 ≤ x ∧ x ≤ 255) : FN Tryz.prog 71 [u8 x] w fun e w' => e = .returned (leafV 1 x) ∧ Ext w w' := by
  refine FN_enter Tryz.func71 rfl rfl (by kernel_rfl) ?_
  have hw : IntKind.u64.wrap x = x := wrap64u _ h.1 (by omega)
  simp [hw]
  exact (Ext.refl w).alloc (.cells #[i64 1, u64 x, .slice none 0 0, .string ⟨#[]⟩, .slice none 0 0] 51)
theorem numi_c (x : Int) (w : World) (h : 0 ≤ x ∧ x ≤ 18446744073709551615) : FN Tryz.prog 103 [i64 x] w fun e w' => e = .returned (leafV 1 x) ∧ Ext w w' := by
  refine FN_enter Tryz.func103 rfl rfl (by kernel_rfl) ?_
  have hw : IntKind.u64.wrap x = x := wrap64u _ h.1 (by omega)
  simp [hw]
  exact (Ext.refl w).alloc (.cells #[i64 1, u64 x, .slice none 0 0, .string ⟨#[]⟩, .slice none 0 0] 51)
theorem numk_c (x : Int) (w : World) (h : 0 ≤ x ∧ x ≤ 18446744073709551615) : FN Tryz.prog 56 [i64 x] w fun e w' => e = .returned (leafV 1 x) ∧ Ext w w' := by
  refine FN_enter Tryz.func56 rfl rfl (by kernel_rfl) ?_
  have hw : IntKind.u64.wrap x = x := wrap64u _ h.1 (by omega)
  simp [hw]
  exact (Ext.refl w).alloc (.cells #[i64 1, u64 x, .slice none 0 0, .string ⟨#[]⟩, .slice none 0 0] 51)
theorem truth_c (b : Bool) (w : World) : FN Tryz.prog 66 [.bool b] w fun e w' => e = .returned (leafV 5 (if b then 1 else 0)) ∧ Ext w w' := by
  refine FN_enter Tryz.func66 rfl rfl (by kernel_rfl) ?_
  cases b with
  | false =>
    simp
    exact ((Ext.refl w).alloc (.cells #[i64 5, u64 0, .slice none 0 0, .string ⟨#[]⟩, .slice none 0 0] 51)).alloc _
  | true =>
    simp
    exact ((Ext.refl w).alloc _).alloc _
theorem list_c (a : Option Addr) (n c : Nat) (w : World) : FN Tryz.prog 55 [.slice a n c] w fun e w' => e = .returned (.agg #[i64 4, u64 0, .slice none 0 0, .string ⟨#[]⟩, .slice a n c]) ∧ Ext w w' := by
  refine FN_enter Tryz.func55 rfl rfl (by kernel_rfl) ?_
  simp
  exact (Ext.refl w).alloc _
end Go.Proofs
namespace Go.Proofs
open Pk
set_option maxRecDepth 10000
theorem next_t {w : World} {b : Nat} {v : Value} {n : Nat} {k x : Int} {c2 c3 c4 : Value} {cs rest : List Value} (hb : Blk w b [v]) (hv : Sl w 5 v (n + 1) (cs ++ rest)) (hne : slB v ≠ b) (hcs : cs = [i64 k, u64 x, c2, c3, c4]) (h2 : ∃ a l c, c2 = .slice a l c) (h3 : ∃ s, c3 = .string s) (h4 : ∃ a l c, c4 = .slice a l c) :
    FN Tryz.prog 106 [ptr b] w fun e w' => e = .returned (.agg #[i64 k, u64 x, c2, c3, c4]) ∧ ∃ v', Blk w' b [v'] ∧ Sl w' 5 v' n rest ∧ slB v' = slB v ∧ Mod (fun k => k = b) w w' := by
  refine FN_enter Tryz.func106 rfl rfl (by kernel_rfl) ?_
  obtain ⟨va, vc, hv'⟩ := hv.isSlice
  subst hv'
  obtain ⟨a2, l2, c2', rfl⟩ := h2
  obtain ⟨s3, rfl⟩ := h3
  obtain ⟨a4, l4, c4', rfl⟩ := h4
  subst hcs
  have hlen := fun ty W => hv.isLen (P := Tryz.prog) (t := 48) (by simp) ty W
  have hE := (Ext.refl w).alloc (.cells #[i64 0, u64 0, .slice none 0 0, .string ⟨#[]⟩, .slice none 0 0] 51)
  have o2 : Blk (w.alloc (.cells #[i64 0, u64 0, .slice none 0 0, .string ⟨#[]⟩, .slice none 0 0] 51)) w.heap.size [i64 0, u64 0, .slice none 0 0, .string ⟨#[]⟩, .slice none 0 0] := Blk.new w _ _
  have hp : (0 : Int) < (n : Int) + 1 := by omega
  simp [hb.cell 0 _ rfl, hlen, hp]
  have hlb := hb.lt
  have b1 := hb.ext hE
  have s1 := hv.ext hE
  have hsz : (w.alloc (.cells #[i64 0, u64 0, .slice none 0 0, .string ⟨#[]⟩, .slice none 0 0] 51)).heap.size = w.heap.size + 1 := by simp
  generalize (w.alloc (.cells #[i64 0, u64 0, .slice none 0 0, .string ⟨#[]⟩, .slice none 0 0] 51)) = w1 at *
  refine FN.mono (must_t 180 w1) ?_
  rintro _ w2 ⟨⟨u, rfl⟩, h2⟩
  subst h2
  obtain ⟨u, hu, hS, hsb⟩ := sl_tail (P := Tryz.prog) (t := 48) s1 (by simp) (fun W => by simp) .i64 1 (by omega)
  have ix := fun W => hv.index (P := Tryz.prog) (t := 48) (by simp) .i64 0 (by omega) (by omega) W
  simp
  refine WC_drawC 13 (.F 0 <| .F 1 <| .F 2 <| .F 3 <| .F 4 <| .F 5 <| .F 6 <| .F 7 <| .F 8 <| .F 9 <| .F 10 <| .F 11 <| .C 12 <| .Z) (fun k => decide (k = w.heap.size)) rfl (by kernel_rfl) fun W hW => ?_
  have hWE : Ext w2 W := hW ▸ Ext.drew _
  have b2 := b1.ext hWE
  have s2 := s1.ext hWE
  have p2 := o2.ext hWE
  have hbx : decide (b = w.heap.size) = false := by simp; omega
  have hvlt := s1.lt (by simp)
  have hvx : decide (slB (.slice va (n + 1) vc) = w.heap.size) = false := by
    have := hv.lt (by simp)
    rw [decide_eq_false_iff_not]; omega
  have d := fun (j : Nat) (u : Value) (e : ([i64 k, u64 x, .slice a2 l2 c2', .string s3, .slice a4 l4 c4'] ++ rest)[j]? = some u) => s2.at_ j u e
  have hu' := hu
  simp only [Int.cast_ofNat_Int] at hu'
  have d0 := d 0 _ rfl
  simp only [Nat.add_zero] at d0
  simp [b2.cell 0 _ rfl, ix, d0, d 1 _ rfl, d 2 _ rfl, d 3 _ rfl, d 4 _ rfl, hbx, hvx, hu', p2.cell 0 _ rfl, p2.cell 1 _ rfl, p2.cell 2 _ rfl, p2.cell 3 _ rfl, p2.cell 4 _ rfl, p2.thaw, cell_setCell]
  have hM3 : Mod (fun k => k = w.heap.size) W (((((W.setCell ⟨w.heap.size, 0, none⟩ (i64 k)).setCell ⟨w.heap.size, 1, none⟩ (u64 x)).setCell ⟨w.heap.size, 2, none⟩ (.slice a2 l2 c2')).setCell ⟨w.heap.size, 3, none⟩ (.string s3)).setCell ⟨w.heap.size, 4, none⟩ (.slice a4 l4 c4')) :=
    (((((Mod.refl _ W).setC 0 _).setC 1 _).setC 2 _).setC 3 _).setC 4 _
  have p3 := ((((p2.set 0 (i64 k)).set 1 (u64 x)).set 2 (.slice a2 l2 c2')).set 3 (.string s3)).set 4 (.slice a4 l4 c4')
  have b3 := b2.mod hM3 (by omega)
  have s3' := (hS W s2).mod hM3 (by rw [hsb]; have := hv.lt (by simp); omega)
  obtain ⟨ua, uc, hu2⟩ := (hS W s2).isSlice
  subst hu2
  generalize (((((W.setCell ⟨w.heap.size, 0, none⟩ (i64 k)).setCell ⟨w.heap.size, 1, none⟩ (u64 x)).setCell ⟨w.heap.size, 2, none⟩ (.slice a2 l2 c2')).setCell ⟨w.heap.size, 3, none⟩ (.string s3)).setCell ⟨w.heap.size, 4, none⟩ (.slice a4 l4 c4')) = W3 at *
  refine KR_mk (hM3.agr fun k hk e => by rw [decide_eq_false_iff_not] at hk; exact hk e) ?_
  simp only [List.set_cons_zero, List.set_cons_succ] at p3
  have hbw : ¬ b = w.heap.size := by omega
  have hwb : ¬ w.heap.size = b := by omega
  simp [b3.cell 0 _ rfl, b3.thaw, p3.cell 0 _ rfl, p3.cell 1 _ rfl, p3.cell 2 _ rfl, p3.cell 3 _ rfl, p3.cell 4 _ rfl, p3.thaw, cell_setCell, hwb]
  have hM4 : Mod (fun k => k = b) W3 (W3.setCell ⟨b, 0, none⟩ (.slice ua n uc)) := (Mod.refl _ _).setC _ _
  have b4 := b3.set 0 (.slice ua n uc)
  have s4 := s3'.mod hM4 (by rw [hsb]; exact hne)
  generalize (W3.setCell ⟨b, 0, none⟩ (.slice ua n uc)) = W4 at *
  have hM5 : Mod (fun k => k = w.heap.size) W4 (((((W4.setCell ⟨w.heap.size, 0, none⟩ (i64 k)).setCell ⟨w.heap.size, 1, none⟩ (u64 x)).setCell ⟨w.heap.size, 2, none⟩ (.slice a2 l2 c2')).setCell ⟨w.heap.size, 3, none⟩ (.string s3)).setCell ⟨w.heap.size, 4, none⟩ (.slice a4 l4 c4')) :=
    (((((Mod.refl _ W4).setC 0 _).setC 1 _).setC 2 _).setC 3 _).setC 4 _
  refine ⟨_, b4.mod hM5 (by omega), ?_, hsb, ?_⟩
  · have := s4.mod hM5 (by rw [hsb]; have := hv.lt (by simp); omega)
    simpa using this
  · exact ((((hE.trans hWE).mod (S := fun k => k = b)).trans' hM3 (fun i hi => .inr (by omega))).trans hM4).trans' hM5 fun i hi => .inr (by omega)
/-- A number of the kind uint64. -/
theorem upTou64_t {w : World} {b : Nat} {v : Value} {n : Nat} {x bd : Int} {c2 c3 c4 : Value} {rest : List Value} (hb : Blk w b [v]) (hv : Sl w 5 v (n + 1) ([i64 1, u64 x, c2, c3, c4] ++ rest)) (hne : slB v ≠ b) (h2 : ∃ a l c, c2 = .slice a l c) (h3 : ∃ s, c3 = .string s) (h4 : ∃ a l c, c4 = .slice a l c) (hx : x ≤ bd) (hw : IntKind.u64.wrap x = x) :
    FN Tryz.prog 62 [ptr b, u64 bd] w fun e w' => e = .returned (.int .u64 x) ∧ ∃ v', Blk w' b [v'] ∧ Sl w' 5 v' n rest ∧ slB v' = slB v ∧ Mod (fun k => k = b) w w' := by
  refine FN_enter Tryz.func62 rfl rfl (by kernel_rfl) ?_
  simp
  refine FN.mono (next_t hb hv hne rfl h2 h3 h4) ?_
  rintro _ w1 ⟨rfl, v', hb1, hs1, hsb, hM1⟩
  obtain ⟨a2, l2, c2', rfl⟩ := h2
  obtain ⟨s3, rfl⟩ := h3
  obtain ⟨a4, l4, c4', rfl⟩ := h4
  simp
  have hE2 : Ext w1 (w1.alloc (.cells #[i64 1, u64 x, .slice a2 l2 c2', .string s3, .slice a4 l4 c4'] 51)) := (Ext.refl _).alloc _
  have o2 : Blk (w1.alloc (.cells #[i64 1, u64 x, .slice a2 l2 c2', .string s3, .slice a4 l4 c4'] 51)) w1.heap.size [i64 1, u64 x, .slice a2 l2 c2', .string s3, .slice a4 l4 c4'] := Blk.new w1 _ _
  generalize (w1.alloc (.cells #[i64 1, u64 x, .slice a2 l2 c2', .string s3, .slice a4 l4 c4'] 51)) = w2 at *
  simp [hx]
  refine FN.mono (must_t 180 w2) ?_
  rintro _ w3 ⟨⟨u, rfl⟩, h3⟩
  subst h3
  simp [o2.cell 1 _ rfl]
  exact ⟨v', hb1.ext hE2, hs1.ext hE2, hsb, hM1.trans hE2.mod⟩
/-- A number of the kind uint32. -/
theorem upTou32_t {w : World} {b : Nat} {v : Value} {n : Nat} {x bd : Int} {c2 c3 c4 : Value} {rest : List Value} (hb : Blk w b [v]) (hv : Sl w 5 v (n + 1) ([i64 1, u64 x, c2, c3, c4] ++ rest)) (hne : slB v ≠ b) (h2 : ∃ a l c, c2 = .slice a l c) (h3 : ∃ s, c3 = .string s) (h4 : ∃ a l c, c4 = .slice a l c) (hx : x ≤ bd) (hw : IntKind.u32.wrap x = x) :
    FN Tryz.prog 109 [ptr b, u64 bd] w fun e w' => e = .returned (.int .u32 x) ∧ ∃ v', Blk w' b [v'] ∧ Sl w' 5 v' n rest ∧ slB v' = slB v ∧ Mod (fun k => k = b) w w' := by
  refine FN_enter Tryz.func109 rfl rfl (by kernel_rfl) ?_
  simp
  refine FN.mono (next_t hb hv hne rfl h2 h3 h4) ?_
  rintro _ w1 ⟨rfl, v', hb1, hs1, hsb, hM1⟩
  obtain ⟨a2, l2, c2', rfl⟩ := h2
  obtain ⟨s3, rfl⟩ := h3
  obtain ⟨a4, l4, c4', rfl⟩ := h4
  simp
  have hE2 : Ext w1 (w1.alloc (.cells #[i64 1, u64 x, .slice a2 l2 c2', .string s3, .slice a4 l4 c4'] 51)) := (Ext.refl _).alloc _
  have o2 : Blk (w1.alloc (.cells #[i64 1, u64 x, .slice a2 l2 c2', .string s3, .slice a4 l4 c4'] 51)) w1.heap.size [i64 1, u64 x, .slice a2 l2 c2', .string s3, .slice a4 l4 c4'] := Blk.new w1 _ _
  generalize (w1.alloc (.cells #[i64 1, u64 x, .slice a2 l2 c2', .string s3, .slice a4 l4 c4'] 51)) = w2 at *
  simp [hx]
  refine FN.mono (must_t 180 w2) ?_
  rintro _ w3 ⟨⟨u, rfl⟩, h3⟩
  subst h3
  simp [o2.cell 1 _ rfl, hw]
  exact ⟨v', hb1.ext hE2, hs1.ext hE2, hsb, hM1.trans hE2.mod⟩
/-- A number of the kind uint8. -/
theorem upTou8_t {w : World} {b : Nat} {v : Value} {n : Nat} {x bd : Int} {c2 c3 c4 : Value} {rest : List Value} (hb : Blk w b [v]) (hv : Sl w 5 v (n + 1) ([i64 1, u64 x, c2, c3, c4] ++ rest)) (hne : slB v ≠ b) (h2 : ∃ a l c, c2 = .slice a l c) (h3 : ∃ s, c3 = .string s) (h4 : ∃ a l c, c4 = .slice a l c) (hx : x ≤ bd) (hw : IntKind.u8.wrap x = x) :
    FN Tryz.prog 73 [ptr b, u64 bd] w fun e w' => e = .returned (.int .u8 x) ∧ ∃ v', Blk w' b [v'] ∧ Sl w' 5 v' n rest ∧ slB v' = slB v ∧ Mod (fun k => k = b) w w' := by
  refine FN_enter Tryz.func73 rfl rfl (by kernel_rfl) ?_
  simp
  refine FN.mono (next_t hb hv hne rfl h2 h3 h4) ?_
  rintro _ w1 ⟨rfl, v', hb1, hs1, hsb, hM1⟩
  obtain ⟨a2, l2, c2', rfl⟩ := h2
  obtain ⟨s3, rfl⟩ := h3
  obtain ⟨a4, l4, c4', rfl⟩ := h4
  simp
  have hE2 : Ext w1 (w1.alloc (.cells #[i64 1, u64 x, .slice a2 l2 c2', .string s3, .slice a4 l4 c4'] 51)) := (Ext.refl _).alloc _
  have o2 : Blk (w1.alloc (.cells #[i64 1, u64 x, .slice a2 l2 c2', .string s3, .slice a4 l4 c4'] 51)) w1.heap.size [i64 1, u64 x, .slice a2 l2 c2', .string s3, .slice a4 l4 c4'] := Blk.new w1 _ _
  generalize (w1.alloc (.cells #[i64 1, u64 x, .slice a2 l2 c2', .string s3, .slice a4 l4 c4'] 51)) = w2 at *
  simp [hx]
  refine FN.mono (must_t 180 w2) ?_
  rintro _ w3 ⟨⟨u, rfl⟩, h3⟩
  subst h3
  simp [o2.cell 1 _ rfl, hw]
  exact ⟨v', hb1.ext hE2, hs1.ext hE2, hsb, hM1.trans hE2.mod⟩
/-- A number of the kind int. -/
theorem upToi64_t {w : World} {b : Nat} {v : Value} {n : Nat} {x bd : Int} {c2 c3 c4 : Value} {rest : List Value} (hb : Blk w b [v]) (hv : Sl w 5 v (n + 1) ([i64 1, u64 x, c2, c3, c4] ++ rest)) (hne : slB v ≠ b) (h2 : ∃ a l c, c2 = .slice a l c) (h3 : ∃ s, c3 = .string s) (h4 : ∃ a l c, c4 = .slice a l c) (hx : x ≤ bd) (hw : IntKind.i64.wrap x = x) :
    FN Tryz.prog 82 [ptr b, u64 bd] w fun e w' => e = .returned (.int .i64 x) ∧ ∃ v', Blk w' b [v'] ∧ Sl w' 5 v' n rest ∧ slB v' = slB v ∧ Mod (fun k => k = b) w w' := by
  refine FN_enter Tryz.func82 rfl rfl (by kernel_rfl) ?_
  simp
  refine FN.mono (next_t hb hv hne rfl h2 h3 h4) ?_
  rintro _ w1 ⟨rfl, v', hb1, hs1, hsb, hM1⟩
  obtain ⟨a2, l2, c2', rfl⟩ := h2
  obtain ⟨s3, rfl⟩ := h3
  obtain ⟨a4, l4, c4', rfl⟩ := h4
  simp
  have hE2 : Ext w1 (w1.alloc (.cells #[i64 1, u64 x, .slice a2 l2 c2', .string s3, .slice a4 l4 c4'] 51)) := (Ext.refl _).alloc _
  have o2 : Blk (w1.alloc (.cells #[i64 1, u64 x, .slice a2 l2 c2', .string s3, .slice a4 l4 c4'] 51)) w1.heap.size [i64 1, u64 x, .slice a2 l2 c2', .string s3, .slice a4 l4 c4'] := Blk.new w1 _ _
  generalize (w1.alloc (.cells #[i64 1, u64 x, .slice a2 l2 c2', .string s3, .slice a4 l4 c4'] 51)) = w2 at *
  simp [hx]
  refine FN.mono (must_t 180 w2) ?_
  rintro _ w3 ⟨⟨u, rfl⟩, h3⟩
  subst h3
  simp [o2.cell 1 _ rfl, hw]
  exact ⟨v', hb1.ext hE2, hs1.ext hE2, hsb, hM1.trans hE2.mod⟩
end Go.Proofs
namespace Go.Proofs
open Pk
set_option maxRecDepth 10000
theorem node_t {w : World} {b : Nat} {v : Value} {n : Nat} {x : Int} {c2 c3 c4 : Value} {rest : List Value} (hb : Blk w b [v]) (hv : Sl w 5 v (n + 1) ([i64 1, u64 x, c2, c3, c4] ++ rest)) (hne : slB v ≠ b) (h2 : ∃ a l c, c2 = .slice a l c) (h3 : ∃ s, c3 = .string s) (h4 : ∃ a l c, c4 = .slice a l c) (h0 : 0 ≤ x) (hx : x ≤ 4294967295) :
    FN Tryz.prog 63 [ptr b] w fun e w' => e = .returned (u32 x) ∧ ∃ v', Blk w' b [v'] ∧ Sl w' 5 v' n rest ∧ slB v' = slB v ∧ Mod (fun k => k = b) w w' := by
  refine FN_enter Tryz.func63 rfl rfl (by kernel_rfl) ?_
  simp
  refine FN.mono (upTou32_t hb hv hne h2 h3 h4 hx (wrap32u _ h0 hx)) ?_
  rintro _ w1 ⟨rfl, h⟩
  simp
  exact h
theorem time_t {w : World} {b : Nat} {v : Value} {n : Nat} {x : Int} {c2 c3 c4 : Value} {rest : List Value} (hb : Blk w b [v]) (hv : Sl w 5 v (n + 1) ([i64 1, u64 x, c2, c3, c4] ++ rest)) (hne : slB v ≠ b) (h2 : ∃ a l c, c2 = .slice a l c) (h3 : ∃ s, c3 = .string s) (h4 : ∃ a l c, c4 = .slice a l c) (h0 : 0 ≤ x) (hx : x ≤ 4611686018427387903) :
    FN Tryz.prog 69 [ptr b] w fun e w' => e = .returned (u64 x) ∧ ∃ v', Blk w' b [v'] ∧ Sl w' 5 v' n rest ∧ slB v' = slB v ∧ Mod (fun k => k = b) w w' := by
  refine FN_enter Tryz.func69 rfl rfl (by kernel_rfl) ?_
  simp
  refine FN.mono (upTou64_t hb hv hne h2 h3 h4 hx (wrap64u _ h0 (by omega))) ?_
  rintro _ w1 ⟨rfl, h⟩
  simp
  exact h
theorem yes_t {w : World} {b : Nat} {v : Value} {n : Nat} {x : Int} {c2 c3 c4 : Value} {rest : List Value} (hb : Blk w b [v]) (hv : Sl w 5 v (n + 1) ([i64 5, u64 x, c2, c3, c4] ++ rest)) (hne : slB v ≠ b) (h2 : ∃ a l c, c2 = .slice a l c) (h3 : ∃ s, c3 = .string s) (h4 : ∃ a l c, c4 = .slice a l c) :
    FN Tryz.prog 68 [ptr b] w fun e w' => e = .returned (.bool (decide (x = 1))) ∧ ∃ v', Blk w' b [v'] ∧ Sl w' 5 v' n rest ∧ slB v' = slB v ∧ Mod (fun k => k = b) w w' := by
  refine FN_enter Tryz.func68 rfl rfl (by kernel_rfl) ?_
  simp
  refine FN.mono (next_t hb hv hne rfl h2 h3 h4) ?_
  rintro _ w1 ⟨rfl, v', hb1, hs1, hsb, hM1⟩
  obtain ⟨a2, l2, c2', rfl⟩ := h2
  obtain ⟨s3, rfl⟩ := h3
  obtain ⟨a4, l4, c4', rfl⟩ := h4
  simp
  have hE2 : Ext w1 (w1.alloc (.cells #[i64 5, u64 x, .slice a2 l2 c2', .string s3, .slice a4 l4 c4'] 51)) := (Ext.refl _).alloc _
  have o2 : Blk (w1.alloc (.cells #[i64 5, u64 x, .slice a2 l2 c2', .string s3, .slice a4 l4 c4'] 51)) w1.heap.size [i64 5, u64 x, .slice a2 l2 c2', .string s3, .slice a4 l4 c4'] := Blk.new w1 _ _
  generalize (w1.alloc (.cells #[i64 5, u64 x, .slice a2 l2 c2', .string s3, .slice a4 l4 c4'] 51)) = w2 at *
  refine FN.mono (must_t 180 w2) ?_
  rintro _ w3 ⟨⟨u, rfl⟩, h3⟩
  subst h3
  simp [beq_dec, o2.cell 1 _ rfl]
  exact ⟨v', hb1.ext hE2, hs1.ext hE2, hsb, hM1.trans hE2.mod⟩
/-! ### The kinds -/
abbrev fnV (f : Nat) : Value := .func (.func f) #[] #[]
def kdL : List (Int × List Value) :=
  [(1, [.string ⟨#[114, 101, 112, 111, 114, 116]⟩, fnV 101, fnV 104, fnV 107]), (2, [.string ⟨#[97, 115, 107]⟩, fnV 58, fnV 61, fnV 64]), (3, [.string ⟨#[116, 101, 108, 108]⟩, fnV 65, fnV 67, fnV 64]),
   (4, [.string ⟨#[102, 111, 114, 101]⟩, fnV 70, fnV 72, fnV 74]), (5, [.string ⟨#[109, 101, 109, 98, 101, 114]⟩, fnV 76, fnV 77, fnV 64])]
abbrev agE (l : List Value) : Value := .agg l.toArray
theorem krk : KeyEq Tryz.prog 22 (Value.int .i64) := keyEq_int (by simp)
theorem tkd : Tryz.prog.underlying 72 = some (.map 22 71) := by simp
theorem zkd (w : World) : (zeroValue 71).run Tryz.prog w = .ok (agE [.string ⟨#[]⟩, .nilFunc, .nilFunc, .nilFunc]) w := by simp
theorem report_c (w : World) : FN Tryz.prog 57 [] w fun e w' => e = .returned (agE [.string ⟨#[114, 101, 112, 111, 114, 116]⟩, fnV 101, fnV 104, fnV 107]) ∧ Ext w w' := by
  refine FN_enter Tryz.func57 rfl rfl (by kernel_rfl) ?_
  simp
  exact (Ext.refl w).alloc _
theorem kinds_c (w : World) : FN Tryz.prog 29 [] w fun e w' => ∃ r, e = .returned (.map (some r)) ∧ MapAt (Value.int .i64) agE w' r kdL ∧ Ext w w' := by
  refine FN_enter Tryz.func29 rfl rfl (by kernel_rfl) ?_
  simp
  have m0 := MapAt.alloc0 (Value.int .i64) agE w
  have hE1 : Ext w (w.alloc (.map #[] 0)) := (Ext.refl w).alloc _
  obtain ⟨r, hr⟩ : ∃ r, r = w.heap.size := ⟨_, rfl⟩
  rw [← hr] at m0 ⊢
  generalize (w.alloc (.map #[] 0)) = w1 at *
  refine FN.mono (report_c w1) ?_
  rintro _ w2 ⟨rfl, hE2⟩
  have m2 := m0.ext hE2
  obtain ⟨w3, u3, m3, h3, -⟩ := m2.update (P := Tryz.prog) krk tkd 1 [.string ⟨#[114, 101, 112, 111, 114, 116]⟩, fnV 101, fnV 104, fnV 107]
  obtain ⟨w4, u4, m4, h4, -⟩ := m3.update (P := Tryz.prog) krk tkd 2 [.string ⟨#[97, 115, 107]⟩, fnV 58, fnV 61, fnV 64]
  obtain ⟨w5, u5, m5, h5, -⟩ := m4.update (P := Tryz.prog) krk tkd 3 [.string ⟨#[116, 101, 108, 108]⟩, fnV 65, fnV 67, fnV 64]
  obtain ⟨w6, u6, m6, h6, -⟩ := m5.update (P := Tryz.prog) krk tkd 4 [.string ⟨#[102, 111, 114, 101]⟩, fnV 70, fnV 72, fnV 74]
  obtain ⟨w7, u7, m7, h7, -⟩ := m6.update (P := Tryz.prog) krk tkd 5 [.string ⟨#[109, 101, 109, 98, 101, 114]⟩, fnV 76, fnV 77, fnV 64]
  simp [u3, u4, u5, u6, u7]
  refine ⟨m7, ?_⟩
  exact (((((((hE1.trans hE2).mod (S := fun k => w.heap.size ≤ k)).trans (h3.weaken fun k hk => by omega)).trans (h4.weaken fun k hk => by omega)).trans (h5.weaken fun k hk => by omega)).trans (h6.weaken fun k hk => by omega)).trans (h7.weaken fun k hk => by omega)).ext fun _ h => h
end Go.Proofs
