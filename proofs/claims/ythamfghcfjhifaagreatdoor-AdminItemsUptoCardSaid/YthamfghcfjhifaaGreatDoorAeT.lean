/-
  Contracts of the functions that the law reaches, step by step.
-/
import Derived.Test.YthamfghcfjhifaaGreatDoorAeR
namespace Go.Proofs
open Pk
set_option maxRecDepth 10000
theorem num_c (e : Int) (w : World) : FN Tryz.prog 12 [i64 e] w fun E w' => E = .returned (i64 e) ∧ w' = w := by
  refine FN_enter Tryz.func12 rfl rfl (by kernel_rfl) ?_
  simp
/-- The record of a report. -/
def repR (n : Nam) (wh wy at' : Int) : Rec := ⟨1, n.nn, n.ns, n.nt, n.nq, wh, wy, at', 0, 0, 0, false, 0, 0, 0⟩
theorem repR_ok {n : Nam} (hn : NamOk n) (ht : 0 ≤ n.nt ∧ n.nt ≤ 18446744073709551615) {wh wy at' : Int} (h1 : -9223372036854775808 ≤ wh ∧ wh ≤ 9223372036854775807) (h2 : -9223372036854775808 ≤ wy ∧ wy ≤ 9223372036854775807) (h3 : 0 ≤ at' ∧ at' ≤ 18446744073709551615) : RecOk (repR n wh wy at') :=
  ⟨hn.nn, hn.ns, ht, hn.nq, h1, h2, h3, by simp [repR], by simp [repR], by simp [repR], by simp [repR], by simp [repR], by simp [repR]⟩
def repOut (r : Rec) : Value := if rightE r = 0 then .tuple #[recV r, i64 0] else .tuple #[recV rec0, i64 2]
set_option maxHeartbeats 1000000 in
theorem mkrep_c {n : Nam} {wh wy at' : Int} (hr : RecOk (repR n wh wy at')) (w : World) : FN Tryz.prog 16 [namV n, i64 wh, i64 wy, u64 at'] w fun e w' => e = .returned (repOut (repR n wh wy at')) ∧ Ext w w' := by
  refine FN_enter Tryz.func16 rfl rfl (by kernel_rfl) ?_
  simp
  have hE1 : Ext w (((w.alloc (.cells #[u32 n.nn, u32 n.ns, u64 n.nt, u32 n.nq] 28)).alloc (.cells #[i64 0, u32 0, u32 0, u64 0, u32 0, i64 0, i64 0, u64 0, u64 0, u32 0, u32 0, .bool false, u64 0, u64 0, u8 0] 30)).alloc (.cells #[i64 1, u32 n.nn, u32 n.ns, u64 n.nt, u32 n.nq, i64 wh, i64 wy, u64 at', u64 0, u32 0, u32 0, .bool false, u64 0, u64 0, u8 0] 30)) := (((Ext.refl w).alloc _).alloc _).alloc _
  have x1 : Blk (((w.alloc (.cells #[u32 n.nn, u32 n.ns, u64 n.nt, u32 n.nq] 28)).alloc (.cells #[i64 0, u32 0, u32 0, u64 0, u32 0, i64 0, i64 0, u64 0, u64 0, u32 0, u32 0, .bool false, u64 0, u64 0, u8 0] 30)).alloc (.cells #[i64 1, u32 n.nn, u32 n.ns, u64 n.nt, u32 n.nq, i64 wh, i64 wy, u64 at', u64 0, u32 0, u32 0, .bool false, u64 0, u64 0, u8 0] 30)) (w.heap.size + 1) [i64 0, u32 0, u32 0, u64 0, u32 0, i64 0, i64 0, u64 0, u64 0, u32 0, u32 0, .bool false, u64 0, u64 0, u8 0] := by
    have := (Blk.new (w.alloc (.cells #[u32 n.nn, u32 n.ns, u64 n.nt, u32 n.nq] 28)) [i64 0, u32 0, u32 0, u64 0, u32 0, i64 0, i64 0, u64 0, u64 0, u32 0, u32 0, .bool false, u64 0, u64 0, u8 0] 30).ext ((Ext.refl _).alloc (.cells #[i64 1, u32 n.nn, u32 n.ns, u64 n.nt, u32 n.nq, i64 wh, i64 wy, u64 at', u64 0, u32 0, u32 0, .bool false, u64 0, u64 0, u8 0] 30))
    simpa using this
  have y1 : Blk (((w.alloc (.cells #[u32 n.nn, u32 n.ns, u64 n.nt, u32 n.nq] 28)).alloc (.cells #[i64 0, u32 0, u32 0, u64 0, u32 0, i64 0, i64 0, u64 0, u64 0, u32 0, u32 0, .bool false, u64 0, u64 0, u8 0] 30)).alloc (.cells #[i64 1, u32 n.nn, u32 n.ns, u64 n.nt, u32 n.nq, i64 wh, i64 wy, u64 at', u64 0, u32 0, u32 0, .bool false, u64 0, u64 0, u8 0] 30)) (w.heap.size + 1 + 1) [i64 1, u32 n.nn, u32 n.ns, u64 n.nt, u32 n.nq, i64 wh, i64 wy, u64 at', u64 0, u32 0, u32 0, .bool false, u64 0, u64 0, u8 0] := by
    have := Blk.new ((w.alloc (.cells #[u32 n.nn, u32 n.ns, u64 n.nt, u32 n.nq] 28)).alloc (.cells #[i64 0, u32 0, u32 0, u64 0, u32 0, i64 0, i64 0, u64 0, u64 0, u32 0, u32 0, .bool false, u64 0, u64 0, u8 0] 30)) [i64 1, u32 n.nn, u32 n.ns, u64 n.nt, u32 n.nq, i64 wh, i64 wy, u64 at', u64 0, u32 0, u32 0, .bool false, u64 0, u64 0, u8 0] 30
    simpa using this
  have z1 : w.heap.size ≤ (((w.alloc (.cells #[u32 n.nn, u32 n.ns, u64 n.nt, u32 n.nq] 28)).alloc (.cells #[i64 0, u32 0, u32 0, u64 0, u32 0, i64 0, i64 0, u64 0, u64 0, u32 0, u32 0, .bool false, u64 0, u64 0, u8 0] 30)).alloc (.cells #[i64 1, u32 n.nn, u32 n.ns, u64 n.nt, u32 n.nq, i64 wh, i64 wy, u64 at', u64 0, u32 0, u32 0, .bool false, u64 0, u64 0, u8 0] 30)).heap.size := hE1.size
  generalize (((w.alloc (.cells #[u32 n.nn, u32 n.ns, u64 n.nt, u32 n.nq] 28)).alloc (.cells #[i64 0, u32 0, u32 0, u64 0, u32 0, i64 0, i64 0, u64 0, u64 0, u32 0, u32 0, .bool false, u64 0, u64 0, u8 0] 30)).alloc (.cells #[i64 1, u32 n.nn, u32 n.ns, u64 n.nt, u32 n.nq, i64 wh, i64 wy, u64 at', u64 0, u32 0, u32 0, .bool false, u64 0, u64 0, u8 0] 30)) = w1 at *
  obtain ⟨xa, hxa⟩ : ∃ xa, xa = w.heap.size + 1 := ⟨_, rfl⟩
  obtain ⟨ya, hya⟩ : ∃ ya, ya = w.heap.size + 1 + 1 := ⟨_, rfl⟩
  rw [← hxa] at x1
  rw [← hya] at y1
  rw [← hya, ← hxa]
  refine FN.mono (check_c hr w1) ?_
  rintro _ w2 ⟨rfl, hE2⟩
  have x2 := x1.ext hE2
  have y2 := y1.ext hE2
  by_cases h0 : rightE (repR n wh wy at') = 0
  · have y0 := x2
    have y01 := y0.set 0 (i64 1)
    have y02 := y01.set 1 (u32 n.nn)
    have y03 := y02.set 2 (u32 n.ns)
    have y04 := y03.set 3 (u64 n.nt)
    have y05 := y04.set 4 (u32 n.nq)
    have y06 := y05.set 5 (i64 wh)
    have y07 := y06.set 6 (i64 wy)
    have y08 := y07.set 7 (u64 at')
    have y09 := y08.set 8 (u64 0)
    have y10 := y09.set 9 (u32 0)
    have y11 := y10.set 10 (u32 0)
    have y12 := y11.set 11 (.bool false)
    have y13 := y12.set 12 (u64 0)
    have y14 := y13.set 13 (u64 0)
    have y15 : Blk _ xa [i64 1, u32 n.nn, u32 n.ns, u64 n.nt, u32 n.nq, i64 wh, i64 wy, u64 at', u64 0, u32 0, u32 0, .bool false, u64 0, u64 0, u8 0] := y14.set 14 (u8 0)
    have hM : Mod (fun k => k = xa) w2 _ := ((((((((((((((((Mod.refl _ w2).setC 0 (i64 1)).setC 1 (u32 n.nn)).setC 2 (u32 n.ns)).setC 3 (u64 n.nt)).setC 4 (u32 n.nq)).setC 5 (i64 wh)).setC 6 (i64 wy)).setC 7 (u64 at')).setC 8 (u64 0)).setC 9 (u32 0)).setC 10 (u32 0)).setC 11 (.bool false)).setC 12 (u64 0)).setC 13 (u64 0)).setC 14 (u8 0))
    have hE := (((hE1.trans hE2).mod (S := fun _ => False)).trans' hM (fun i e => .inr (by omega))).ext (fun _ h => h.elim)
    simp [h0, y2.cell 0 _ rfl, y2.cell 1 _ rfl, y2.cell 2 _ rfl, y2.cell 3 _ rfl, y2.cell 4 _ rfl, y2.cell 5 _ rfl, y2.cell 6 _ rfl, y2.cell 7 _ rfl, y2.cell 8 _ rfl, y2.cell 9 _ rfl, y2.cell 10 _ rfl, y2.cell 11 _ rfl, y2.cell 12 _ rfl, y2.cell 13 _ rfl, y2.cell 14 _ rfl, y0.cell 0 _ rfl, y01.cell 1 _ rfl, y02.cell 2 _ rfl, y03.cell 3 _ rfl, y04.cell 4 _ rfl, y05.cell 5 _ rfl, y06.cell 6 _ rfl, y07.cell 7 _ rfl, y08.cell 8 _ rfl, y09.cell 9 _ rfl, y10.cell 10 _ rfl, y11.cell 11 _ rfl, y12.cell 12 _ rfl, y13.cell 13 _ rfl, y14.cell 14 _ rfl, x2.thaw, y15.cell 0 _ rfl, y15.cell 1 _ rfl, y15.cell 2 _ rfl, y15.cell 3 _ rfl, y15.cell 4 _ rfl, y15.cell 5 _ rfl, y15.cell 6 _ rfl, y15.cell 7 _ rfl, y15.cell 8 _ rfl, y15.cell 9 _ rfl, y15.cell 10 _ rfl, y15.cell 11 _ rfl, y15.cell 12 _ rfl, y15.cell 13 _ rfl, y15.cell 14 _ rfl]
    exact ⟨by unfold repOut; rw [if_pos h0]; rfl, hE⟩
  · have h2 := right_two h0
    simp [h2, x2.cell 0 _ rfl, x2.cell 1 _ rfl, x2.cell 2 _ rfl, x2.cell 3 _ rfl, x2.cell 4 _ rfl, x2.cell 5 _ rfl, x2.cell 6 _ rfl, x2.cell 7 _ rfl, x2.cell 8 _ rfl, x2.cell 9 _ rfl, x2.cell 10 _ rfl, x2.cell 11 _ rfl, x2.cell 12 _ rfl, x2.cell 13 _ rfl, x2.cell 14 _ rfl, setCell_id (x2.cell 0 _ rfl), setCell_id (x2.cell 1 _ rfl), setCell_id (x2.cell 2 _ rfl), setCell_id (x2.cell 3 _ rfl), setCell_id (x2.cell 4 _ rfl), setCell_id (x2.cell 5 _ rfl), setCell_id (x2.cell 6 _ rfl), setCell_id (x2.cell 7 _ rfl), setCell_id (x2.cell 8 _ rfl), setCell_id (x2.cell 9 _ rfl), setCell_id (x2.cell 10 _ rfl), setCell_id (x2.cell 11 _ rfl), setCell_id (x2.cell 12 _ rfl), setCell_id (x2.cell 13 _ rfl), setCell_id (x2.cell 14 _ rfl), x2.thaw]
    unfold repOut
    rw [if_neg h0]
    exact ⟨rfl, hE1.trans hE2⟩
theorem adecodeT_c {t : It} (ht : Rdy 8 t) (hl : (bytesI t).length ≤ 65536) {o : Option Rec} {w : World} {v : Value} (h : SlB w 1 v (bytesI t).length ((bytesI t).map u8))
    (hread : ∀ W cs, ItC W t cs → FN Tryz.prog 38 [.agg cs.toArray] W fun e W' => RcPost W W' o e) :
    FN Tryz.prog 14 [v] w fun e w' => e = .returned (match o with | some r => .tuple #[recV r, i64 0] | none => .tuple #[recV rec0, i64 180]) ∧ Ext w w' := by
  have hd := decP_bytes (fun _ => none) ht hl
  refine FN.mono (adecode_c (tx := fun _ => none) (o := fun _ => o) (fun s b hs => by cases hs) h ht.bytes ?_ (by omega) ?_) fun e w' hp => ?_
  · intro hc
    unfold decP at hd
    rw [hc] at hd
    cases hd
  · intro t' ht' W cs hc
    rw [hd] at ht'
    cases ht'
    exact hread W cs hc
  · refine ⟨?_, hp.ext⟩
    cases o with
    | none => exact hp.none t hd rfl
    | some r => exact hp.some t r hd rfl
/-! ### The constants of the chapter's rows -/
def kAsk : Rec := ⟨2, 0, 0, 0, 0, 0, 0, 0, 5, 6, 7, false, 0, 0, 0⟩
def kBad : Rec := ⟨2, 0, 0, 0, 0, 0, 0, 0, 5, 6, 0, false, 0, 0, 0⟩
def kNam : Nam := ⟨1, 0, 2, 3⟩
theorem kAsk_ok : RecOk kAsk := by constructor <;> simp [kAsk]
theorem kBad_ok : RecOk kBad := by constructor <;> simp [kBad]
theorem kNam_ok : NamOk kNam := by constructor <;> simp [kNam]
theorem kAsk_right : rightE kAsk = 0 := by decide
theorem kRep_right : rightE (repR kNam 4 2 4) = 0 := by decide
theorem kGot_right : rightE (repR kNam 1 2 4) = 2 := by decide
theorem kAsk_b : bytesR kAsk = [132, 2, 5, 6, 7] := by
  simp [bytesR, itemR, partsR, kAsk, askI, bytesI_list, bytesL, bytesI_uint, headB]
theorem kBad_b : bytesR kBad = [132, 2, 5, 6, 0] := by
  simp [bytesR, itemR, partsR, kBad, askI, bytesI_list, bytesL, bytesI_uint, headB]
theorem kRep_b : bytesR (repR kNam 4 2 4) = [133, 1, 131, 130, 2, 130, 1, 0, 2, 3, 4, 2, 4] := by
  simp [bytesR, itemR, partsR, kNam, repR, repI, nameI, namR, endI, bytesI_list, bytesL, bytesI_uint, headB]
end Go.Proofs
namespace Go.Proofs
open Pk
set_option maxRecDepth 10000
attribute [local simp] beq_dec bne_dec
theorem bs_ext {w w' : World} {v : Value} {b : List Int} (h : Sl w 1 v b.length (b.map u8)) (hE : Ext w w') : SlB w' 1 v b.length (b.map u8) := h.toB.ext hE
set_option maxHeartbeats 1000000 in
theorem works_c (w : World) : FN Tryz.prog 13 [] w fun e w' => e = .returned (.bool true) ∧ Ext w w' := by
  refine FN_enter Tryz.func13 rfl rfl (by kernel_rfl) ?_
  simp
  refine FN.mono (aencode_c kAsk_ok w) ?_
  rintro _ w1 hN1
  obtain ⟨hE1, hok1, -⟩ := hN1
  obtain ⟨v1, rfl, hv1⟩ := hok1 kAsk_right
  rw [kAsk_b] at hv1
  obtain ⟨a1, m1, c1, rfl⟩ := hv1.isSlice
  simp
  have hE2 : Ext w1 (w1.alloc (.cells #[u8 132, u8 2, u8 5, u8 6, u8 0] 5)) := (Ext.refl w1).alloc _
  have hs2 : SlB (w1.alloc (.cells #[u8 132, u8 2, u8 5, u8 6, u8 0] 5)) 1 (.slice (some ⟨w1.heap.size, 0, none⟩) 5 5) (bytesI (itemR kBad)).length ((bytesI (itemR kBad)).map u8) := by
    rw [show bytesI (itemR kBad) = [132, 2, 5, 6, 0] from kBad_b]
    exact (Sl.made w1 [u8 132, u8 2, u8 5, u8 6, u8 0] 5 1 5 rfl).toB
  generalize (w1.alloc (.cells #[u8 132, u8 2, u8 5, u8 6, u8 0] 5)) = w2 at *
  have hbad := adecodeT_c (o := none) (t := itemR kBad) (itemR_ok (r := kBad) (by decide) (fun x hx => by
    rw [show partsR kBad = [uintI 5, uintI 6, uintI 0] from rfl] at hx
    simp only [List.mem_cons, List.not_mem_nil, or_false] at hx
    rcases hx with rfl | rfl | rfl <;> exact part_uint (by omega) (by omega)) (by decide)).1.up.up.up (by rw [show bytesI (itemR kBad) = [132, 2, 5, 6, 0] from kBad_b]; decide) hs2 (fun W cs hc => readBad_c kBad_ok rfl (by decide) (by decide) hc)
  refine FN.mono (hbad) ?_
  rintro _ w3 ⟨rfl, hE3⟩
  simp
  have hE4 : Ext w3 ((w3.alloc (.cells #[i64 rec0.kind, u32 rec0.nn, u32 rec0.ns, u64 rec0.nt, u32 rec0.nq, i64 rec0.what, i64 rec0.why, u64 rec0.at', u64 rec0.num, u32 rec0.node, u32 rec0.reg, .bool rec0.yes, u64 rec0.fro, u64 rec0.til, u8 rec0.lev] 30)).alloc (.cells #[u32 1, u32 0, u64 2, u32 3] 28)) := ((Ext.refl w3).alloc _).alloc _
  have n4 : Blk ((w3.alloc (.cells #[i64 rec0.kind, u32 rec0.nn, u32 rec0.ns, u64 rec0.nt, u32 rec0.nq, i64 rec0.what, i64 rec0.why, u64 rec0.at', u64 rec0.num, u32 rec0.node, u32 rec0.reg, .bool rec0.yes, u64 rec0.fro, u64 rec0.til, u8 rec0.lev] 30)).alloc (.cells #[u32 1, u32 0, u64 2, u32 3] 28)) (w3.heap.size + 1) [u32 1, u32 0, u64 2, u32 3] := by
    have := Blk.new (w3.alloc (.cells #[i64 rec0.kind, u32 rec0.nn, u32 rec0.ns, u64 rec0.nt, u32 rec0.nq, i64 rec0.what, i64 rec0.why, u64 rec0.at', u64 rec0.num, u32 rec0.node, u32 rec0.reg, .bool rec0.yes, u64 rec0.fro, u64 rec0.til, u8 rec0.lev] 30)) [u32 1, u32 0, u64 2, u32 3] 28
    simpa using this
  have n4a := n4.cell 0 _ rfl
  have n4b := n4.cell 1 _ rfl
  have n4c := n4.cell 2 _ rfl
  have n4d := n4.cell 3 _ rfl
  generalize hb4 : w3.heap.size + 1 = b4 at *
  generalize hw4 : ((w3.alloc (.cells #[i64 rec0.kind, u32 rec0.nn, u32 rec0.ns, u64 rec0.nt, u32 rec0.nq, i64 rec0.what, i64 rec0.why, u64 rec0.at', u64 rec0.num, u32 rec0.node, u32 rec0.reg, .bool rec0.yes, u64 rec0.fro, u64 rec0.til, u8 rec0.lev] 30)).alloc (.cells #[u32 1, u32 0, u64 2, u32 3] 28)) = w4 at *
  have hm1 := mkrep_c (n := kNam) (wh := 4) (wy := 2) (at' := 4) (repR_ok kNam_ok (by decide) (by decide) (by decide) (by decide)) w4
  rw [show repOut (repR kNam 4 2 4) = .tuple #[recV (repR kNam 4 2 4), i64 0] from if_pos kRep_right] at hm1
  refine FN.mono (hm1) ?_
  rintro _ w6 ⟨rfl, hE6⟩
  simp
  have hE7 : Ext w6 (w6.alloc (.cells #[i64 (repR kNam 4 2 4).kind, u32 (repR kNam 4 2 4).nn, u32 (repR kNam 4 2 4).ns, u64 (repR kNam 4 2 4).nt, u32 (repR kNam 4 2 4).nq, i64 (repR kNam 4 2 4).what, i64 (repR kNam 4 2 4).why, u64 (repR kNam 4 2 4).at', u64 (repR kNam 4 2 4).num, u32 (repR kNam 4 2 4).node, u32 (repR kNam 4 2 4).reg, .bool (repR kNam 4 2 4).yes, u64 (repR kNam 4 2 4).fro, u64 (repR kNam 4 2 4).til, u8 (repR kNam 4 2 4).lev] 30)) := (Ext.refl _).alloc _
  have r7 : Blk (w6.alloc (.cells #[i64 (repR kNam 4 2 4).kind, u32 (repR kNam 4 2 4).nn, u32 (repR kNam 4 2 4).ns, u64 (repR kNam 4 2 4).nt, u32 (repR kNam 4 2 4).nq, i64 (repR kNam 4 2 4).what, i64 (repR kNam 4 2 4).why, u64 (repR kNam 4 2 4).at', u64 (repR kNam 4 2 4).num, u32 (repR kNam 4 2 4).node, u32 (repR kNam 4 2 4).reg, .bool (repR kNam 4 2 4).yes, u64 (repR kNam 4 2 4).fro, u64 (repR kNam 4 2 4).til, u8 (repR kNam 4 2 4).lev] 30)) w6.heap.size (recC (repR kNam 4 2 4)) := Blk.new w6 (recC (repR kNam 4 2 4)) 30
  have hk0 : RecOk (repR kNam 4 2 4) := repR_ok kNam_ok (by decide) (by decide) (by decide) (by decide)
  generalize (w6.alloc (.cells #[i64 (repR kNam 4 2 4).kind, u32 (repR kNam 4 2 4).nn, u32 (repR kNam 4 2 4).ns, u64 (repR kNam 4 2 4).nt, u32 (repR kNam 4 2 4).nq, i64 (repR kNam 4 2 4).what, i64 (repR kNam 4 2 4).why, u64 (repR kNam 4 2 4).at', u64 (repR kNam 4 2 4).num, u32 (repR kNam 4 2 4).node, u32 (repR kNam 4 2 4).reg, .bool (repR kNam 4 2 4).yes, u64 (repR kNam 4 2 4).fro, u64 (repR kNam 4 2 4).til, u8 (repR kNam 4 2 4).lev] 30)) = w7 at *
  refine FN.mono (aencode_c hk0 w7) ?_
  rintro _ w8 hN8
  obtain ⟨hE8, hok8, -⟩ := hN8
  obtain ⟨v8, rfl, hv8⟩ := hok8 kRep_right
  rw [kRep_b] at hv8
  obtain ⟨a8, m8, c8, rfl⟩ := hv8.isSlice
  have n8 := n4.ext (hE6.trans (hE7.trans hE8))
  simp [n8.cell 0 _ rfl, n8.cell 1 _ rfl, n8.cell 2 _ rfl, n8.cell 3 _ rfl]
  have hm2 := mkrep_c (n := kNam) (wh := 1) (wy := 2) (at' := 4) (repR_ok kNam_ok (by decide) (by decide) (by decide) (by decide)) w8
  rw [show repOut (repR kNam 1 2 4) = .tuple #[recV rec0, i64 2] from if_neg (by rw [kGot_right]; decide)] at hm2
  refine FN.mono (hm2) ?_
  rintro _ w9 ⟨rfl, hE9⟩
  simp
  have hE10 : Ext w9 (w9.alloc (.cells #[i64 rec0.kind, u32 rec0.nn, u32 rec0.ns, u64 rec0.nt, u32 rec0.nq, i64 rec0.what, i64 rec0.why, u64 rec0.at', u64 rec0.num, u32 rec0.node, u32 rec0.reg, .bool rec0.yes, u64 rec0.fro, u64 rec0.til, u8 rec0.lev] 30)) := (Ext.refl _).alloc _
  generalize (w9.alloc (.cells #[i64 rec0.kind, u32 rec0.nn, u32 rec0.ns, u64 rec0.nt, u32 rec0.nq, i64 rec0.what, i64 rec0.why, u64 rec0.at', u64 rec0.num, u32 rec0.node, u32 rec0.reg, .bool rec0.yes, u64 rec0.fro, u64 rec0.til, u8 rec0.lev] 30)) = w10 at *
  have hE410 := (hE6.trans (hE7.trans hE8)).trans (hE9.trans hE10)
  have hE110 := hE2.trans (hE3.trans (hE4.trans hE410))
  have hv1' : (convert 31 9 (.slice a1 5 m1)).run Tryz.prog w10 = .ok (.string (strOfNums [132, 2, 5, 6, 7])) w10 := conv_b (bs_ext hv1 hE110)
  have hv8' : (convert 31 9 (.slice a8 13 m8)).run Tryz.prog w10 = .ok (.string (strOfNums [133, 1, 131, 130, 2, 130, 1, 0, 2, 3, 4, 2, 4])) w10 := conv_b (bs_ext hv8 (hE9.trans hE10))
  refine FN.mono (num_c 0 w10) ?_
  rintro _ wa ⟨rfl, rfl⟩
  simp
  refine FN.mono (num_c 0 wa) ?_
  rintro _ wb ⟨rfl, rfl⟩
  simp
  refine FN.mono (num_c 0 wb) ?_
  rintro _ wc ⟨rfl, rfl⟩
  simp
  rw [show decide (IntKind.i64.wrap (IntKind.i64.wrap 0) = 0) = true from by decide]
  simp [hv1']
  rw [show ((strOfNums [132, 2, 5, 6, 7]).toList == [132, 2, 5, 6, 7]) = true from by rw [ByteArray.toList_eq]; decide]
  simp
  refine FN.mono (num_c 180 wc) ?_
  rintro _ wd ⟨rfl, rfl⟩
  simp [hv8']
  rw [show ((strOfNums [133, 1, 131, 130, 2, 130, 1, 0, 2, 3, 4, 2, 4]).toList == [133, 1, 131, 130, 2, 130, 1, 0, 2, 3, 4, 2, 4]) = true from by rw [ByteArray.toList_eq]; decide]
  simp
  refine FN.mono (num_c 2 wd) ?_
  rintro _ we ⟨rfl, rfl⟩
  simp
  exact hE1.trans hE110
end Go.Proofs
