/-
  Contracts of the functions that the law reaches, step by step.
-/
import Derived.Test.YthamfghcfjhifaaGreatDoorAgH
namespace Go.Proofs
open Pk
set_option maxRecDepth 10000
attribute [local simp] beq_dec bne_dec
set_option maxHeartbeats 40000000 in
theorem rofTailY {w U0 : World} {t : It} {cs : List Value} {css : List (List Value)} {ba la : Option Addr} {bc lc rb : Nat} (ht : ItC w t cs) (hO : ItO w t cs (.slice ba t.b.length bc) (.slice la t.l.length lc) css) {σ : Env} {ok : Bool} {r : Rec}
    (s1 : σ 1 = ptr w.heap.size) (s2 : σ 2 = ptr (w.heap.size + 1)) (s7 : σ 7 = ptr rb) (s8 : σ 8 = .bool ok) (rU0 : Blk U0 rb (recC r)) (xU0 : Blk U0 w.heap.size [i64 t.k, u64 t.n, .slice ba t.b.length bc, .string t.s, .slice la t.l.length lc]) (oU0 : Blk U0 (w.heap.size + 1) [i64 0, u32 0, u32 0, u64 0, u32 0, i64 0, i64 0, u64 0, u64 0, u32 0, u32 0, .bool false, u64 0, u64 0, u8 0]) (hXU0 : Ext w U0)
    (hyes : ok = true → RecOk r ∧ ofD t = if rightE r = 0 ∧ t = itemR r then some r else none) (hok : ok = true) (hR : rightE r = 0) (hq : t = itemR r) : vc Tryz.prog 193 none (atCode Tryz.f22 9) (QF Tryz.prog Tryz.f22.results fun e w' => e = .returned (ofV (ofD t)) ∧ Ext w w') σ [] U0 := by
  have ecs := hO.cs
  have itc : ∀ W, Ext w W → ItC W t [i64 t.k, u64 t.n, .slice ba t.b.length bc, .string t.s, .slice la t.l.length lc] := fun W h => by rw [← ecs]; exact ht.ext h
  refine atCode_in rfl ?_
  simp
  refine WC_drawC 11 (.F 0 <| .F 1 <| .F 2 <| .F 3 <| .C 4 <| .F 5 <| .F 6 <| .F 7 <| .F 8 <| .F 9 <| .C 10 <| .Z) (fun _ => false) rfl (by kernel_rfl) fun U hU => ?_
  have hUE : Ext U0 U := hU ▸ Ext.drew _
  have rU := rU0.ext hUE
  have xU := xU0.ext hUE
  have oU := oU0.ext hUE
  have hXU := hXU0.trans hUE
  subst hok
  obtain ⟨hrok, hof⟩ := hyes rfl
  simp [s7, s8, rU.cell 0 _ rfl, rU.cell 1 _ rfl, rU.cell 2 _ rfl, rU.cell 3 _ rfl, rU.cell 4 _ rfl, rU.cell 5 _ rfl, rU.cell 6 _ rfl, rU.cell 7 _ rfl, rU.cell 8 _ rfl, rU.cell 9 _ rfl, rU.cell 10 _ rfl, rU.cell 11 _ rfl, rU.cell 12 _ rfl, rU.cell 13 _ rfl, rU.cell 14 _ rfl]
  refine FN.mono (rright_c hrok U) ?_
  rintro _ U1 ⟨rfl, hEU1⟩
  simp
  refine KR_ext hEU1 ?_
  have rU1 := rU.ext hEU1
  have xU1 := xU.ext hEU1
  have oU1 := oU.ext hEU1
  have hXU1 := hXU.trans hEU1
  obtain ⟨d1, d2, d3, d4⟩ := right_doc_item hR
  simp [hR, s1, s7, s8, xU1.cell 0 _ rfl, xU1.cell 1 _ rfl, xU1.cell 2 _ rfl, xU1.cell 3 _ rfl, xU1.cell 4 _ rfl, rU1.cell 0 _ rfl, rU1.cell 1 _ rfl, rU1.cell 2 _ rfl, rU1.cell 3 _ rfl, rU1.cell 4 _ rfl, rU1.cell 5 _ rfl, rU1.cell 6 _ rfl, rU1.cell 7 _ rfl, rU1.cell 8 _ rfl, rU1.cell 9 _ rfl, rU1.cell 10 _ rfl, rU1.cell 11 _ rfl, rU1.cell 12 _ rfl, rU1.cell 13 _ rfl, rU1.cell 14 _ rfl]
  refine FN.mono (docItem_c hrok d1 d2 d3 d4 U1) ?_
  rintro _ U2 ⟨csi, rfl, hit, hEU2⟩
  simp
  refine KR_ext hEU2 ?_
  obtain ⟨ia, im, ic, ia', im', ic', hcsi⟩ := itC_form hit
  have hXU2 := hXU1.trans hEU2
  have hsm := csame_c (itemR_nob d4) (itc U2 hXU2) hit
  simp at hsm
  simp
  refine FN.mono (hsm) ?_
  rintro _ U3 ⟨rfl, hEU3⟩
  have hXU3 := hXU2.trans hEU3
  have oU3 := (oU1.ext hEU2).ext hEU3
  have rU3 := (rU1.ext hEU2).ext hEU3
  rw [hof, if_pos ⟨hR, hq⟩]
  simp only [eq_true hq]
  have y0 := oU3
  have y1 := y0.set 0 (i64 r.kind)
  have y2 := y1.set 1 (u32 r.nn)
  have y3 := y2.set 2 (u32 r.ns)
  have y4 := y3.set 3 (u64 r.nt)
  have y5 := y4.set 4 (u32 r.nq)
  have y6 := y5.set 5 (i64 r.what)
  have y7 := y6.set 6 (i64 r.why)
  have y8 := y7.set 7 (u64 r.at')
  have y9 := y8.set 8 (u64 r.num)
  have y10 := y9.set 9 (u32 r.node)
  have y11 := y10.set 10 (u32 r.reg)
  have y12 := y11.set 11 (.bool r.yes)
  have y13 := y12.set 12 (u64 r.fro)
  have y14 := y13.set 13 (u64 r.til)
  have y15 := y14.set 14 (u8 r.lev)
  have hMS : Mod (fun k => k = w.heap.size + 1) U3 (((((((((((((((U3.setCell ⟨w.heap.size + 1, 0, none⟩ (i64 r.kind)).setCell ⟨w.heap.size + 1, 1, none⟩ (u32 r.nn)).setCell ⟨w.heap.size + 1, 2, none⟩ (u32 r.ns)).setCell ⟨w.heap.size + 1, 3, none⟩ (u64 r.nt)).setCell ⟨w.heap.size + 1, 4, none⟩ (u32 r.nq)).setCell ⟨w.heap.size + 1, 5, none⟩ (i64 r.what)).setCell ⟨w.heap.size + 1, 6, none⟩ (i64 r.why)).setCell ⟨w.heap.size + 1, 7, none⟩ (u64 r.at')).setCell ⟨w.heap.size + 1, 8, none⟩ (u64 r.num)).setCell ⟨w.heap.size + 1, 9, none⟩ (u32 r.node)).setCell ⟨w.heap.size + 1, 10, none⟩ (u32 r.reg)).setCell ⟨w.heap.size + 1, 11, none⟩ (.bool r.yes)).setCell ⟨w.heap.size + 1, 12, none⟩ (u64 r.fro)).setCell ⟨w.heap.size + 1, 13, none⟩ (u64 r.til)).setCell ⟨w.heap.size + 1, 14, none⟩ (u8 r.lev)) := ((((((((((((((((Mod.refl _ U3).setC 0 _).setC 1 _).setC 2 _).setC 3 _).setC 4 _).setC 5 _).setC 6 _).setC 7 _).setC 8 _).setC 9 _).setC 10 _).setC 11 _).setC 12 _).setC 13 _).setC 14 _)
  have hEf := ((hXU3.mod (S := fun _ => False)).trans' hMS (fun i e => .inr (by omega))).ext fun _ h => h.elim
  have yS : Blk (((((((((((((((U3.setCell ⟨w.heap.size + 1, 0, none⟩ (i64 r.kind)).setCell ⟨w.heap.size + 1, 1, none⟩ (u32 r.nn)).setCell ⟨w.heap.size + 1, 2, none⟩ (u32 r.ns)).setCell ⟨w.heap.size + 1, 3, none⟩ (u64 r.nt)).setCell ⟨w.heap.size + 1, 4, none⟩ (u32 r.nq)).setCell ⟨w.heap.size + 1, 5, none⟩ (i64 r.what)).setCell ⟨w.heap.size + 1, 6, none⟩ (i64 r.why)).setCell ⟨w.heap.size + 1, 7, none⟩ (u64 r.at')).setCell ⟨w.heap.size + 1, 8, none⟩ (u64 r.num)).setCell ⟨w.heap.size + 1, 9, none⟩ (u32 r.node)).setCell ⟨w.heap.size + 1, 10, none⟩ (u32 r.reg)).setCell ⟨w.heap.size + 1, 11, none⟩ (.bool r.yes)).setCell ⟨w.heap.size + 1, 12, none⟩ (u64 r.fro)).setCell ⟨w.heap.size + 1, 13, none⟩ (u64 r.til)).setCell ⟨w.heap.size + 1, 14, none⟩ (u8 r.lev)) (w.heap.size + 1) [i64 r.kind, u32 r.nn, u32 r.ns, u64 r.nt, u32 r.nq, i64 r.what, i64 r.why, u64 r.at', u64 r.num, u32 r.node, u32 r.reg, .bool r.yes, u64 r.fro, u64 r.til, u8 r.lev] := y15
  simp [s2, s7, s8, rU3.cell 0 _ rfl, rU3.cell 1 _ rfl, rU3.cell 2 _ rfl, rU3.cell 3 _ rfl, rU3.cell 4 _ rfl, rU3.cell 5 _ rfl, rU3.cell 6 _ rfl, rU3.cell 7 _ rfl, rU3.cell 8 _ rfl, rU3.cell 9 _ rfl, rU3.cell 10 _ rfl, rU3.cell 11 _ rfl, rU3.cell 12 _ rfl, rU3.cell 13 _ rfl, rU3.cell 14 _ rfl, y0.cell 0 _ rfl, y1.cell 1 _ rfl, y2.cell 2 _ rfl, y3.cell 3 _ rfl, y4.cell 4 _ rfl, y5.cell 5 _ rfl, y6.cell 6 _ rfl, y7.cell 7 _ rfl, y8.cell 8 _ rfl, y9.cell 9 _ rfl, y10.cell 10 _ rfl, y11.cell 11 _ rfl, y12.cell 12 _ rfl, y13.cell 13 _ rfl, y14.cell 14 _ rfl, oU3.thaw, yS.cell 0 _ rfl, yS.cell 1 _ rfl, yS.cell 2 _ rfl, yS.cell 3 _ rfl, yS.cell 4 _ rfl, yS.cell 5 _ rfl, yS.cell 6 _ rfl, yS.cell 7 _ rfl, yS.cell 8 _ rfl, yS.cell 9 _ rfl, yS.cell 10 _ rfl, yS.cell 11 _ rfl, yS.cell 12 _ rfl, yS.cell 13 _ rfl, yS.cell 14 _ rfl]
  exact ⟨rfl, hEf⟩
set_option maxHeartbeats 40000000 in
theorem rofTail {w U0 : World} {t : It} {cs : List Value} {css : List (List Value)} {ba la : Option Addr} {bc lc rb : Nat} (ht : ItC w t cs) (hO : ItO w t cs (.slice ba t.b.length bc) (.slice la t.l.length lc) css) {σ : Env} {ok : Bool} {r : Rec}
    (s1 : σ 1 = ptr w.heap.size) (s2 : σ 2 = ptr (w.heap.size + 1)) (s7 : σ 7 = ptr rb) (s8 : σ 8 = .bool ok) (rU0 : Blk U0 rb (recC r)) (xU0 : Blk U0 w.heap.size [i64 t.k, u64 t.n, .slice ba t.b.length bc, .string t.s, .slice la t.l.length lc]) (oU0 : Blk U0 (w.heap.size + 1) [i64 0, u32 0, u32 0, u64 0, u32 0, i64 0, i64 0, u64 0, u64 0, u32 0, u32 0, .bool false, u64 0, u64 0, u8 0]) (hXU0 : Ext w U0)
    (hyes : ok = true → RecOk r ∧ ofD t = if rightE r = 0 ∧ t = itemR r then some r else none) (hno' : ok = false → ofD t = none) : vc Tryz.prog 193 none (atCode Tryz.f22 9) (QF Tryz.prog Tryz.f22.results fun e w' => e = .returned (ofV (ofD t)) ∧ Ext w w') σ [] U0 := by
  by_cases h : ok = true ∧ rightE r = 0 ∧ t = itemR r
  · exact rofTailY ht hO s1 s2 s7 s8 rU0 xU0 oU0 hXU0 hyes h.1 h.2.1 h.2.2
  · exact rofTailN ht hO s1 s2 s7 s8 rU0 xU0 oU0 hXU0 hyes hno' fun a b c => h ⟨a, b, c⟩
end Go.Proofs
