/-
  Contracts of the functions that the law reaches, step by step.
-/
import Derived.Test.YtjagbfaklckagaaGreatBdA
namespace Go.Proofs
open Pk
set_option maxRecDepth 10000
def ansR (b : Bd) (r : Rec) : Int := if ¬ r.kind = 3 ∨ ¬ tellE r = 0 then 2 else if noQ b r then 5 else if fullB b.A (r.node, r.reg) then 330 else 0
def ansB (b : Bd) (r : Rec) : Bd := if ansR b r = 0 then { b with Q := mdel b.Q (r.node, r.reg), A := mset b.A (r.node, r.reg) (r.yes, r.til) } else b
set_option maxHeartbeats 2000000 in
theorem answer_c {w : World} {t rF rQ rA : Nat} {b : Bd} (h : BdAt w t rF rQ rA b) (hq : QOk b) {r : Rec} (hr : RecOk r) : FN Tryz.prog 10 [ptr t, recV r] w fun e w' => e = .returned (i64 (ansR b r)) ∧ BdAt w' t rF rQ rA (ansB b r) ∧ Mod (fun k => k = rQ ∨ k = rA) w w' := by
  refine FN_enter Tryz.func10 rfl rfl (by kernel_rfl) ?_
  simp
  have hE1 : Ext w (((w.alloc (.cells #[ptr t] 23)).alloc (.cells #[i64 r.kind, u32 r.nn, u32 r.ns, u64 r.nt, u32 r.nq, i64 r.what, i64 r.why, u64 r.at', u64 r.num, u32 r.node, u32 r.reg, .bool r.yes, u64 r.fro, u64 r.til, u8 r.lev] 38)).alloc (.cells #[u32 r.node, u32 r.reg] 71)) := (((Ext.refl w).alloc _).alloc _).alloc _
  have v2 : Blk (((w.alloc (.cells #[ptr t] 23)).alloc (.cells #[i64 r.kind, u32 r.nn, u32 r.ns, u64 r.nt, u32 r.nq, i64 r.what, i64 r.why, u64 r.at', u64 r.num, u32 r.node, u32 r.reg, .bool r.yes, u64 r.fro, u64 r.til, u8 r.lev] 38)).alloc (.cells #[u32 r.node, u32 r.reg] 71)) w.heap.size [ptr t] := (Blk.new w _ _).ext (((Ext.refl _).alloc _).alloc _)
  have v3 : Blk (((w.alloc (.cells #[ptr t] 23)).alloc (.cells #[i64 r.kind, u32 r.nn, u32 r.ns, u64 r.nt, u32 r.nq, i64 r.what, i64 r.why, u64 r.at', u64 r.num, u32 r.node, u32 r.reg, .bool r.yes, u64 r.fro, u64 r.til, u8 r.lev] 38)).alloc (.cells #[u32 r.node, u32 r.reg] 71)) (w.heap.size + 1) (recC r) := by
    have := (Blk.new (w.alloc (.cells #[ptr t] 23)) (recC r) 38).ext ((Ext.refl _).alloc (.cells #[u32 r.node, u32 r.reg] 71))
    simpa using this
  have v5 : Blk (((w.alloc (.cells #[ptr t] 23)).alloc (.cells #[i64 r.kind, u32 r.nn, u32 r.ns, u64 r.nt, u32 r.nq, i64 r.what, i64 r.why, u64 r.at', u64 r.num, u32 r.node, u32 r.reg, .bool r.yes, u64 r.fro, u64 r.til, u8 r.lev] 38)).alloc (.cells #[u32 r.node, u32 r.reg] 71)) (w.heap.size + 1 + 1) [u32 r.node, u32 r.reg] := by
    have := Blk.new ((w.alloc (.cells #[ptr t] 23)).alloc (.cells #[i64 r.kind, u32 r.nn, u32 r.ns, u64 r.nt, u32 r.nq, i64 r.what, i64 r.why, u64 r.at', u64 r.num, u32 r.node, u32 r.reg, .bool r.yes, u64 r.fro, u64 r.til, u8 r.lev] 38)) [u32 r.node, u32 r.reg] 71
    simpa using this
  have z1 : (((w.alloc (.cells #[ptr t] 23)).alloc (.cells #[i64 r.kind, u32 r.nn, u32 r.ns, u64 r.nt, u32 r.nq, i64 r.what, i64 r.why, u64 r.at', u64 r.num, u32 r.node, u32 r.reg, .bool r.yes, u64 r.fro, u64 r.til, u8 r.lev] 38)).alloc (.cells #[u32 r.node, u32 r.reg] 71)).heap.size = w.heap.size + 1 + 1 + 1 := by simp
  generalize (((w.alloc (.cells #[ptr t] 23)).alloc (.cells #[i64 r.kind, u32 r.nn, u32 r.ns, u64 r.nt, u32 r.nq, i64 r.what, i64 r.why, u64 r.at', u64 r.num, u32 r.node, u32 r.reg, .bool r.yes, u64 r.fro, u64 r.til, u8 r.lev] 38)).alloc (.cells #[u32 r.node, u32 r.reg] 71)) = w1 at *
  have h1 := h.ext hE1
  have hlt := h.lt
  refine WC_drawC 8 (.F 0 <| .F 2 <| .F 4 <| .F 5 <| .F 6 <| .F 7 <| .C 1 <| .C 3 <| .Z) (fun _ => false) rfl (by kernel_rfl) fun W hW => ?_
  have hWE : Ext w1 W := hW ▸ Ext.drew w1
  have u3 := v3.ext hWE
  simp [(v2.ext hWE).cell 0 _ rfl, u3.cell 0 _ rfl, u3.cell 1 _ rfl, u3.cell 2 _ rfl, u3.cell 3 _ rfl, u3.cell 4 _ rfl, u3.cell 5 _ rfl, u3.cell 6 _ rfl, u3.cell 7 _ rfl, u3.cell 8 _ rfl, u3.cell 9 _ rfl, u3.cell 10 _ rfl, u3.cell 11 _ rfl, u3.cell 12 _ rfl, u3.cell 13 _ rfl, u3.cell 14 _ rfl]
  refine FN.mono (is_c (ptr t) W) ?_
  rintro _ w2 ⟨rfl, hE2⟩
  simp
  refine KR_ext hE2 ?_
  simp
  refine FN.mono (right_c r 3 w2) ?_
  rintro _ w3 ⟨c1, c2, rfl, hc1, hc2, hE3⟩
  simp
  refine KR_ext hE3 ?_
  have he13 := hWE.trans (hE2.trans hE3)
  let qs : List Qn := [⟨.func (.func 36) #[ptr t] #[], 1, false⟩, ⟨.func (.func 65) #[] #[ptr c1, ptr c2], 2, decide (¬ r.kind = 3) || decide (¬ tellE r = 0)⟩,
    ⟨.func (.func 30) #[] #[ptr w.heap.size, ptr (w.heap.size + 1 + 1), ptr (w.heap.size + 1)], 5, noQ b r⟩, ⟨.func (.func 31) #[] #[ptr w.heap.size, ptr (w.heap.size + 1 + 1)], 330, fullB b.A (r.node, r.reg)⟩]
  have hsl := Sl.made w3 (askCells qs) 74 2 4 rfl
  have he4 := (Ext.refl w3).alloc (.cells (askCells qs).toArray 74)
  have he14 := he13.trans he4
  simp
  refine FN.mono (asked_c qs hsl (by simp [qs]) ?_ ?_) ?_
  · intro q hq
    simp [qs] at hq
    rcases hq with rfl | rfl | rfl | rfl <;> exact ⟨_, _, _, rfl⟩
  · intro i q hiq hno w' hw'
    have hx := he14.trans hw'
    match i, hiq with
    | 0, hiq =>
      simp [qs] at hiq; subst hiq
      exact FN.mono (none_c (h1.ext hx)) fun _ _ h => ⟨h.1, h.2 ▸ Ext.refl _⟩
    | 1, hiq =>
      simp only [qs, List.getElem?_cons_succ, List.getElem?_cons_zero, Option.some.injEq] at hiq; subst hiq
      exact right1_c (hc1.ext (he4.trans hw')) (hc2.ext (he4.trans hw')) fun hk w => check_tell hr hk w
    | 2, hiq =>
      simp [qs] at hiq; subst hiq
      exact ans1_c (v2.var.ext hx) (v5.ext hx) (v3.ext hx) (h1.ext hx) hq
    | 3, hiq =>
      simp [qs] at hiq; subst hiq
      exact ans2_c (v2.var.ext hx) (v5.ext hx) (h1.ext hx)
    | i + 4, hiq => simp [qs] at hiq
  · rintro _ w4 ⟨rfl, h2⟩
    have hE : askE qs = ansR b r := by
      simp [qs, askE, ansR]
    rw [hE]
    have hx := he14.trans h2
    have hX := hE1.trans hx
    have h4 := h1.ext hx
    have x2 := v2.ext hx
    have x3 := v3.ext hx
    have x5 := v5.ext hx
    by_cases h0 : ansR b r = 0
    · have hB : ansB b r = { b with Q := mdel b.Q (r.node, r.reg), A := mset b.A (r.node, r.reg) (r.yes, r.til) } := by simp [ansB, h0]
      rw [hB]
      simp [h0]
      refine WC_drawC 5 (.F 0 <| .F 1 <| .F 2 <| .F 3 <| .F 4 <| .Z) (fun _ => false) rfl (by kernel_rfl) fun W5 hW5 => ?_
      have hE5 : Ext w4 W5 := hW5 ▸ Ext.drew w4
      have h5 := h4.ext hE5
      have y2 := x2.ext hE5
      have y3 := x3.ext hE5
      have y5 := x5.ext hE5
      obtain ⟨W6, hu, hm, hM, hsz⟩ := h5.mQ.delete (P := Tryz.prog) kPair tmQ (r.node, r.reg) 71 0
      simp only [ekP, pairC] at hu
      simp [y2.cell 0 _ rfl, h5.blk.cell 1 _ rfl, y5.cell 0 _ rfl, y5.cell 1 _ rfl, hu]
      have n1 := hlt rQ (.inr (.inr (.inl rfl)))
      have n2 := hlt rA (.inr (.inr (.inr rfl)))
      refine WC_drawC 10 (.F 0 <| .F 1 <| .F 2 <| .F 3 <| .F 4 <| .F 5 <| .F 6 <| .F 7 <| .F 8 <| .F 9 <| .Z) (fun _ => false) rfl (by kernel_rfl) fun W7 hW7 => ?_
      have hE7 : Ext W6 W7 := hW7 ▸ Ext.drew W6
      have z2 := (y2.mod hM (by omega)).ext hE7
      have z3 := (y3.mod hM (by omega)).ext hE7
      have z5 := (y5.mod hM (by omega)).ext hE7
      have b7 := (h5.blk.mod hM (blk_map h5.blk h5.mQ)).ext hE7
      have m7 := (h5.mA.mod hM fun e => h.qa e.symm).ext hE7
      obtain ⟨W8, hu8, hm8, hM8, hsz8⟩ := m7.update (P := Tryz.prog) kPair tmA (r.node, r.reg) (r.yes, r.til)
      simp only [ekP, pairC, ewA, ansC] at hu8
      simp [z2.cell 0 _ rfl, b7.cell 2 _ rfl, z5.cell 0 _ rfl, z5.cell 1 _ rfl, z3.cell 11 _ rfl, z3.cell 13 _ rfl, hu8]
      refine ⟨⟨b7.mod hM8 (blk_map b7 m7), ((h5.mF.mod hM h.fq).ext hE7).mod hM8 h.fa, (hm.ext hE7).mod hM8 h.qa, hm8, h.fq, h.fa, h.qa⟩, ?_⟩
      exact (((hX.trans hE5).mod.trans (hM.weaken fun k hk => .inl hk)).trans hE7.mod).trans (hM8.weaken fun k hk => .inr hk)
    · have hb : (ansR b r == 0) = false := by simpa using h0
      have hB : ansB b r = b := by simp [ansB, h0]
      rw [hB]
      simp [hb]
      exact ⟨h4, hX.mod⟩
def foreR (b : Bd) (r : Rec) : Int := if ¬ r.kind = 4 ∨ ¬ foreE r = 0 then 2 else if r.fro = r.til then 2 else if fullB b.F (r.node, r.fro) then 330 else 0
def foreBd (b : Bd) (r : Rec) : Bd := if foreR b r = 0 then { b with F := mset b.F (r.node, r.fro) (r.til, r.lev) } else b
set_option maxHeartbeats 2000000 in
theorem fore_c {w : World} {t rF rQ rA : Nat} {b : Bd} (h : BdAt w t rF rQ rA b) {r : Rec} (hr : RecOk r) : FN Tryz.prog 12 [ptr t, recV r] w fun e w' => e = .returned (i64 (foreR b r)) ∧ BdAt w' t rF rQ rA (foreBd b r) ∧ Mod (fun k => k = rF) w w' := by
  refine FN_enter Tryz.func12 rfl rfl (by kernel_rfl) ?_
  simp
  have hE1 : Ext w (((w.alloc (.cells #[ptr t] 23)).alloc (.cells #[i64 r.kind, u32 r.nn, u32 r.ns, u64 r.nt, u32 r.nq, i64 r.what, i64 r.why, u64 r.at', u64 r.num, u32 r.node, u32 r.reg, .bool r.yes, u64 r.fro, u64 r.til, u8 r.lev] 38)).alloc (.cells #[u32 r.node, u64 r.fro] 84)) := (((Ext.refl w).alloc _).alloc _).alloc _
  have v2 : Blk (((w.alloc (.cells #[ptr t] 23)).alloc (.cells #[i64 r.kind, u32 r.nn, u32 r.ns, u64 r.nt, u32 r.nq, i64 r.what, i64 r.why, u64 r.at', u64 r.num, u32 r.node, u32 r.reg, .bool r.yes, u64 r.fro, u64 r.til, u8 r.lev] 38)).alloc (.cells #[u32 r.node, u64 r.fro] 84)) w.heap.size [ptr t] := (Blk.new w _ _).ext (((Ext.refl _).alloc _).alloc _)
  have v3 : Blk (((w.alloc (.cells #[ptr t] 23)).alloc (.cells #[i64 r.kind, u32 r.nn, u32 r.ns, u64 r.nt, u32 r.nq, i64 r.what, i64 r.why, u64 r.at', u64 r.num, u32 r.node, u32 r.reg, .bool r.yes, u64 r.fro, u64 r.til, u8 r.lev] 38)).alloc (.cells #[u32 r.node, u64 r.fro] 84)) (w.heap.size + 1) (recC r) := by
    have := (Blk.new (w.alloc (.cells #[ptr t] 23)) (recC r) 38).ext ((Ext.refl _).alloc (.cells #[u32 r.node, u64 r.fro] 84))
    simpa using this
  have v5 : Blk (((w.alloc (.cells #[ptr t] 23)).alloc (.cells #[i64 r.kind, u32 r.nn, u32 r.ns, u64 r.nt, u32 r.nq, i64 r.what, i64 r.why, u64 r.at', u64 r.num, u32 r.node, u32 r.reg, .bool r.yes, u64 r.fro, u64 r.til, u8 r.lev] 38)).alloc (.cells #[u32 r.node, u64 r.fro] 84)) (w.heap.size + 1 + 1) [u32 r.node, u64 r.fro] := by
    have := Blk.new ((w.alloc (.cells #[ptr t] 23)).alloc (.cells #[i64 r.kind, u32 r.nn, u32 r.ns, u64 r.nt, u32 r.nq, i64 r.what, i64 r.why, u64 r.at', u64 r.num, u32 r.node, u32 r.reg, .bool r.yes, u64 r.fro, u64 r.til, u8 r.lev] 38)) [u32 r.node, u64 r.fro] 84
    simpa using this
  have z1 : (((w.alloc (.cells #[ptr t] 23)).alloc (.cells #[i64 r.kind, u32 r.nn, u32 r.ns, u64 r.nt, u32 r.nq, i64 r.what, i64 r.why, u64 r.at', u64 r.num, u32 r.node, u32 r.reg, .bool r.yes, u64 r.fro, u64 r.til, u8 r.lev] 38)).alloc (.cells #[u32 r.node, u64 r.fro] 84)).heap.size = w.heap.size + 1 + 1 + 1 := by simp
  generalize (((w.alloc (.cells #[ptr t] 23)).alloc (.cells #[i64 r.kind, u32 r.nn, u32 r.ns, u64 r.nt, u32 r.nq, i64 r.what, i64 r.why, u64 r.at', u64 r.num, u32 r.node, u32 r.reg, .bool r.yes, u64 r.fro, u64 r.til, u8 r.lev] 38)).alloc (.cells #[u32 r.node, u64 r.fro] 84)) = w1 at *
  have h1 := h.ext hE1
  have hlt := h.lt
  refine WC_drawC 8 (.F 0 <| .F 2 <| .F 4 <| .F 5 <| .F 6 <| .F 7 <| .C 1 <| .C 3 <| .Z) (fun _ => false) rfl (by kernel_rfl) fun W hW => ?_
  have hWE : Ext w1 W := hW ▸ Ext.drew w1
  have u3 := v3.ext hWE
  simp [(v2.ext hWE).cell 0 _ rfl, u3.cell 0 _ rfl, u3.cell 1 _ rfl, u3.cell 2 _ rfl, u3.cell 3 _ rfl, u3.cell 4 _ rfl, u3.cell 5 _ rfl, u3.cell 6 _ rfl, u3.cell 7 _ rfl, u3.cell 8 _ rfl, u3.cell 9 _ rfl, u3.cell 10 _ rfl, u3.cell 11 _ rfl, u3.cell 12 _ rfl, u3.cell 13 _ rfl, u3.cell 14 _ rfl]
  refine FN.mono (is_c (ptr t) W) ?_
  rintro _ w2 ⟨rfl, hE2⟩
  simp
  refine KR_ext hE2 ?_
  simp
  refine FN.mono (right_c r 4 w2) ?_
  rintro _ w3 ⟨c1, c2, rfl, hc1, hc2, hE3⟩
  simp
  refine KR_ext hE3 ?_
  have he13 := hWE.trans (hE2.trans hE3)
  let qs : List Qn := [⟨.func (.func 36) #[ptr t] #[], 1, false⟩, ⟨.func (.func 65) #[] #[ptr c1, ptr c2], 2, decide (¬ r.kind = 4) || decide (¬ foreE r = 0)⟩,
    ⟨.func (.func 33) #[] #[ptr (w.heap.size + 1)], 2, decide (r.fro = r.til)⟩, ⟨.func (.func 34) #[] #[ptr w.heap.size, ptr (w.heap.size + 1 + 1)], 330, fullB b.F (r.node, r.fro)⟩]
  have hsl := Sl.made w3 (askCells qs) 74 2 4 rfl
  have he4 := (Ext.refl w3).alloc (.cells (askCells qs).toArray 74)
  have he14 := he13.trans he4
  simp
  refine FN.mono (asked_c qs hsl (by simp [qs]) ?_ ?_) ?_
  · intro q hq
    simp [qs] at hq
    rcases hq with rfl | rfl | rfl | rfl <;> exact ⟨_, _, _, rfl⟩
  · intro i q hiq hno w' hw'
    have hx := he14.trans hw'
    match i, hiq with
    | 0, hiq =>
      simp [qs] at hiq; subst hiq
      exact FN.mono (none_c (h1.ext hx)) fun _ _ h => ⟨h.1, h.2 ▸ Ext.refl _⟩
    | 1, hiq =>
      simp only [qs, List.getElem?_cons_succ, List.getElem?_cons_zero, Option.some.injEq] at hiq; subst hiq
      exact right1_c (hc1.ext (he4.trans hw')) (hc2.ext (he4.trans hw')) fun hk w => check_fore hr hk w
    | 2, hiq =>
      simp [qs] at hiq; subst hiq
      exact FN.mono (fore1_c (v3.ext hx)) fun _ _ h => ⟨h.1, h.2 ▸ Ext.refl _⟩
    | 3, hiq =>
      simp [qs] at hiq; subst hiq
      exact fore2_c (v2.var.ext hx) (v5.ext hx) (h1.ext hx)
    | i + 4, hiq => simp [qs] at hiq
  · rintro _ w4 ⟨rfl, h2⟩
    have hE : askE qs = foreR b r := by
      simp [qs, askE, foreR]
    rw [hE]
    have hx := he14.trans h2
    have hX := hE1.trans hx
    have h4 := h1.ext hx
    have x2 := v2.ext hx
    have x3 := v3.ext hx
    have x5 := v5.ext hx
    by_cases h0 : foreR b r = 0
    · have hB : foreBd b r = { b with F := mset b.F (r.node, r.fro) (r.til, r.lev) } := by simp [foreBd, h0]
      rw [hB]
      simp [h0]
      refine WC_drawC 10 (.F 0 <| .F 1 <| .F 2 <| .F 3 <| .F 4 <| .F 5 <| .F 6 <| .F 7 <| .F 8 <| .F 9 <| .Z) (fun _ => false) rfl (by kernel_rfl) fun W5 hW5 => ?_
      have hE5 : Ext w4 W5 := hW5 ▸ Ext.drew w4
      have h5 := h4.ext hE5
      have y2 := x2.ext hE5
      have y3 := x3.ext hE5
      have y5 := x5.ext hE5
      obtain ⟨W8, hu8, hm8, hM8, hsz8⟩ := h5.mF.update (P := Tryz.prog) kKey tmFs (r.node, r.fro) (r.til, r.lev)
      simp only [ekK, keyC, ewF, foreVC] at hu8
      simp [y2.cell 0 _ rfl, h5.blk.cell 0 _ rfl, y5.cell 0 _ rfl, y5.cell 1 _ rfl, y3.cell 13 _ rfl, y3.cell 14 _ rfl, hu8]
      refine ⟨⟨h5.blk.mod hM8 (blk_map h5.blk h5.mF), hm8, h5.mQ.mod hM8 (fun e => h.fq e.symm), h5.mA.mod hM8 (fun e => h.fa e.symm), h.fq, h.fa, h.qa⟩, ?_⟩
      exact (hX.trans hE5).mod.trans hM8
    · have hb : (foreR b r == 0) = false := by simpa using h0
      have hB : foreBd b r = b := by simp [foreBd, h0]
      rw [hB]
      simp [hb]
      exact ⟨h4, hX.mod⟩
end Go.Proofs
