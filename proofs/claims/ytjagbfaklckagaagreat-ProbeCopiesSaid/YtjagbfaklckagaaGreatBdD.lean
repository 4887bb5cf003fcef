/-
  Contracts of the functions that the law reaches, step by step.
-/
import Derived.Test.YtjagbfaklckagaaGreatBdA
import Derived.Test.YtjagbfaklckagaaGreatEngAE
import Derived.Test.YtjagbfaklckagaaGreatEngX
import Derived.Test.YtjagbfaklckagaaGreatEngJ
namespace Go.Proofs
open Pk
set_option maxRecDepth 10000
def ansR (b : Bd) (r : Rec) : Int := if ¬ r.kind = 3 ∨ ¬ tellE r = 0 then 2 else if noQ b r then 5 else if fullB b.A (r.node, r.reg) then 330 else 0
def ansB (b : Bd) (r : Rec) : Bd := if ansR b r = 0 then { b with Q := mdel b.Q (r.node, r.reg), A := mset b.A (r.node, r.reg) (r.yes, r.til) } else b
set_option maxHeartbeats 2000000 in
theorem answer_c {w : World} {t rF rQ rA : Nat} {b : Bd} (h : BdAt w t rF rQ rA b) (hq : QOk b) {r : Rec} (hr : RecOk r) : FN Tryz.prog 10 [ptr t, recV r] w fun e w' => e = .returned (i64 (ansR b r)) ∧ BdAt w' t rF rQ rA (ansB b r) ∧ Mod (fun k => k = rQ ∨ k = rA) w w' := by
  refine FN_enter Tryz.func10 rfl rfl (by kernel_rfl) ?_
  simp
  have hE1 : Ext w (((w.alloc (.cells #[ptr t] 23)).alloc (.cells #[i64 r.kind, u32 r.nn, u32 r.ns, u64 r.nt, u32 r.nq, i64 r.what, i64 r.why, u64 r.at', u64 r.num, u32 r.node, u32 r.reg, .bool r.yes, u64 r.fro, u64 r.til, u8 r.lev] 38)).alloc (.cells #[u32 r.node, u32 r.reg] 71)) := (((Ext.refl w).alloc _).alloc _).alloc _
  have v2 : Blk (((w.alloc (.cells #[ptr t] 23)).alloc (.cells #[i64 r.kind, u32 r.nn, u32 r.ns, u64 r.nt, u32 r.nq, i64 r.what, i64 r.why, u64 r.at', u64 r.num, u32 r.node, u32 r.reg, .bool r.yes, u64 r.fro, u64 r.til, u8 r.lev] 38)).alloc (.cells #[u32 r.node, u32 r.reg] 71)) w.heap.size [ptr t] := (Blk.new w _ _).ext (((Ext.refl _).alloc _).alloc _)
  have v3 : Blk (((w.alloc (.cells #[ptr t] 23)).alloc (.cells #[i64 r.kind, u32 r.nn, u32 r.ns, u64 r.nt, u32 r.nq, i64 r.what, i64 r.why, u64 r.at', u64 r.num, u32 r.node, u32 r.reg, .bool r.yes, u64 r.fro, u64 r.til, u8 r.lev] 38)).alloc (.cells #[u32 r.node, u32 r.reg] 71)) (w.heap.size + 1) (recC r) := by
    have := (Blk.new (w.alloc (.cells #[ptr t] 23)) (recC r) 38).ext ((Ext.refl _).alloc (.cells #[u32 r.node, u32 r.reg] 71))
    simpa using this
  have v5 : Blk (((w.alloc (.cells #[ptr t] 23)).alloc (.cells #[i64 r.kind, u32 r.nn, u32 r.ns, u64 r.nt, u32 r.nq, i64 r.what, i64 r.why, u64 r.at', u64 r.num, u32 r.node, u32 r.reg, .bool r.yes, u64 r.fro, u64 r.til, u8 r.lev] 38)).alloc (.cells #[u32 r.node, u32 r.reg] 71)) (w.heap.size + 1 + 1) [u32 r.node, u32 r.reg] := by
    have := Blk.new ((w.alloc (.cells #[ptr t] 23)).alloc (.cells #[i64 r.kind, u32 r.nn, u32 r.ns, u64 r.nt, u32 r.nq, i64 r.what, i64 r.why, u64 r.at', u64 r.num, u32 r.node, u32 r.reg, .bool r.yes, u64 r.fro, u64 r.til, u8 r.lev] 38)) [u32 r.node, u32 r.reg] 71
    simpa using this
  have z1 : (((w.alloc (.cells #[ptr t] 23)).alloc (.cells #[i64 r.kind, u32 r.nn, u32 r.ns, u64 r.nt, u32 r.nq, i64 r.what, i64 r.why, u64 r.at', u64 r.num, u32 r.node, u32 r.reg, .bool r.yes, u64 r.fro, u64 r.til, u8 r.lev] 38)).alloc (.cells #[u32 r.node, u32 r.reg] 71)).heap.size = w.heap.size + 1 + 1 + 1 := by simp
  generalize (((w.alloc (.cells #[ptr t] 23)).alloc (.cells #[i64 r.kind, u32 r.nn, u32 r.ns, u64 r.nt, u32 r.nq, i64 r.what, i64 r.why, u64 r.at', u64 r.num, u32 r.node, u32 r.reg, .bool r.yes, u64 r.fro, u64 r.til, u8 r.lev] 38)).alloc (.cells #[u32 r.node, u32 r.reg] 71)) = w1 at *
  have h1 := h.ext hE1
  have hlt := h.lt
  refine WC_drawC 8 (.F 0 <| .F 2 <| .F 4 <| .F 5 <| .F 6 <| .F 7 <| .C 1 <| .C 3 <| .Z) (fun _ => false) rfl (by kernel_rfl) fun W hW => ?_
  have hWE : Ext w1 W := hW ▸ Ext.drew w1
  have u3 := v3.ext hWE
  simp [(v2.ext hWE).cell 0 _ rfl, u3.cell 0 _ rfl, u3.cell 1 _ rfl, u3.cell 2 _ rfl, u3.cell 3 _ rfl, u3.cell 4 _ rfl, u3.cell 5 _ rfl, u3.cell 6 _ rfl, u3.cell 7 _ rfl, u3.cell 8 _ rfl, u3.cell 9 _ rfl, u3.cell 10 _ rfl, u3.cell 11 _ rfl, u3.cell 12 _ rfl, u3.cell 13 _ rfl, u3.cell 14 _ rfl]
  refine FN.mono (is_c (ptr t) W) ?_
  rintro _ w2 ⟨rfl, hE2⟩
  simp
  refine KR_ext hE2 ?_
  simp
  refine FN.mono (right_c r 3 w2) ?_
  rintro _ w3 ⟨c1, c2, rfl, hc1, hc2, hE3⟩
  simp
  refine KR_ext hE3 ?_
  have he13 := hWE.trans (hE2.trans hE3)
  let qs : List Qn := [⟨.func (.func 36) #[ptr t] #[], 1, false⟩, ⟨.func (.func 65) #[] #[ptr c1, ptr c2], 2, decide (¬ r.kind = 3) || decide (¬ tellE r = 0)⟩,
    ⟨.func (.func 30) #[] #[ptr w.heap.size, ptr (w.heap.size + 1 + 1), ptr (w.heap.size + 1)], 5, noQ b r⟩, ⟨.func (.func 31) #[] #[ptr w.heap.size, ptr (w.heap.size + 1 + 1)], 330, fullB b.A (r.node, r.reg)⟩]
  have hsl := Sl.made w3 (askCells qs) 74 2 4 rfl
  have he4 := (Ext.refl w3).alloc (.cells (askCells qs).toArray 74)
  have he14 := he13.trans he4
  simp
  refine FN.mono (asked_c qs hsl (by simp [qs]) ?_ ?_) ?_
  · intro q hq
    simp [qs] at hq
    rcases hq with rfl | rfl | rfl | rfl <;> exact ⟨_, _, _, rfl⟩
  · intro i q hiq hno w' hw'
    have hx := he14.trans hw'
    match i, hiq with
    | 0, hiq =>
      simp [qs] at hiq; subst hiq
      exact FN.mono (none_c (h1.ext hx)) fun _ _ h => ⟨h.1, h.2 ▸ Ext.refl _⟩
    | 1, hiq =>
      simp only [qs, List.getElem?_cons_succ, List.getElem?_cons_zero, Option.some.injEq] at hiq; subst hiq
      exact right1_c (hc1.ext (he4.trans hw')) (hc2.ext (he4.trans hw')) fun hk w => check_tell hr hk w
    | 2, hiq =>
      simp [qs] at hiq; subst hiq
      exact ans1_c (v2.var.ext hx) (v5.ext hx) (v3.ext hx) (h1.ext hx) hq
    | 3, hiq =>
      simp [qs] at hiq; subst hiq
      exact ans2_c (v2.var.ext hx) (v5.ext hx) (h1.ext hx)
    | i + 4, hiq => simp [qs] at hiq
  · rintro _ w4 ⟨rfl, h2⟩
    have hE : askE qs = ansR b r := by
      simp [qs, askE, ansR]
    rw [hE]
    have hx := he14.trans h2
    have hX := hE1.trans hx
    have h4 := h1.ext hx
    have x2 := v2.ext hx
    have x3 := v3.ext hx
    have x5 := v5.ext hx
    by_cases h0 : ansR b r = 0
    · have hB : ansB b r = { b with Q := mdel b.Q (r.node, r.reg), A := mset b.A (r.node, r.reg) (r.yes, r.til) } := by simp [ansB, h0]
      rw [hB]
      simp [h0]
      refine WC_drawC 5 (.F 0 <| .F 1 <| .F 2 <| .F 3 <| .F 4 <| .Z) (fun _ => false) rfl (by kernel_rfl) fun W5 hW5 => ?_
      have hE5 : Ext w4 W5 := hW5 ▸ Ext.drew w4
      have h5 := h4.ext hE5
      have y2 := x2.ext hE5
      have y3 := x3.ext hE5
      have y5 := x5.ext hE5
      obtain ⟨W6, hu, hm, hM, hsz⟩ := h5.mQ.delete (P := Tryz.prog) kPair tmQ (r.node, r.reg) 71 0
      simp only [ekP, pairC] at hu
      simp [y2.cell 0 _ rfl, h5.blk.cell 1 _ rfl, y5.cell 0 _ rfl, y5.cell 1 _ rfl, hu]
      have n1 := hlt rQ (.inr (.inr (.inl rfl)))
      have n2 := hlt rA (.inr (.inr (.inr rfl)))
      refine WC_drawC 10 (.F 0 <| .F 1 <| .F 2 <| .F 3 <| .F 4 <| .F 5 <| .F 6 <| .F 7 <| .F 8 <| .F 9 <| .Z) (fun _ => false) rfl (by kernel_rfl) fun W7 hW7 => ?_
      have hE7 : Ext W6 W7 := hW7 ▸ Ext.drew W6
      have z2 := (y2.mod hM (by omega)).ext hE7
      have z3 := (y3.mod hM (by omega)).ext hE7
      have z5 := (y5.mod hM (by omega)).ext hE7
      have b7 := (h5.blk.mod hM (blk_map h5.blk h5.mQ)).ext hE7
      have m7 := (h5.mA.mod hM fun e => h.qa e.symm).ext hE7
      obtain ⟨W8, hu8, hm8, hM8, hsz8⟩ := m7.update (P := Tryz.prog) kPair tmA (r.node, r.reg) (r.yes, r.til)
      simp only [ekP, pairC, ewA, ansC] at hu8
      simp [z2.cell 0 _ rfl, b7.cell 2 _ rfl, z5.cell 0 _ rfl, z5.cell 1 _ rfl, z3.cell 11 _ rfl, z3.cell 13 _ rfl, hu8]
      refine ⟨⟨b7.mod hM8 (blk_map b7 m7), ((h5.mF.mod hM h.fq).ext hE7).mod hM8 h.fa, (hm.ext hE7).mod hM8 h.qa, hm8, h.fq, h.fa, h.qa⟩, ?_⟩
      exact (((hX.trans hE5).mod.trans (hM.weaken fun k hk => .inl hk)).trans hE7.mod).trans (hM8.weaken fun k hk => .inr hk)
    · have hb : (ansR b r == 0) = false := by simpa using h0
      have hB : ansB b r = b := by simp [ansB, h0]
      rw [hB]
      simp [hb]
      exact ⟨h4, hX.mod⟩
def foreR (b : Bd) (r : Rec) : Int := if ¬ r.kind = 4 ∨ ¬ foreE r = 0 then 2 else if r.fro = r.til then 2 else if fullB b.F (r.node, r.fro) then 330 else 0
def foreBd (b : Bd) (r : Rec) : Bd := if foreR b r = 0 then { b with F := mset b.F (r.node, r.fro) (r.til, r.lev) } else b
set_option maxHeartbeats 2000000 in
theorem fore_c {w : World} {t rF rQ rA : Nat} {b : Bd} (h : BdAt w t rF rQ rA b) {r : Rec} (hr : RecOk r) : FN Tryz.prog 12 [ptr t, recV r] w fun e w' => e = .returned (i64 (foreR b r)) ∧ BdAt w' t rF rQ rA (foreBd b r) ∧ Mod (fun k => k = rF) w w' := by
  refine FN_enter Tryz.func12 rfl rfl (by kernel_rfl) ?_
  simp
  have hE1 : Ext w (((w.alloc (.cells #[ptr t] 23)).alloc (.cells #[i64 r.kind, u32 r.nn, u32 r.ns, u64 r.nt, u32 r.nq, i64 r.what, i64 r.why, u64 r.at', u64 r.num, u32 r.node, u32 r.reg, .bool r.yes, u64 r.fro, u64 r.til, u8 r.lev] 38)).alloc (.cells #[u32 r.node, u64 r.fro] 84)) := (((Ext.refl w).alloc _).alloc _).alloc _
  have v2 : Blk (((w.alloc (.cells #[ptr t] 23)).alloc (.cells #[i64 r.kind, u32 r.nn, u32 r.ns, u64 r.nt, u32 r.nq, i64 r.what, i64 r.why, u64 r.at', u64 r.num, u32 r.node, u32 r.reg, .bool r.yes, u64 r.fro, u64 r.til, u8 r.lev] 38)).alloc (.cells #[u32 r.node, u64 r.fro] 84)) w.heap.size [ptr t] := (Blk.new w _ _).ext (((Ext.refl _).alloc _).alloc _)
  have v3 : Blk (((w.alloc (.cells #[ptr t] 23)).alloc (.cells #[i64 r.kind, u32 r.nn, u32 r.ns, u64 r.nt, u32 r.nq, i64 r.what, i64 r.why, u64 r.at', u64 r.num, u32 r.node, u32 r.reg, .bool r.yes, u64 r.fro, u64 r.til, u8 r.lev] 38)).alloc (.cells #[u32 r.node, u64 r.fro] 84)) (w.heap.size + 1) (recC r) := by
    have := (Blk.new (w.alloc (.cells #[ptr t] 23)) (recC r) 38).ext ((Ext.refl _).alloc (.cells #[u32 r.node, u64 r.fro] 84))
    simpa using this
  have v5 : Blk (((w.alloc (.cells #[ptr t] 23)).alloc (.cells #[i64 r.kind, u32 r.nn, u32 r.ns, u64 r.nt, u32 r.nq, i64 r.what, i64 r.why, u64 r.at', u64 r.num, u32 r.node, u32 r.reg, .bool r.yes, u64 r.fro, u64 r.til, u8 r.lev] 38)).alloc (.cells #[u32 r.node, u64 r.fro] 84)) (w.heap.size + 1 + 1) [u32 r.node, u64 r.fro] := by
    have := Blk.new ((w.alloc (.cells #[ptr t] 23)).alloc (.cells #[i64 r.kind, u32 r.nn, u32 r.ns, u64 r.nt, u32 r.nq, i64 r.what, i64 r.why, u64 r.at', u64 r.num, u32 r.node, u32 r.reg, .bool r.yes, u64 r.fro, u64 r.til, u8 r.lev] 38)) [u32 r.node, u64 r.fro] 84
    simpa using this
  have z1 : (((w.alloc (.cells #[ptr t] 23)).alloc (.cells #[i64 r.kind, u32 r.nn, u32 r.ns, u64 r.nt, u32 r.nq, i64 r.what, i64 r.why, u64 r.at', u64 r.num, u32 r.node, u32 r.reg, .bool r.yes, u64 r.fro, u64 r.til, u8 r.lev] 38)).alloc (.cells #[u32 r.node, u64 r.fro] 84)).heap.size = w.heap.size + 1 + 1 + 1 := by simp
  generalize (((w.alloc (.cells #[ptr t] 23)).alloc (.cells #[i64 r.kind, u32 r.nn, u32 r.ns, u64 r.nt, u32 r.nq, i64 r.what, i64 r.why, u64 r.at', u64 r.num, u32 r.node, u32 r.reg, .bool r.yes, u64 r.fro, u64 r.til, u8 r.lev] 38)).alloc (.cells #[u32 r.node, u64 r.fro] 84)) = w1 at *
  have h1 := h.ext hE1
  have hlt := h.lt
  refine WC_drawC 8 (.F 0 <| .F 2 <| .F 4 <| .F 5 <| .F 6 <| .F 7 <| .C 1 <| .C 3 <| .Z) (fun _ => false) rfl (by kernel_rfl) fun W hW => ?_
  have hWE : Ext w1 W := hW ▸ Ext.drew w1
  have u3 := v3.ext hWE
  simp [(v2.ext hWE).cell 0 _ rfl, u3.cell 0 _ rfl, u3.cell 1 _ rfl, u3.cell 2 _ rfl, u3.cell 3 _ rfl, u3.cell 4 _ rfl, u3.cell 5 _ rfl, u3.cell 6 _ rfl, u3.cell 7 _ rfl, u3.cell 8 _ rfl, u3.cell 9 _ rfl, u3.cell 10 _ rfl, u3.cell 11 _ rfl, u3.cell 12 _ rfl, u3.cell 13 _ rfl, u3.cell 14 _ rfl]
  refine FN.mono (is_c (ptr t) W) ?_
  rintro _ w2 ⟨rfl, hE2⟩
  simp
  refine KR_ext hE2 ?_
  simp
  refine FN.mono (right_c r 4 w2) ?_
  rintro _ w3 ⟨c1, c2, rfl, hc1, hc2, hE3⟩
  simp
  refine KR_ext hE3 ?_
  have he13 := hWE.trans (hE2.trans hE3)
  let qs : List Qn := [⟨.func (.func 36) #[ptr t] #[], 1, false⟩, ⟨.func (.func 65) #[] #[ptr c1, ptr c2], 2, decide (¬ r.kind = 4) || decide (¬ foreE r = 0)⟩,
    ⟨.func (.func 33) #[] #[ptr (w.heap.size + 1)], 2, decide (r.fro = r.til)⟩, ⟨.func (.func 34) #[] #[ptr w.heap.size, ptr (w.heap.size + 1 + 1)], 330, fullB b.F (r.node, r.fro)⟩]
  have hsl := Sl.made w3 (askCells qs) 74 2 4 rfl
  have he4 := (Ext.refl w3).alloc (.cells (askCells qs).toArray 74)
  have he14 := he13.trans he4
  simp
  refine FN.mono (asked_c qs hsl (by simp [qs]) ?_ ?_) ?_
  · intro q hq
    simp [qs] at hq
    rcases hq with rfl | rfl | rfl | rfl <;> exact ⟨_, _, _, rfl⟩
  · intro i q hiq hno w' hw'
    have hx := he14.trans hw'
    match i, hiq with
    | 0, hiq =>
      simp [qs] at hiq; subst hiq
      exact FN.mono (none_c (h1.ext hx)) fun _ _ h => ⟨h.1, h.2 ▸ Ext.refl _⟩
    | 1, hiq =>
      simp only [qs, List.getElem?_cons_succ, List.getElem?_cons_zero, Option.some.injEq] at hiq; subst hiq
      exact right1_c (hc1.ext (he4.trans hw')) (hc2.ext (he4.trans hw')) fun hk w => check_fore hr hk w
    | 2, hiq =>
      simp [qs] at hiq; subst hiq
      exact FN.mono (fore1_c (v3.ext hx)) fun _ _ h => ⟨h.1, h.2 ▸ Ext.refl _⟩
    | 3, hiq =>
      simp [qs] at hiq; subst hiq
      exact fore2_c (v2.var.ext hx) (v5.ext hx) (h1.ext hx)
    | i + 4, hiq => simp [qs] at hiq
  · rintro _ w4 ⟨rfl, h2⟩
    have hE : askE qs = foreR b r := by
      simp [qs, askE, foreR]
    rw [hE]
    have hx := he14.trans h2
    have hX := hE1.trans hx
    have h4 := h1.ext hx
    have x2 := v2.ext hx
    have x3 := v3.ext hx
    have x5 := v5.ext hx
    by_cases h0 : foreR b r = 0
    · have hB : foreBd b r = { b with F := mset b.F (r.node, r.fro) (r.til, r.lev) } := by simp [foreBd, h0]
      rw [hB]
      simp [h0]
      refine WC_drawC 10 (.F 0 <| .F 1 <| .F 2 <| .F 3 <| .F 4 <| .F 5 <| .F 6 <| .F 7 <| .F 8 <| .F 9 <| .Z) (fun _ => false) rfl (by kernel_rfl) fun W5 hW5 => ?_
      have hE5 : Ext w4 W5 := hW5 ▸ Ext.drew w4
      have h5 := h4.ext hE5
      have y2 := x2.ext hE5
      have y3 := x3.ext hE5
      have y5 := x5.ext hE5
      obtain ⟨W8, hu8, hm8, hM8, hsz8⟩ := h5.mF.update (P := Tryz.prog) kKey tmFs (r.node, r.fro) (r.til, r.lev)
      simp only [ekK, keyC, ewF, foreVC] at hu8
      simp [y2.cell 0 _ rfl, h5.blk.cell 0 _ rfl, y5.cell 0 _ rfl, y5.cell 1 _ rfl, y3.cell 13 _ rfl, y3.cell 14 _ rfl, hu8]
      refine ⟨⟨h5.blk.mod hM8 (blk_map h5.blk h5.mF), hm8, h5.mQ.mod hM8 (fun e => h.fq e.symm), h5.mA.mod hM8 (fun e => h.fa e.symm), h.fq, h.fa, h.qa⟩, ?_⟩
      exact (hX.trans hE5).mod.trans hM8
    · have hb : (foreR b r == 0) = false := by simpa using h0
      have hB : foreBd b r = b := by simp [foreBd, h0]
      rw [hB]
      simp [hb]
      exact ⟨h4, hX.mod⟩
end Go.Proofs
namespace Go.Proofs
open Pk
set_option maxRecDepth 10000
/-! ### maps.DeleteFunc, of keys and values of more than one cell -/
set_option maxHeartbeats 1000000 in
theorem qdel_c {w : World} {r : Nat} {m : List (PK × PK)} {f : Value} {old : PK × PK → Bool} (h : MapAt ekP ewQ w r m) (hf : ∃ a b c, f = .func a b c)
    (hold : ∀ w' x, x ∈ m → Mod (fun k => k = r) w w' → CV Tryz.prog f [ekP (Prod.fst x), ewQ (Prod.snd x)] w' fun e w'' => e = .returned (.bool (old x)) ∧ Ext w' w'') :
    FN Tryz.prog 70 [.map (some r), f] w fun e w' => (∃ u, e = .returned u) ∧ MapAt ekP ewQ w' r (m.filter fun x => !old x) ∧ Mod (fun k => k = r) w w' := by
  refine FN_enter Tryz.func70 rfl rfl (by kernel_rfl) ?_
  obtain ⟨fa, fb, fc, rfl⟩ := hf
  obtain ⟨o, hr, hi⟩ := h.range (P := Tryz.prog) tmQ
  simp [hr]
  have he := (Ext.refl w).alloc o
  obtain ⟨b, hb⟩ : ∃ b, b = w.heap.size := ⟨_, rfl⟩
  have hd := hi.toD h.nodup
  have hlt := h.lt
  rw [← hb] at hd ⊢
  generalize (w.alloc o) = w2 at *
  refine WC_loop (fun k ρ ds w' => ∃ (vis : List PK) (cur : List (PK × PK)), k + vis.length = m.length ∧ ρ 0 = .map (some r) ∧ ρ 1 = .func fa fb fc ∧ ρ 7 = ptr b ∧ ds = [] ∧ DIter ekP ewQ w' b r cur vis ∧ Mod (fun k => k = r) w w' ∧
    vis.Nodup ∧ Within vis (m.map (·.1)) ∧ cur = m.filter (fun x => !(decide (Prod.fst x ∈ vis) && old x))) m.length ⟨[], m, by simp, by simp, by simp, by simp, rfl, hd, he.mod, by simp, (by intro x hx; cases hx), (List.filter_eq_self.2 (by simp)).symm⟩ ?_
  rintro k ρ ds w3 ⟨vis, cur, hk, e0, e1, e7, rfl, hI, hM, hvn, hvs, hcur⟩
  rcases hI.next (P := Tryz.prog) 0 with ⟨hall, hrun⟩ | ⟨x, w4, hx, hxv, hrun, hI4, hM4, hent, hs4⟩
  · simp [e7, hrun]
    have he : m.filter (fun x => !old x) = cur := by
      rw [hcur]
      refine List.filter_congr fun x hx => ?_
      cases ho : old x with
      | false => simp
      | true =>
        by_cases hv : Prod.fst x ∈ vis
        · simp [hv]
        · have hc : x ∈ cur := by rw [hcur]; exact List.mem_filter.2 ⟨hx, by simp [hv]⟩
          exact absurd (hall x hc) hv
    rw [he]
    exact ⟨hI.map, hM⟩
  · have hM' := hM.trans' hM4 fun i hi => .inr (by omega)
    obtain ⟨⟨k1, k2⟩, v1, v2⟩ := x
    simp only at hrun hent hxv hI4
    simp [ekP, ewQ, pairC, quesC] at hrun hent
    simp [e7, hrun, hent]
    have hE5 : Ext w4 ((w4.alloc (.cells #[u32 k1, u32 k2] 71)).alloc (.cells #[u32 v1, u64 v2] 77)) := ((Ext.refl _).alloc _).alloc _
    have bk : Blk ((w4.alloc (.cells #[u32 k1, u32 k2] 71)).alloc (.cells #[u32 v1, u64 v2] 77)) w4.heap.size [u32 k1, u32 k2] := (Blk.new w4 _ _).ext ((Ext.refl _).alloc _)
    have bv : Blk ((w4.alloc (.cells #[u32 k1, u32 k2] 71)).alloc (.cells #[u32 v1, u64 v2] 77)) (w4.heap.size + 1) [u32 v1, u64 v2] := by
      have := Blk.new (w4.alloc (.cells #[u32 k1, u32 k2] 71)) [u32 v1, u64 v2] 77
      simpa using this
    have hI5 := hI4.ext hE5
    have hM5 := hM'.trans hE5.mod
    generalize ((w4.alloc (.cells #[u32 k1, u32 k2] 71)).alloc (.cells #[u32 v1, u64 v2] 77)) = w5 at *
    have hxm : ((k1, k2), (v1, v2)) ∈ m := by rw [hcur] at hx; exact (List.mem_filter.1 hx).1
    have hcall := hold w5 ((k1, k2), (v1, v2)) hxm hM5
    simp only [ekP, ewQ, pairC, quesC] at hcall
    simp [e1]
    refine CV.mono hcall ?_
    rintro _ w6 ⟨rfl, hE6⟩
    have hI6 := hI5.ext hE6
    have hM6 := hM5.trans hE6.mod
    have hvs' : Within ((k1, k2) :: vis) (m.map (·.1)) := fun y hy => by
      rcases List.mem_cons.1 hy with rfl | hy
      · exact List.mem_map.2 ⟨_, hxm, rfl⟩
      · exact hvs y hy
    have hvn' : ((k1, k2) :: vis).Nodup := List.nodup_cons.2 ⟨hxv, hvn⟩
    have hle := nodup_sub_le _ _ hvn' hvs'
    simp only [List.length_map, List.length_cons] at hle
    cases ho : old ((k1, k2), (v1, v2)) with
    | false =>
      simp [e0, e1, e7]
      refine ⟨k - 1, by omega, (k1, k2) :: vis, by simp; omega, _, hI6, hM6, hvn', hvs', ?_⟩
      rw [hcur]
      refine List.filter_congr fun y hy => ?_
      by_cases hyk : Prod.fst y = (k1, k2)
      · have : y = ((k1, k2), (v1, v2)) := by
          have h1 := kget_iff h.nodup (k := Prod.fst y) (v := Prod.snd y) |>.2 hy
          have h2 := kget_iff h.nodup (k := (k1, k2)) (v := (v1, v2)) |>.2 hxm
          rw [hyk, h2] at h1
          exact Prod.ext hyk (Option.some.inj h1).symm
        subst this
        simp [ho]
      · simp [List.mem_cons, hyk]
    | true =>
      have bk6 := bk.ext hE6
      obtain ⟨w7, hu, hI7, hM7, hs7⟩ := hI6.delete (P := Tryz.prog) kPair tmQ (k1, k2) 71 0
      simp only [ekP, pairC] at hu
      simp [e0, e1, e7, bk6.cell 0 _ rfl, bk6.cell 1 _ rfl, hu]
      refine ⟨k - 1, by omega, (k1, k2) :: vis, by simp; omega, _, hI7, hM6.trans hM7, hvn', hvs', ?_⟩
      rw [hcur]
      unfold mdel
      rw [List.filter_filter]
      refine List.filter_congr fun y hy => ?_
      by_cases hyk : Prod.fst y = (k1, k2)
      · have : y = ((k1, k2), (v1, v2)) := by
          have h1 := kget_iff h.nodup (k := Prod.fst y) (v := Prod.snd y) |>.2 hy
          have h2 := kget_iff h.nodup (k := (k1, k2)) (v := (v1, v2)) |>.2 hxm
          rw [hyk, h2] at h1
          exact Prod.ext hyk (Option.some.inj h1).symm
        subst this
        simp [ho]
      · simp [List.mem_cons, hyk]
/-- How many went. -/
theorem qprn_c {w : World} {r : Nat} {m : List (PK × PK)} {f : Value} {old : PK × PK → Bool} (h : MapAt ekP ewQ w r m) (hl : m.length ≤ 100000) (hf : ∃ a b c, f = .func a b c)
    (hold : ∀ w' x, x ∈ m → Mod (fun k => k = r) w w' → CV Tryz.prog f [ekP (Prod.fst x), ewQ (Prod.snd x)] w' fun e w'' => e = .returned (.bool (old x)) ∧ Ext w' w'') :
    FN Tryz.prog 39 [.map (some r), f] w fun e w' => e = .returned (i64 (m.length - (m.filter fun x => !old x).length)) ∧ MapAt ekP ewQ w' r (m.filter fun x => !old x) ∧ Mod (fun k => k = r) w w' := by
  refine FN_enter Tryz.func39 rfl rfl (by kernel_rfl) ?_
  have hn := h.len (P := Tryz.prog) (T := 67) (by simp) 3
  simp [hn]
  refine FN.mono (qdel_c h hf hold) ?_
  rintro _ w2 ⟨⟨u, rfl⟩, hm, hM⟩
  have hn2 := hm.len (P := Tryz.prog) (T := 67) (by simp) 3
  simp [hn2]
  have hle := List.length_filter_le (fun x => !old x) m
  rw [wrap64 _ (by omega) (by omega)]
  exact ⟨rfl, hm, hM⟩
/-! ### maps.DeleteFunc, of keys and values of more than one cell -/
set_option maxHeartbeats 1000000 in
theorem adel_c {w : World} {r : Nat} {m : List (PK × (Bool × Int))} {f : Value} {old : PK × (Bool × Int) → Bool} (h : MapAt ekP ewA w r m) (hf : ∃ a b c, f = .func a b c)
    (hold : ∀ w' x, x ∈ m → Mod (fun k => k = r) w w' → CV Tryz.prog f [ekP (Prod.fst x), ewA (Prod.snd x)] w' fun e w'' => e = .returned (.bool (old x)) ∧ Ext w' w'') :
    FN Tryz.prog 74 [.map (some r), f] w fun e w' => (∃ u, e = .returned u) ∧ MapAt ekP ewA w' r (m.filter fun x => !old x) ∧ Mod (fun k => k = r) w w' := by
  refine FN_enter Tryz.func74 rfl rfl (by kernel_rfl) ?_
  obtain ⟨fa, fb, fc, rfl⟩ := hf
  obtain ⟨o, hr, hi⟩ := h.range (P := Tryz.prog) tmA
  simp [hr]
  have he := (Ext.refl w).alloc o
  obtain ⟨b, hb⟩ : ∃ b, b = w.heap.size := ⟨_, rfl⟩
  have hd := hi.toD h.nodup
  have hlt := h.lt
  rw [← hb] at hd ⊢
  generalize (w.alloc o) = w2 at *
  refine WC_loop (fun k ρ ds w' => ∃ (vis : List PK) (cur : List (PK × (Bool × Int))), k + vis.length = m.length ∧ ρ 0 = .map (some r) ∧ ρ 1 = .func fa fb fc ∧ ρ 7 = ptr b ∧ ds = [] ∧ DIter ekP ewA w' b r cur vis ∧ Mod (fun k => k = r) w w' ∧
    vis.Nodup ∧ Within vis (m.map (·.1)) ∧ cur = m.filter (fun x => !(decide (Prod.fst x ∈ vis) && old x))) m.length ⟨[], m, by simp, by simp, by simp, by simp, rfl, hd, he.mod, by simp, (by intro x hx; cases hx), (List.filter_eq_self.2 (by simp)).symm⟩ ?_
  rintro k ρ ds w3 ⟨vis, cur, hk, e0, e1, e7, rfl, hI, hM, hvn, hvs, hcur⟩
  rcases hI.next (P := Tryz.prog) 0 with ⟨hall, hrun⟩ | ⟨x, w4, hx, hxv, hrun, hI4, hM4, hent, hs4⟩
  · simp [e7, hrun]
    have he : m.filter (fun x => !old x) = cur := by
      rw [hcur]
      refine List.filter_congr fun x hx => ?_
      cases ho : old x with
      | false => simp
      | true =>
        by_cases hv : Prod.fst x ∈ vis
        · simp [hv]
        · have hc : x ∈ cur := by rw [hcur]; exact List.mem_filter.2 ⟨hx, by simp [hv]⟩
          exact absurd (hall x hc) hv
    rw [he]
    exact ⟨hI.map, hM⟩
  · have hM' := hM.trans' hM4 fun i hi => .inr (by omega)
    obtain ⟨⟨k1, k2⟩, v1, v2⟩ := x
    simp only at hrun hent hxv hI4
    simp [ekP, ewA, pairC, ansC] at hrun hent
    simp [e7, hrun, hent]
    have hE5 : Ext w4 ((w4.alloc (.cells #[u32 k1, u32 k2] 71)).alloc (.cells #[.bool v1, u64 v2] 82)) := ((Ext.refl _).alloc _).alloc _
    have bk : Blk ((w4.alloc (.cells #[u32 k1, u32 k2] 71)).alloc (.cells #[.bool v1, u64 v2] 82)) w4.heap.size [u32 k1, u32 k2] := (Blk.new w4 _ _).ext ((Ext.refl _).alloc _)
    have bv : Blk ((w4.alloc (.cells #[u32 k1, u32 k2] 71)).alloc (.cells #[.bool v1, u64 v2] 82)) (w4.heap.size + 1) [.bool v1, u64 v2] := by
      have := Blk.new (w4.alloc (.cells #[u32 k1, u32 k2] 71)) [.bool v1, u64 v2] 82
      simpa using this
    have hI5 := hI4.ext hE5
    have hM5 := hM'.trans hE5.mod
    generalize ((w4.alloc (.cells #[u32 k1, u32 k2] 71)).alloc (.cells #[.bool v1, u64 v2] 82)) = w5 at *
    have hxm : ((k1, k2), (v1, v2)) ∈ m := by rw [hcur] at hx; exact (List.mem_filter.1 hx).1
    have hcall := hold w5 ((k1, k2), (v1, v2)) hxm hM5
    simp only [ekP, ewA, pairC, ansC] at hcall
    simp [e1]
    refine CV.mono hcall ?_
    rintro _ w6 ⟨rfl, hE6⟩
    have hI6 := hI5.ext hE6
    have hM6 := hM5.trans hE6.mod
    have hvs' : Within ((k1, k2) :: vis) (m.map (·.1)) := fun y hy => by
      rcases List.mem_cons.1 hy with rfl | hy
      · exact List.mem_map.2 ⟨_, hxm, rfl⟩
      · exact hvs y hy
    have hvn' : ((k1, k2) :: vis).Nodup := List.nodup_cons.2 ⟨hxv, hvn⟩
    have hle := nodup_sub_le _ _ hvn' hvs'
    simp only [List.length_map, List.length_cons] at hle
    cases ho : old ((k1, k2), (v1, v2)) with
    | false =>
      simp [e0, e1, e7]
      refine ⟨k - 1, by omega, (k1, k2) :: vis, by simp; omega, _, hI6, hM6, hvn', hvs', ?_⟩
      rw [hcur]
      refine List.filter_congr fun y hy => ?_
      by_cases hyk : Prod.fst y = (k1, k2)
      · have : y = ((k1, k2), (v1, v2)) := by
          have h1 := kget_iff h.nodup (k := Prod.fst y) (v := Prod.snd y) |>.2 hy
          have h2 := kget_iff h.nodup (k := (k1, k2)) (v := (v1, v2)) |>.2 hxm
          rw [hyk, h2] at h1
          exact Prod.ext hyk (Option.some.inj h1).symm
        subst this
        simp [ho]
      · simp [List.mem_cons, hyk]
    | true =>
      have bk6 := bk.ext hE6
      obtain ⟨w7, hu, hI7, hM7, hs7⟩ := hI6.delete (P := Tryz.prog) kPair tmA (k1, k2) 71 0
      simp only [ekP, pairC] at hu
      simp [e0, e1, e7, bk6.cell 0 _ rfl, bk6.cell 1 _ rfl, hu]
      refine ⟨k - 1, by omega, (k1, k2) :: vis, by simp; omega, _, hI7, hM6.trans hM7, hvn', hvs', ?_⟩
      rw [hcur]
      unfold mdel
      rw [List.filter_filter]
      refine List.filter_congr fun y hy => ?_
      by_cases hyk : Prod.fst y = (k1, k2)
      · have : y = ((k1, k2), (v1, v2)) := by
          have h1 := kget_iff h.nodup (k := Prod.fst y) (v := Prod.snd y) |>.2 hy
          have h2 := kget_iff h.nodup (k := (k1, k2)) (v := (v1, v2)) |>.2 hxm
          rw [hyk, h2] at h1
          exact Prod.ext hyk (Option.some.inj h1).symm
        subst this
        simp [ho]
      · simp [List.mem_cons, hyk]
/-- How many went. -/
theorem aprn_c {w : World} {r : Nat} {m : List (PK × (Bool × Int))} {f : Value} {old : PK × (Bool × Int) → Bool} (h : MapAt ekP ewA w r m) (hl : m.length ≤ 100000) (hf : ∃ a b c, f = .func a b c)
    (hold : ∀ w' x, x ∈ m → Mod (fun k => k = r) w w' → CV Tryz.prog f [ekP (Prod.fst x), ewA (Prod.snd x)] w' fun e w'' => e = .returned (.bool (old x)) ∧ Ext w' w'') :
    FN Tryz.prog 42 [.map (some r), f] w fun e w' => e = .returned (i64 (m.length - (m.filter fun x => !old x).length)) ∧ MapAt ekP ewA w' r (m.filter fun x => !old x) ∧ Mod (fun k => k = r) w w' := by
  refine FN_enter Tryz.func42 rfl rfl (by kernel_rfl) ?_
  have hn := h.len (P := Tryz.prog) (T := 68) (by simp) 3
  simp [hn]
  refine FN.mono (adel_c h hf hold) ?_
  rintro _ w2 ⟨⟨u, rfl⟩, hm, hM⟩
  have hn2 := hm.len (P := Tryz.prog) (T := 68) (by simp) 3
  simp [hn2]
  have hle := List.length_filter_le (fun x => !old x) m
  rw [wrap64 _ (by omega) (by omega)]
  exact ⟨rfl, hm, hM⟩
/-! ### maps.DeleteFunc, of keys and values of more than one cell -/
set_option maxHeartbeats 1000000 in
theorem fdel_c {w : World} {r : Nat} {m : List (PK × PK)} {f : Value} {old : PK × PK → Bool} (h : MapAt ekK ewF w r m) (hf : ∃ a b c, f = .func a b c)
    (hold : ∀ w' x, x ∈ m → Mod (fun k => k = r) w w' → CV Tryz.prog f [ekK (Prod.fst x), ewF (Prod.snd x)] w' fun e w'' => e = .returned (.bool (old x)) ∧ Ext w' w'') :
    FN Tryz.prog 75 [.map (some r), f] w fun e w' => (∃ u, e = .returned u) ∧ MapAt ekK ewF w' r (m.filter fun x => !old x) ∧ Mod (fun k => k = r) w w' := by
  refine FN_enter Tryz.func75 rfl rfl (by kernel_rfl) ?_
  obtain ⟨fa, fb, fc, rfl⟩ := hf
  obtain ⟨o, hr, hi⟩ := h.range (P := Tryz.prog) tmF
  simp [hr]
  have he := (Ext.refl w).alloc o
  obtain ⟨b, hb⟩ : ∃ b, b = w.heap.size := ⟨_, rfl⟩
  have hd := hi.toD h.nodup
  have hlt := h.lt
  rw [← hb] at hd ⊢
  generalize (w.alloc o) = w2 at *
  refine WC_loop (fun k ρ ds w' => ∃ (vis : List PK) (cur : List (PK × PK)), k + vis.length = m.length ∧ ρ 0 = .map (some r) ∧ ρ 1 = .func fa fb fc ∧ ρ 7 = ptr b ∧ ds = [] ∧ DIter ekK ewF w' b r cur vis ∧ Mod (fun k => k = r) w w' ∧
    vis.Nodup ∧ Within vis (m.map (·.1)) ∧ cur = m.filter (fun x => !(decide (Prod.fst x ∈ vis) && old x))) m.length ⟨[], m, by simp, by simp, by simp, by simp, rfl, hd, he.mod, by simp, (by intro x hx; cases hx), (List.filter_eq_self.2 (by simp)).symm⟩ ?_
  rintro k ρ ds w3 ⟨vis, cur, hk, e0, e1, e7, rfl, hI, hM, hvn, hvs, hcur⟩
  rcases hI.next (P := Tryz.prog) 0 with ⟨hall, hrun⟩ | ⟨x, w4, hx, hxv, hrun, hI4, hM4, hent, hs4⟩
  · simp [e7, hrun]
    have he : m.filter (fun x => !old x) = cur := by
      rw [hcur]
      refine List.filter_congr fun x hx => ?_
      cases ho : old x with
      | false => simp
      | true =>
        by_cases hv : Prod.fst x ∈ vis
        · simp [hv]
        · have hc : x ∈ cur := by rw [hcur]; exact List.mem_filter.2 ⟨hx, by simp [hv]⟩
          exact absurd (hall x hc) hv
    rw [he]
    exact ⟨hI.map, hM⟩
  · have hM' := hM.trans' hM4 fun i hi => .inr (by omega)
    obtain ⟨⟨k1, k2⟩, v1, v2⟩ := x
    simp only at hrun hent hxv hI4
    simp [ekK, ewF, keyC, foreVC] at hrun hent
    simp [e7, hrun, hent]
    have hE5 : Ext w4 ((w4.alloc (.cells #[u32 k1, u64 k2] 84)).alloc (.cells #[u64 v1, u8 v2] 87)) := ((Ext.refl _).alloc _).alloc _
    have bk : Blk ((w4.alloc (.cells #[u32 k1, u64 k2] 84)).alloc (.cells #[u64 v1, u8 v2] 87)) w4.heap.size [u32 k1, u64 k2] := (Blk.new w4 _ _).ext ((Ext.refl _).alloc _)
    have bv : Blk ((w4.alloc (.cells #[u32 k1, u64 k2] 84)).alloc (.cells #[u64 v1, u8 v2] 87)) (w4.heap.size + 1) [u64 v1, u8 v2] := by
      have := Blk.new (w4.alloc (.cells #[u32 k1, u64 k2] 84)) [u64 v1, u8 v2] 87
      simpa using this
    have hI5 := hI4.ext hE5
    have hM5 := hM'.trans hE5.mod
    generalize ((w4.alloc (.cells #[u32 k1, u64 k2] 84)).alloc (.cells #[u64 v1, u8 v2] 87)) = w5 at *
    have hxm : ((k1, k2), (v1, v2)) ∈ m := by rw [hcur] at hx; exact (List.mem_filter.1 hx).1
    have hcall := hold w5 ((k1, k2), (v1, v2)) hxm hM5
    simp only [ekK, ewF, keyC, foreVC] at hcall
    simp [e1]
    refine CV.mono hcall ?_
    rintro _ w6 ⟨rfl, hE6⟩
    have hI6 := hI5.ext hE6
    have hM6 := hM5.trans hE6.mod
    have hvs' : Within ((k1, k2) :: vis) (m.map (·.1)) := fun y hy => by
      rcases List.mem_cons.1 hy with rfl | hy
      · exact List.mem_map.2 ⟨_, hxm, rfl⟩
      · exact hvs y hy
    have hvn' : ((k1, k2) :: vis).Nodup := List.nodup_cons.2 ⟨hxv, hvn⟩
    have hle := nodup_sub_le _ _ hvn' hvs'
    simp only [List.length_map, List.length_cons] at hle
    cases ho : old ((k1, k2), (v1, v2)) with
    | false =>
      simp [e0, e1, e7]
      refine ⟨k - 1, by omega, (k1, k2) :: vis, by simp; omega, _, hI6, hM6, hvn', hvs', ?_⟩
      rw [hcur]
      refine List.filter_congr fun y hy => ?_
      by_cases hyk : Prod.fst y = (k1, k2)
      · have : y = ((k1, k2), (v1, v2)) := by
          have h1 := kget_iff h.nodup (k := Prod.fst y) (v := Prod.snd y) |>.2 hy
          have h2 := kget_iff h.nodup (k := (k1, k2)) (v := (v1, v2)) |>.2 hxm
          rw [hyk, h2] at h1
          exact Prod.ext hyk (Option.some.inj h1).symm
        subst this
        simp [ho]
      · simp [List.mem_cons, hyk]
    | true =>
      have bk6 := bk.ext hE6
      obtain ⟨w7, hu, hI7, hM7, hs7⟩ := hI6.delete (P := Tryz.prog) kKey tmF (k1, k2) 84 0
      simp only [ekK, keyC] at hu
      simp [e0, e1, e7, bk6.cell 0 _ rfl, bk6.cell 1 _ rfl, hu]
      refine ⟨k - 1, by omega, (k1, k2) :: vis, by simp; omega, _, hI7, hM6.trans hM7, hvn', hvs', ?_⟩
      rw [hcur]
      unfold mdel
      rw [List.filter_filter]
      refine List.filter_congr fun y hy => ?_
      by_cases hyk : Prod.fst y = (k1, k2)
      · have : y = ((k1, k2), (v1, v2)) := by
          have h1 := kget_iff h.nodup (k := Prod.fst y) (v := Prod.snd y) |>.2 hy
          have h2 := kget_iff h.nodup (k := (k1, k2)) (v := (v1, v2)) |>.2 hxm
          rw [hyk, h2] at h1
          exact Prod.ext hyk (Option.some.inj h1).symm
        subst this
        simp [ho]
      · simp [List.mem_cons, hyk]
/-- How many went. -/
theorem fprn_c {w : World} {r : Nat} {m : List (PK × PK)} {f : Value} {old : PK × PK → Bool} (h : MapAt ekK ewF w r m) (hl : m.length ≤ 100000) (hf : ∃ a b c, f = .func a b c)
    (hold : ∀ w' x, x ∈ m → Mod (fun k => k = r) w w' → CV Tryz.prog f [ekK (Prod.fst x), ewF (Prod.snd x)] w' fun e w'' => e = .returned (.bool (old x)) ∧ Ext w' w'') :
    FN Tryz.prog 44 [.map (some r), f] w fun e w' => e = .returned (i64 (m.length - (m.filter fun x => !old x).length)) ∧ MapAt ekK ewF w' r (m.filter fun x => !old x) ∧ Mod (fun k => k = r) w w' := by
  refine FN_enter Tryz.func44 rfl rfl (by kernel_rfl) ?_
  have hn := h.len (P := Tryz.prog) (T := 65) (by simp) 3
  simp [hn]
  refine FN.mono (fdel_c h hf hold) ?_
  rintro _ w2 ⟨⟨u, rfl⟩, hm, hM⟩
  have hn2 := hm.len (P := Tryz.prog) (T := 65) (by simp) 3
  simp [hn2]
  have hle := List.length_filter_le (fun x => !old x) m
  rw [wrap64 _ (by omega) (by omega)]
  exact ⟨rfl, hm, hM⟩
end Go.Proofs
namespace Go.Proofs
open Pk
set_option maxRecDepth 10000
/-! ### Times -/
def top (n : Int) : Int := min n 4611686018427387903
def addT (a b : Int) : Int := top (top a + top b)
theorem top_le (n : Int) : top n ≤ 4611686018427387903 := by unfold top; omega
theorem top_0 {n : Int} (h : 0 ≤ n) : 0 ≤ top n := by unfold top; omega
theorem top_c (n : Int) (w : World) : FN Tryz.prog 72 [u64 n] w fun e w' => e = .returned (u64 (top n)) ∧ w' = w := by
  refine FN_enter Tryz.func72 rfl rfl (by kernel_rfl) ?_
  simp [top]
/-! ### Rows of times -/
theorem sclone_c {w : World} {v : Value} {xs : List Int} (h : Sl w 1 v xs.length (xs.map u64)) (hn : slN v = false) (hb : xs.length ≤ 1048576) :
    FN Tryz.prog 92 [v] w fun e w' => ∃ v', e = .returned v' ∧ w'.ownsRow w.heap.size 27 1 v' xs.length (xs.map u64) ∧ Ext w w' := by
  refine FN_enter Tryz.func92 rfl rfl (by kernel_rfl) ?_
  have hnl := h.isNil (P := Tryz.prog) (t := 120) (by simp) w
  rw [hn] at hnl
  simp [hnl]
  have hO := (Ch.start (base := w.heap.size) (e := 27) (s := 1) (Z := []) w (Nat.le_refl _)).1
  have hE := (Ext.refl w).alloc (.cells #[] 27)
  obtain ⟨v', w2, hr, ho, hM, -⟩ := append_own (P := Tryz.prog) (t := 120) (ty := 120) (e := 27) (s := 1) (by simp) (by simp) (by kernel_rfl) hO (h.ext hE) (by intro u hu; rw [List.mem_map] at hu; obtain ⟨x, _, rfl⟩ := hu; rfl) (by omega) (by simp)
  simp [hr]
  simp at ho
  refine ⟨ho, ?_⟩
  exact ((hE.mod (S := fun k => w.heap.size ≤ k)).trans (hM.weaken fun i hi => by have := hi.2; simp only [slB] at this; omega)).ext fun _ h => h
theorem own_cell {w : World} {base e : Nat} {v : Value} {n : Nat} {xs : List Value} (h : w.ownsRow base e 1 v n xs) (j : Nat) (u : Value) (hj : xs[j]? = some u) : w.cell? ⟨slB v, j, none⟩ = some u := by
  have := (sl_of_own h).at_ j u hj
  rw [own_off h, Nat.zero_add] at this
  exact this
theorem own_set1 {w : World} {base e : Nat} {v : Value} {n : Nat} {xs : List Value} (h : w.ownsRow base e 1 v n xs) (j : Nat) (hj : j < xs.length) (u : Value) : (w.setCell ⟨slB v, j, none⟩ u).ownsRow base e 1 v n (xs.set j u) := by
  have := own_set h j hj u
  rwa [own_off h, Nat.zero_add] at this
theorem times_c {w : World} {v : Value} {xs : List Int} (h : Sl w 1 v xs.length (xs.map u64)) (hn : slN v = false) (hb : xs.length ≤ 1048576) :
    FN Tryz.prog 73 [v] w fun e w' => ∃ v', e = .returned v' ∧ w'.ownsRow w.heap.size 27 1 v' xs.length ((xs.map top).map u64) ∧ Ext w w' := by
  refine FN_enter Tryz.func73 rfl rfl (by kernel_rfl) ?_
  simp
  refine FN.mono (sclone_c h hn hb) ?_
  rintro _ w1 ⟨v', rfl, ho, hE⟩
  have hlen := fun ty W => (sl_of_own ho).isLen (P := Tryz.prog) (t := 120) (by simp) ty W
  simp [hlen]
  refine WC_loop (fun k ρ ds w' => ∃ i : Nat, k = xs.length - i ∧ i ≤ xs.length ∧ ρ 3 = v' ∧ ρ 8 = v' ∧ ρ 9 = .int .i64 xs.length ∧ ρ 10 = .int .i64 i ∧ ds = [] ∧ Ext w w' ∧ w'.ownsRow w.heap.size 27 1 v' xs.length ((((xs.take i).map top) ++ xs.drop i).map u64)) xs.length ⟨0, by simp [hE]; simpa using ho⟩ ?_
  rintro k ρ ds w2 ⟨i, rfl, hi, e3, e8, e9, e10, rfl, hE2, ho2⟩
  by_cases hlt : i < xs.length
  · have ht := List.length_take_of_le hi
    have hc : ((((xs.take i).map top) ++ xs.drop i).map u64)[i]? = some (u64 xs[i]) := by
      rw [List.getElem?_map, List.getElem?_append_right (by rw [List.length_map, ht]; exact Nat.le_refl _), List.length_map, ht, Nat.sub_self, List.getElem?_drop, Nat.add_zero, List.getElem?_eq_getElem hlt]
      rfl
    have d := own_cell ho2 i _ hc
    have ix := (sl_of_own ho2).index (P := Tryz.prog) (t := 120) (by simp) .i64 i (by omega) (by omega) w2
    have hoff := own_off ho2
    have hth := own_thaw ho2 (by omega) i
    simp [e3, e8, e9, e10, hlt, ix, hoff, d]
    refine FN.mono (top_c xs[i] w2) ?_
    rintro _ _ ⟨rfl, rfl⟩
    rename_i w2
    simp [e3, e8, e9, e10, ix, hoff, d, hth]
    have hge := own_ge ho2 (own_nil ho2 (by omega))
    refine ⟨xs.length - (i + 1), by omega, i + 1, rfl, by omega, by rw [wrap64 _ (by omega) (by omega)]; rfl, hE2.setCell _ _ hge, ?_⟩
    have := own_set1 ho2 i (by simp; omega) (u64 (top xs[i]))
    have e : ((((xs.take i).map top) ++ xs.drop i).map u64).set i (u64 (top xs[i])) = ((((xs.take (i + 1)).map top) ++ xs.drop (i + 1)).map u64) := by
      rw [List.map_append, List.set_append_right _ _ (by simp; omega)]
      simp only [List.length_map, ht, Nat.sub_self]
      rw [List.drop_eq_getElem_cons hlt, List.map_cons, List.set_cons_zero, List.take_add_one, List.getElem?_eq_getElem hlt, Option.toList_some, List.map_append, List.map_append, List.map_append, List.append_assoc]
      rfl
    rw [e] at this
    simpa using this
  · have : i = xs.length := by omega
    subst this
    simp [e3, e9, e10]
    refine ⟨?_, hE2⟩
    simpa using ho2
theorem put_c {w : World} {b : Nat} {n x : Int} (hv : Var w b (u64 n)) (h0 : 0 ≤ n) (h1 : n ≤ 4611686018427387903) (h2 : 0 ≤ x) (h3 : x ≤ 4611686018427387903) : FN Tryz.prog 71 [u64 x, ptr b] w fun e w' => (∃ u, e = .returned u) ∧ w' = w.setCell ⟨b, 0, none⟩ (u64 (top (n + x))) := by
  refine FN_enter Tryz.func71 rfl rfl (by kernel_rfl) ?_
  simp [hv.cell]
  rw [wrap64u _ (by omega) (by omega)]
  refine FN.mono (top_c (n + x) w) ?_
  rintro _ _ ⟨rfl, rfl⟩
  simp [hv.cell, hv.thaw]
theorem add_c (a b : Int) (ha : 0 ≤ a) (hb : 0 ≤ b) (w : World) : FN Tryz.prog 41 [u64 a, u64 b] w fun e w' => e = .returned (u64 (addT a b)) ∧ Ext w w' := by
  refine FN_enter Tryz.func41 rfl rfl (by kernel_rfl) ?_
  simp
  have h1 := (Ext.refl w).alloc (.cells #[u64 0] 27)
  have v0 := Var.new w (u64 0) 27
  have hsz : (w.alloc (.cells #[u64 0] 27)).heap.size = w.heap.size + 1 := by simp
  generalize (w.alloc (.cells #[u64 0] 27)) = w1 at *
  have hs := Sl.made w1 [u64 a, u64 b] 27 1 2 rfl
  rw [hsz] at hs
  have h2 := h1.trans ((Ext.refl w1).alloc (.cells #[u64 a, u64 b] 27))
  have v1 := v0.ext ((Ext.refl w1).alloc (.cells #[u64 a, u64 b] 27))
  refine FN.mono (times_c (xs := [a, b]) hs rfl (by simp)) ?_
  rintro _ w2 ⟨v', rfl, ho, hE⟩
  have hs' := sl_of_own ho
  have hge := own_ge ho (own_nil ho (by simp))
  simp [hsz] at hge
  have hlen := fun ty W => hs'.isLen (P := Tryz.prog) (t := 120) (by simp) ty W
  simp at hlen
  have v2 := v1.ext hE
  have h3 := h2.trans hE
  have c0 := hs'.at_ 0 (u64 (top a)) rfl
  have c1 := hs'.at_ 1 (u64 (top b)) rfl
  have ha0 := top_0 ha
  have hb0 := top_0 hb
  have ha1 := top_le a
  have hb1 := top_le b
  have ix0 := fun W => hs'.index (P := Tryz.prog) (t := 120) (by simp) .i64 0 (by omega) (by simp) W
  have ix1 := fun W => hs'.index (P := Tryz.prog) (t := 120) (by simp) .i64 1 (by omega) (by simp) W
  simp at c0 ix0 ix1
  simp [hlen]
  refine WC_loop (fun k ρ ds w' => ρ 5 = ptr w.heap.size ∧ ρ 6 = .func (.func 71) #[] #[ptr w.heap.size] ∧ ρ 13 = v' ∧ ρ 14 = .int .i64 2 ∧ ds = [] ∧
    (k = 2 ∧ ρ 15 = .int .i64 0 ∧ w' = w2 ∨ k = 1 ∧ ρ 15 = .int .i64 1 ∧ w' = w2.setCell ⟨w.heap.size, 0, none⟩ (u64 (top a)) ∨ k = 0 ∧ ρ 15 = .int .i64 2 ∧ w' = (w2.setCell ⟨w.heap.size, 0, none⟩ (u64 (top a))).setCell ⟨w.heap.size, 0, none⟩ (u64 (addT a b)))) 2 ?_ ?_
  · simp
  · rintro k ρ ds w3 ⟨e5, e6, e13, e14, rfl, h⟩
    rcases h with ⟨rfl, e15, rfl⟩ | ⟨rfl, e15, rfl⟩ | ⟨rfl, e15, rfl⟩
    · simp [e6, e13, e14, e15, ix0, c0]
      refine FN.mono (put_c v2 (by omega) (by omega) ha0 ha1) ?_
      rintro _ _ ⟨⟨u, rfl⟩, rfl⟩
      simp [e5, e6, e13, e14, e15]
      rw [wrap64 _ (by omega) (by omega)]
      have : top (top a) = top a := by unfold top; omega
      exact ⟨1, by omega, .inr (.inl ⟨rfl, rfl, by rw [this]⟩)⟩
    · have v3 := v2.set (u64 (top a))
      have c1' : (w2.setCell ⟨w.heap.size, 0, none⟩ (u64 (top a))).cell? ⟨slB v', slO v' + 1, none⟩ = some (u64 (top b)) := by
        rw [World.cell?_setCell_other _ _ _ _ (by simp only [ne_eq, Addr.mk.injEq, and_true]; omega)]
        exact c1
      simp [e6, e13, e14, e15, ix1, c1']
      refine FN.mono (put_c v3 ha0 ha1 hb0 hb1) ?_
      rintro _ _ ⟨⟨u, rfl⟩, rfl⟩
      simp [e5, e6, e13, e14, e15]
      exact ⟨wrap64 _ (by omega) (by omega), rfl⟩
    · have v3 := (v2.set (u64 (top a))).set (u64 (addT a b))
      simp [e5, e14, e15, v3.cell]
      exact (h3.setCell _ _ (Nat.le_refl _)).setCell _ _ (Nat.le_refl _)
def inS (f t a : Int) : Bool := spnOk f t && (decide (f ≤ a) && decide (a < t))
theorem in_c (f t a : Int) (w : World) : FN Tryz.prog 69 [.agg #[u64 f, u64 t], u64 a] w fun e w' => e = .returned (.bool (inS f t a)) ∧ Ext w w' := by
  refine FN_enter Tryz.func69 rfl rfl (by kernel_rfl) ?_
  simp
  have hE := ((Ext.refl w).alloc (.cells #[u64 f, u64 t] 128)).alloc (.cells #[u64 f, u64 t] 156)
  have d1 : ((w.alloc (.cells #[u64 f, u64 t] 128)).alloc (.cells #[u64 f, u64 t] 156)).cell? ⟨w.heap.size + 1, 0, none⟩ = some (u64 f) := by simp
  have d2 : ((w.alloc (.cells #[u64 f, u64 t] 128)).alloc (.cells #[u64 f, u64 t] 156)).cell? ⟨w.heap.size + 1, 1, none⟩ = some (u64 t) := by simp
  generalize ((w.alloc (.cells #[u64 f, u64 t] 128)).alloc (.cells #[u64 f, u64 t] 156)) = w1 at *
  refine FN.mono (sright1_c f t w1) ?_
  rintro _ w2 ⟨rfl, h2⟩
  have d1' := h2.cell_eq d1
  have d2' := h2.cell_eq d2
  cases h1 : spnOk f t with
  | false => simp [inS, h1]; exact hE.trans h2
  | true =>
    cases h3 : decide (f ≤ a) with
    | false => simp [inS, h1, h3, d1']; exact hE.trans h2
    | true => simp [inS, h1, h3, d1', d2']; exact hE.trans h2
theorem pr1_c {w : World} {b0 : Nat} {a : Int} (v0 : Var w b0 (u64 a)) : FN Tryz.prog 38 [ptr b0] w fun e w' => e = .returned (.bool (decide (4611686018427387903 < a))) ∧ Ext w w' := by
  refine FN_enter Tryz.func38 rfl rfl (by kernel_rfl) ?_
  simp [v0.cell]
  have hm := Sl.made w [u64 a] 27 1 1 rfl
  have hE1 := (Ext.refl w).alloc (.cells #[u64 a] 27)
  refine FN.mono (ccheck_c (l := [a]) hm (by simp)) ?_
  rintro _ w2 ⟨rfl, hE2⟩
  by_cases ha : a ≤ 4611686018427387903
  · have ht : timesOk [a] = true := by simp [timesOk, ha]
    have hn : ¬ 4611686018427387903 < a := by omega
    simp [ht, hn]
    exact hE1.trans hE2
  · have ht : timesOk [a] = false := by simp [timesOk, ha]
    have hn : 4611686018427387903 < a := by omega
    simp [ht, hn]
    exact hE1.trans hE2
theorem pr2_c {w : World} {b0 b1 t rF rQ rA : Nat} {b : Bd} {a : Int} {x y : PK} (v0 : Var w b0 (ptr t)) (v1 : Var w b1 (u64 a)) (h : Blk w t [.map (some rF), .map (some rQ), .map (some rA), u64 b.p, u32 b.n]) (hp : 0 ≤ b.p) (hy : 0 ≤ y.2) :
    FN Tryz.prog 40 [ekP x, ewQ y, ptr b0, ptr b1] w fun e w' => e = .returned (.bool (decide (addT y.2 b.p < a))) ∧ Ext w w' := by
  refine FN_enter Tryz.func40 rfl rfl (by kernel_rfl) ?_
  simp [ekP, pairC, ewQ, quesC]
  have hE1 : Ext w ((w.alloc (.cells #[u32 x.1, u32 x.2] 71)).alloc (.cells #[u32 y.1, u64 y.2] 77)) := ((Ext.refl w).alloc _).alloc _
  have c1 : ((w.alloc (.cells #[u32 x.1, u32 x.2] 71)).alloc (.cells #[u32 y.1, u64 y.2] 77)).cell? ⟨w.heap.size + 1, 1, none⟩ = some (u64 y.2) := by simp
  generalize ((w.alloc (.cells #[u32 x.1, u32 x.2] 71)).alloc (.cells #[u32 y.1, u64 y.2] 77)) = w1 at *
  refine WC_drawC 8 (.F 0 <| .F 1 <| .F 2 <| .F 3 <| .F 4 <| .F 5 <| .F 7 <| .C 6 <| .Z) (fun _ => false) rfl (by kernel_rfl) fun W hW => ?_
  have hWE : Ext w1 W := hW ▸ Ext.drew w1
  have hX := hE1.trans hWE
  simp [hWE.cell_eq c1, (v0.ext hX).cell, (v1.ext hX).cell, (h.ext hX).cell 3 _ rfl]
  refine FN.mono (add_c y.2 b.p hy hp W) ?_
  rintro _ w2 ⟨rfl, hE2⟩
  simp
  exact KR_ext hE2 (by simp; exact hX.trans hE2)
theorem pr3_c {w : World} {b0 : Nat} {a : Int} {x : PK} {y : Bool × Int} (v0 : Var w b0 (u64 a)) : FN Tryz.prog 43 [ekP x, ewA y, ptr b0] w fun e w' => e = .returned (.bool (decide (y.2 ≤ a))) ∧ Ext w w' := by
  refine FN_enter Tryz.func43 rfl rfl (by kernel_rfl) ?_
  have hE1 : Ext w ((w.alloc (.cells #[u32 x.1, u32 x.2] 71)).alloc (.cells #[.bool y.1, u64 y.2] 82)) := ((Ext.refl w).alloc _).alloc _
  simp [ekP, pairC, ewA, ansC, v0.cell]
  exact hE1
theorem pr4_c {w : World} {b0 : Nat} {a : Int} {x y : PK} (v0 : Var w b0 (u64 a)) : FN Tryz.prog 45 [ekK x, ewF y, ptr b0] w fun e w' => e = .returned (.bool (decide (y.1 ≤ a))) ∧ Ext w w' := by
  refine FN_enter Tryz.func45 rfl rfl (by kernel_rfl) ?_
  have hE1 : Ext w ((w.alloc (.cells #[u32 x.1, u64 x.2] 84)).alloc (.cells #[u64 y.1, u8 y.2] 87)) := ((Ext.refl w).alloc _).alloc _
  simp [ekK, keyC, ewF, foreVC, v0.cell]
  exact hE1
def pruR (a : Int) : Int := if 4611686018427387903 < a then 2 else 0
def pruB (b : Bd) (a : Int) : Bd := if pruR a = 0 then { b with Q := b.Q.filter (fun x => !decide (addT x.2.2 b.p < a)), A := b.A.filter (fun x => !decide (x.2.2 ≤ a)), F := b.F.filter (fun x => !decide (x.2.1 ≤ a)) } else b
def bdN (b : Bd) : Int := b.Q.length + b.A.length + b.F.length
def Small (b : Bd) : Prop := b.Q.length ≤ 1000 ∧ b.A.length ≤ 1000 ∧ b.F.length ≤ 1000
set_option maxHeartbeats 1000000 in
theorem prune_c {w : World} {t rF rQ rA : Nat} {b : Bd} (h : BdAt w t rF rQ rA b) (hs : Small b) (hp : 0 ≤ b.p) (hq : ∀ x ∈ b.Q, 0 ≤ x.2.2) (a : Int) : FN Tryz.prog 14 [ptr t, u64 a] w fun e w' => e = .returned (.tuple #[i64 (bdN b - bdN (pruB b a)), i64 (pruR a)]) ∧ BdAt w' t rF rQ rA (pruB b a) ∧ Mod (fun k => k = rF ∨ k = rQ ∨ k = rA) w w' := by
  refine FN_enter Tryz.func14 rfl rfl (by kernel_rfl) ?_
  simp
  have hE1 : Ext w ((w.alloc (.cells #[ptr t] 23)).alloc (.cells #[u64 a] 27)) := ((Ext.refl w).alloc _).alloc _
  have v2 : Blk ((w.alloc (.cells #[ptr t] 23)).alloc (.cells #[u64 a] 27)) w.heap.size [ptr t] := (Blk.new w _ _).ext ((Ext.refl _).alloc _)
  have v3 : Blk ((w.alloc (.cells #[ptr t] 23)).alloc (.cells #[u64 a] 27)) (w.heap.size + 1) [u64 a] := by
    have := Blk.new (w.alloc (.cells #[ptr t] 23)) [u64 a] 27
    simpa using this
  generalize ((w.alloc (.cells #[ptr t] 23)).alloc (.cells #[u64 a] 27)) = w1 at *
  have h1 := h.ext hE1
  have hlt := h.lt
  refine FN.mono (is_c (ptr t) w1) ?_
  rintro _ w2 ⟨rfl, hE2⟩
  let qs : List Qn := [⟨.func (.func 36) #[ptr t] #[], 1, false⟩, ⟨.func (.func 38) #[] #[ptr (w.heap.size + 1)], 2, decide (4611686018427387903 < a)⟩]
  have hsl := Sl.made w2 (askCells qs) 74 2 2 rfl
  have he3 := (Ext.refl w2).alloc (.cells (askCells qs).toArray 74)
  have he13 := hE2.trans he3
  simp
  refine FN.mono (asked_c qs hsl (by simp [qs]) ?_ ?_) ?_
  · intro q hq
    simp [qs] at hq
    rcases hq with rfl | rfl <;> exact ⟨_, _, _, rfl⟩
  · intro i q hiq hno w' hw'
    have hx := he13.trans hw'
    match i, hiq with
    | 0, hiq =>
      simp [qs] at hiq; subst hiq
      exact FN.mono (none_c (h1.ext hx)) fun _ _ h => ⟨h.1, h.2 ▸ Ext.refl _⟩
    | 1, hiq =>
      simp [qs] at hiq; subst hiq
      exact pr1_c (v3.var.ext hx)
    | i + 2, hiq => simp [qs] at hiq
  · rintro _ w4 ⟨rfl, h2⟩
    have hE : askE qs = pruR a := by
      simp [qs, askE, pruR]
    rw [hE]
    have hx := he13.trans h2
    have hX := hE1.trans hx
    have h4 := h1.ext hx
    have x2 := v2.ext hx
    have x3 := v3.ext hx
    by_cases h0 : pruR a = 0
    · have hB : pruB b a = { b with Q := b.Q.filter (fun x => !decide (addT x.2.2 b.p < a)), A := b.A.filter (fun x => !decide (x.2.2 ≤ a)), F := b.F.filter (fun x => !decide (x.2.1 ≤ a)) } := by simp [pruB, h0]
      rw [hB]
      have z1 := hE1.size
      have n1 := hlt rQ (.inr (.inr (.inl rfl)))
      have n2 := hlt rA (.inr (.inr (.inr rfl)))
      have n3 := hlt rF (.inr (.inl rfl))
      simp [h0, x2.cell 0 _ rfl, h4.blk.cell 1 _ rfl]
      have hold2 : ∀ w' (x : PK × PK), x ∈ b.Q → Mod (fun k => k = rQ) w4 w' → CV Tryz.prog (.func (.func 40) #[] #[ptr w.heap.size, ptr (w.heap.size + 1)]) [ekP x.1, ewQ x.2] w' fun e w'' => e = .returned (.bool (decide (addT x.2.2 b.p < a))) ∧ Ext w' w'' := fun w' x hxm hM => by
        simp only [CV_func]
        exact pr2_c (x2.var.mod hM (by omega)) (x3.var.mod hM (by omega)) (h4.blk.mod hM (blk_map h4.blk h4.mQ)) hp (hq _ hxm)
      refine FN.mono (qprn_c (old := fun x => decide (addT x.2.2 b.p < a)) h4.mQ (by have := hs.1; omega) ⟨_, _, _, rfl⟩ hold2) ?_
      rintro _ w5 ⟨rfl, hm5, hM5⟩
      have y2 := x2.mod hM5 (by omega)
      have y3 := x3.mod hM5 (by omega)
      have b5 := h4.blk.mod hM5 (blk_map h4.blk h4.mQ)
      have a5 := h4.mA.mod hM5 fun e => h.qa e.symm
      have f5 := h4.mF.mod hM5 h.fq
      simp [y2.cell 0 _ rfl, b5.cell 2 _ rfl]
      have hold3 : ∀ w' (x : PK × (Bool × Int)), x ∈ b.A → Mod (fun k => k = rA) w5 w' → CV Tryz.prog (.func (.func 43) #[] #[ptr (w.heap.size + 1)]) [ekP x.1, ewA x.2] w' fun e w'' => e = .returned (.bool (decide (x.2.2 ≤ a))) ∧ Ext w' w'' := fun w' x _ hM => by
        simp only [CV_func]
        exact pr3_c (y3.var.mod hM (by omega))
      refine FN.mono (aprn_c (old := fun x => decide (x.2.2 ≤ a)) a5 (by have := hs.2.1; omega) ⟨_, _, _, rfl⟩ hold3) ?_
      rintro _ w6 ⟨rfl, hm6, hM6⟩
      have z2 := y2.mod hM6 (by omega)
      have z3 := y3.mod hM6 (by omega)
      have b6 := b5.mod hM6 (blk_map b5 a5)
      have q6 := hm5.mod hM6 h.qa
      have f6 := f5.mod hM6 h.fa
      simp [z2.cell 0 _ rfl, b6.cell 0 _ rfl]
      have hold4 : ∀ w' (x : PK × PK), x ∈ b.F → Mod (fun k => k = rF) w6 w' → CV Tryz.prog (.func (.func 45) #[] #[ptr (w.heap.size + 1)]) [ekK x.1, ewF x.2] w' fun e w'' => e = .returned (.bool (decide (x.2.1 ≤ a))) ∧ Ext w' w'' := fun w' x _ hM => by
        simp only [CV_func]
        exact pr4_c (z3.var.mod hM (by omega))
      refine FN.mono (fprn_c (old := fun x => decide (x.2.1 ≤ a)) f6 (by have := hs.2.2; omega) ⟨_, _, _, rfl⟩ hold4) ?_
      rintro _ w7 ⟨rfl, hm7, hM7⟩
      have l1 := List.length_filter_le (fun x => !decide (addT x.2.2 b.p < a)) b.Q
      have l2 := List.length_filter_le (fun x => !decide (x.2.2 ≤ a)) b.A
      have l3 := List.length_filter_le (fun x => !decide (x.2.1 ≤ a)) b.F
      have s1 := hs.1
      have s2 := hs.2.1
      have s3 := hs.2.2
      simp
      refine ⟨?_, ⟨b6.mod hM7 (blk_map b6 f6), hm7, q6.mod hM7 (fun e => h.fq e.symm), hm6.mod hM7 (fun e => h.fa e.symm), h.fq, h.fa, h.qa⟩, ?_⟩
      · have e1 := wrap64 ((b.Q.length : Int) - (b.Q.filter fun x => !decide (addT x.2.2 b.p < a)).length + ((b.A.length : Int) - (b.A.filter fun x => !decide (x.2.2 ≤ a)).length)) (by omega) (by omega)
        rw [e1, wrap64 _ (by omega) (by omega)]
        simp only [bdN]
        omega
      · exact ((hX.mod.trans (hM5.weaken fun k hk => .inr (.inl hk))).trans (hM6.weaken fun k hk => .inr (.inr hk))).trans (hM7.weaken fun k hk => .inl hk)
    · have hb : (pruR a != 0) = true := by simpa using h0
      have hB : pruB b a = b := by simp [pruB, h0]
      rw [hB]
      simp [hb]
      exact ⟨h4, hX.mod⟩
def sayV (b : Bd) (g r : Int) : Bool × Int × Bool := ((((mget b.A (g, r)).getD (false, 0)).1, ((mget b.A (g, r)).getD (false, 0)).2, (mget b.A (g, r)).isSome))
theorem lookA2 {w : World} {r : Nat} {m : MA} (h : MapAt ekP ewA w r m) (g x : Int) (W : World) (hE : Ext w W) : (Instr.lookup 68 (.map (some r)) (.agg #[.int .u32 g, .int .u32 x]) true).run Tryz.prog W = .ok (.tuple #[ewA ((mget m (g, x)).getD (false, 0)), .bool (mget m (g, x)).isSome]) W := by
  have := (h.ext hE).lookup (P := Tryz.prog) kPair tmA (zA W) (g, x) true
  simp only [ekP, pairC] at this
  rw [show #[Value.int IntKind.u32 g, Value.int IntKind.u32 x] = [u32 g, u32 x].toArray from rfl, this]
  cases mget m (g, x) <;> rfl
theorem says_c {w : World} {t rF rQ rA : Nat} {b : Bd} (h : BdAt w t rF rQ rA b) (g r : Int) : FN Tryz.prog 46 [ptr t, u32 g, u32 r] w fun e w' => e = .returned (.tuple #[.bool (sayV b g r).1, u64 (sayV b g r).2.1, .bool (sayV b g r).2.2]) ∧ Ext w w' := by
  refine FN_enter Tryz.func46 rfl rfl (by kernel_rfl) ?_
  simp
  refine FN.mono (none_c h) ?_
  rintro _ w1 ⟨rfl, rfl⟩
  simp [h.blk.cell 2 _ rfl, lookA2 h.mA g r _ (Ext.refl _), ewA, ansC]
  have hE1 : Ext w1 (w1.alloc (.cells #[.bool ((mget b.A (g, r)).getD (false, 0)).1, u64 ((mget b.A (g, r)).getD (false, 0)).2] 82)) := (Ext.refl _).alloc _
  have c := Blk.new w1 [.bool ((mget b.A (g, r)).getD (false, 0)).1, u64 ((mget b.A (g, r)).getD (false, 0)).2] 82
  refine WC_drawC 7 (.F 0 <| .F 1 <| .F 2 <| .F 3 <| .F 4 <| .F 5 <| .F 6 <| .Z) (fun _ => false) rfl (by kernel_rfl) fun W hW => ?_
  have hWE := hE1.trans (hW ▸ Ext.drew _)
  have d0 := (c.ext (hW ▸ Ext.drew _)).cell 0 _ rfl
  have d1 := (c.ext (hW ▸ Ext.drew _)).cell 1 _ rfl
  simp [d0, d1]
  exact ⟨⟨rfl, rfl, rfl⟩, hWE⟩
def offV (b : Bd) (g r a : Int) : Bool := (sayV b g r).2.2 && (!(sayV b g r).1 && decide (a < (sayV b g r).2.1))
theorem off_c {w : World} {t rF rQ rA : Nat} {b : Bd} (h : BdAt w t rF rQ rA b) (g r a : Int) : FN Tryz.prog 15 [ptr t, u32 g, u32 r, u64 a] w fun e w' => e = .returned (.bool (offV b g r a)) ∧ Ext w w' := by
  refine FN_enter Tryz.func15 rfl rfl (by kernel_rfl) ?_
  simp
  refine FN.mono (says_c h g r) ?_
  rintro _ w1 ⟨rfl, hE⟩
  unfold offV
  cases (sayV b g r).2.2 <;> cases (sayV b g r).1 <;> simp <;> exact hE
theorem lenF_c {w : World} {t rF rQ rA : Nat} {b : Bd} (h : BdAt w t rF rQ rA b) : FN Tryz.prog 54 [ptr t] w fun e w' => e = .returned (.tuple #[i64 b.Q.length, i64 b.A.length, i64 b.F.length]) ∧ Ext w w' := by
  refine FN_enter Tryz.func54 rfl rfl (by kernel_rfl) ?_
  simp
  refine FN.mono (none_c h) ?_
  rintro _ w1 ⟨rfl, rfl⟩
  simp
  refine WC_drawC 14 (.F 0 <| .F 1 <| .F 2 <| .F 3 <| .F 5 <| .F 6 <| .F 7 <| .F 8 <| .F 10 <| .F 11 <| .F 12 <| .F 13 <| .C 4 <| .C 9 <| .Z) (fun _ => false) rfl (by kernel_rfl) fun W hW => ?_
  have hWE := hW ▸ Ext.drew w1
  have h2 := h.ext hWE
  have l1 := h2.mQ.len (P := Tryz.prog) (T := 67) (by simp) 3
  have l2 := h2.mA.len (P := Tryz.prog) (T := 68) (by simp) 3
  have l3 := h2.mF.len (P := Tryz.prog) (T := 66) (by simp) 3
  simp [h2.blk.cell 0 _ rfl, h2.blk.cell 1 _ rfl, h2.blk.cell 2 _ rfl, l1]
  refine KR_same ?_
  simp [l2]
  refine KR_same ?_
  simp [l3]
  exact hWE
end Go.Proofs
namespace Go.Proofs
open Pk
set_option maxRecDepth 10000
/-! ### The level at a time -/
def hitF (g a : Int) (x : PK × PK) : Bool := decide (x.1.1 = g) && inS x.1.2 x.2.1 a
structure IsLvl (m : MF) (g a L : Int) : Prop where
  ge : 0 ≤ L
  up : ∀ x ∈ m, hitF g a x = true → x.2.2 ≤ L
  some' : L = 0 ∨ ∃ x ∈ m, hitF g a x = true ∧ x.2.2 = L
theorem IsLvl.one {m : MF} {g a L L' : Int} (h : IsLvl m g a L) (h' : IsLvl m g a L') (h0 : ∀ x ∈ m, 0 ≤ x.2.2) : L = L' := by
  have key : ∀ {L L' : Int}, IsLvl m g a L → IsLvl m g a L' → L ≤ L' := by
    intro L L' h h'
    rcases h.some' with e | ⟨x, hx, hh, e⟩
    · have := h'.ge; omega
    · have := h'.up x hx hh; omega
  have := key h h'
  have := key h' h
  omega
def SoFar (m : MF) (g a L : Int) (idxs : List Nat) : Prop := 0 ≤ L ∧ (∀ i ∈ idxs, ∀ p, m[i]? = some p → hitF g a p = true → p.2.2 ≤ L) ∧ (L = 0 ∨ ∃ x ∈ m, hitF g a x = true ∧ x.2.2 = L)
set_option maxHeartbeats 1000000 in
theorem flevel_c {w : World} {r : Nat} {m : MF} (h : MapAt ekK ewF w r m) (h0 : ∀ x ∈ m, 0 ≤ x.2.2) (g a : Int) : FN Tryz.prog 37 [.map (some r), u32 g, u64 a] w fun e w' => ∃ L, e = .returned (u8 L) ∧ IsLvl m g a L ∧ Ext w w' := by
  refine FN_enter Tryz.func37 rfl rfl (by kernel_rfl) ?_
  obtain ⟨o, hr, hi⟩ := h.range (P := Tryz.prog) tmFs
  simp [hr]
  have he := (Ext.refl w).alloc o
  have hlt := h.lt
  obtain ⟨b, hb⟩ : ∃ b, b = w.heap.size := ⟨_, rfl⟩
  rw [← hb] at hi ⊢
  generalize (w.alloc o) = w2 at *
  refine WC_loop (fun k ρ ds w' => ∃ (idxs : List Nat) (L : Int), k + idxs.length = m.length ∧ ρ 1 = u32 g ∧ ρ 2 = u64 a ∧ ρ 6 = u8 L ∧ ρ 10 = ptr b ∧ ds = [] ∧ MIter ekK ewF w' b r m idxs ∧ Ext w w' ∧ SoFar m g a L idxs) m.length ⟨[], 0, by simp, by simp, by simp, by simp, by simp, rfl, hi, he, by omega, by simp, .inl rfl⟩ ?_
  rintro k ρ ds w3 ⟨idxs, L, hk, e1, e2, e6, e10, rfl, hI, hE, hL, hup, hso⟩
  rcases hI.next (P := Tryz.prog) 0 with ⟨hp, hrun⟩ | ⟨i, p, w4, hpi, hni, hrun, hI4, hM4, hent, hs4⟩
  · simp [e10, hrun, e6]
    refine ⟨⟨hL, fun x hx hh => ?_, hso⟩, hE⟩
    obtain ⟨i, hi, hxi⟩ := List.mem_iff_getElem.1 hx
    exact hup i (hp.mem_iff.2 (List.mem_range.2 hi)) x (by rw [List.getElem?_eq_getElem hi, hxi]) hh
  · have hE4 : Ext w w4 := ((hE.mod (S := fun k => w.heap.size ≤ k)).trans (hM4.weaken fun i hi => by omega)).ext fun _ h => h
    have hb4 := hI4.bound
    simp only [List.length_append, List.length_singleton] at hb4
    have hmem : p ∈ m := List.mem_of_getElem? hpi
    obtain ⟨⟨k1, k2⟩, v1, v2⟩ := p
    simp [ekK, ewF, keyC, foreVC] at hent
    simp [e10, hrun, hent]
    have hE5 : Ext w4 ((w4.alloc (.cells #[u32 k1, u64 k2] 84)).alloc (.cells #[u64 v1, u8 v2] 87)) := ((Ext.refl _).alloc _).alloc _
    have bk : Blk ((w4.alloc (.cells #[u32 k1, u64 k2] 84)).alloc (.cells #[u64 v1, u8 v2] 87)) w4.heap.size [u32 k1, u64 k2] := (Blk.new w4 _ _).ext ((Ext.refl _).alloc _)
    have bv : Blk ((w4.alloc (.cells #[u32 k1, u64 k2] 84)).alloc (.cells #[u64 v1, u8 v2] 87)) (w4.heap.size + 1) [u64 v1, u8 v2] := by
      have := Blk.new (w4.alloc (.cells #[u32 k1, u64 k2] 84)) [u64 v1, u8 v2] 87
      simpa using this
    have hI5 := hI4.mod (S := fun _ => False) hE5.mod _root_.id _root_.id
    have hX5 := hE4.trans hE5
    generalize ((w4.alloc (.cells #[u32 k1, u64 k2] 84)).alloc (.cells #[u64 v1, u8 v2] 87)) = w5 at *
    have hcont : ∀ (w6 : World) (b' : Bool), b' = hitF g a ((k1, k2), v1, v2) → Ext w5 w6 → ∃ L', L' = (if b' then max L v2 else L) ∧ MIter ekK ewF w6 b r m (idxs ++ [i]) ∧ Ext w w6 ∧ SoFar m g a L' (idxs ++ [i]) := by
      intro w6 b' hb' hE6
      refine ⟨_, rfl, hI5.mod (S := fun _ => False) hE6.mod _root_.id _root_.id, hX5.trans hE6, ?_, ?_, ?_⟩
      · split <;> omega
      · intro j hj q hq hh
        rcases List.mem_append.1 hj with hj | hj
        · have := hup j hj q hq hh
          split <;> omega
        · simp at hj; subst hj
          rw [hpi] at hq; cases hq
          rw [← hb'] at hh
          rw [if_pos hh]
          simp only; omega
      · cases b' with
        | false => simpa using hso
        | true =>
          simp only [if_true]
          by_cases hle : v2 ≤ L
          · rw [show max L v2 = L by omega]; exact hso
          · refine .inr ⟨_, hmem, hb'.symm, ?_⟩
            simp only; omega
    by_cases hk1 : k1 = g
    · simp [bk.cell 1 _ rfl, bv.cell 0 _ rfl, e1, e2, hk1]
      refine FN.mono (in_c k2 v1 a w5) ?_
      rintro _ w6 ⟨rfl, hE6⟩
      obtain ⟨L', hL', c1, c2, c3⟩ := hcont w6 (inS k2 v1 a) (by simp [hitF, hk1]) hE6
      have bv6 := bv.ext hE6
      cases hin : inS k2 v1 a with
      | false =>
        simp [e1, e2, e6, e10]
        rw [hin] at hL'
        exact ⟨k - 1, by omega, idxs ++ [i], by simp; omega, c1, c2, by rw [hL'] at c3; exact c3⟩
      | true =>
        simp [e1, e2, e6, e10, bv6.cell 1 _ rfl]
        rw [hin] at hL'
        exact ⟨k - 1, by omega, idxs ++ [i], by simp; omega, c1, c2, by rw [hL'] at c3; exact c3⟩
    · simp [beq_dec, e1, e2, e6, e10, hk1]
      obtain ⟨L', hL', c1, c2, c3⟩ := hcont w5 false (by simp [hitF, hk1]) (Ext.refl _)
      exact ⟨k - 1, by omega, idxs ++ [i], by simp; omega, c1, c2, by rw [hL'] at c3; exact c3⟩
theorem level_c {w : World} {t rF rQ rA : Nat} {b : Bd} (h : BdAt w t rF rQ rA b) (h0 : ∀ x ∈ b.F, 0 ≤ x.2.2) (g a : Int) : FN Tryz.prog 13 [ptr t, u32 g, u64 a] w fun e w' => ∃ L, e = .returned (u8 L) ∧ IsLvl b.F g a L ∧ Ext w w' := by
  refine FN_enter Tryz.func13 rfl rfl (by kernel_rfl) ?_
  simp
  refine FN.mono (none_c h) ?_
  rintro _ w1 ⟨rfl, rfl⟩
  simp [h.blk.cell 0 _ rfl]
  refine FN.mono (flevel_c h.mF h0 g a) ?_
  rintro _ w2 ⟨L, rfl, hL, hE⟩
  simp
  exact ⟨hL, hE⟩
end Go.Proofs
