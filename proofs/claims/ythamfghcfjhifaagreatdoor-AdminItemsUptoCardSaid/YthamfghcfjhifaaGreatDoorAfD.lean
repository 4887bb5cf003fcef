/-
  Contracts of the functions that the law reaches, step by step.
-/
import Derived.Test.YthamfghcfjhifaaGreatDoorAfC
namespace Go.Proofs
open Pk
set_option maxRecDepth 10000
theorem rname_c (n : Nam) (hn : 0 ≤ n.nn) (w : World) : FN Tryz.prog 33 [namV n] w fun e w' => e = .returned (.bool (decide (nameE n = 0))) ∧ Ext w w' := by
  refine FN_enter Tryz.func33 rfl rfl (by kernel_rfl) ?_
  simp
  have b1 : Blk (w.alloc (.cells #[u32 n.nn, u32 n.ns, u64 n.nt, u32 n.nq] 28)) w.heap.size [u32 n.nn, u32 n.ns, u64 n.nt, u32 n.nq] := Blk.new w _ _
  have hE1 : Ext w (w.alloc (.cells #[u32 n.nn, u32 n.ns, u64 n.nt, u32 n.nq] 28)) := (Ext.refl _).alloc _
  generalize (w.alloc (.cells #[u32 n.nn, u32 n.ns, u64 n.nt, u32 n.nq] 28)) = w1 at *
  unfold nameE
  by_cases h0 : 0 < n.nn
  · have h0' : ¬ n.nn = 0 := by omega
    by_cases h1 : n.nt ≤ 4611686018427387903
    · have h1' : ¬ 4611686018427387903 < n.nt := by omega
      simp [b1.cell 2 _ rfl, h0, h0', h1, h1']
      exact hE1
    · have h1' : 4611686018427387903 < n.nt := by omega
      simp [b1.cell 2 _ rfl, h0, h0', h1, h1']
      exact hE1
  · have h0' : n.nn = 0 := by omega
    simp [h0']
    exact hE1
/-- What the document asks of a Kind's parts. -/
def docF (r : Rec) : Bool := if r.kind = 1 then decide (nameE (namR r) = 0) && (decide (1 ≤ r.what) && (decide (r.what ≤ 4) && (decide (0 ≤ r.why) && (decide (r.why ≤ 5) && (decide (r.what = 4) == decide (0 < r.why))))))
  else if r.kind = 4 then decide (0 < r.node) && (decide (r.fro ≤ r.til) && decide (r.lev ≤ 3)) else decide (0 < r.node) && decide (0 < r.reg)
theorem chk_zero {r : Rec} {f b : Bool} : chk r f b = 0 ↔ f = true ∧ r.num ≤ 4294967295 ∧ timesOk [r.at', r.fro, r.til] = true ∧ b = true := by
  unfold chk
  cases f
  · simp
  · by_cases h : 4294967295 < r.num
    · simp [h]; omega
    · have h' : r.num ≤ 4294967295 := by omega
      cases ht : timesOk [r.at', r.fro, r.til]
      · simp [h]
      · cases b <;> simp [h, h']
theorem right_doc {r : Rec} (hk : 1 ≤ r.kind ∧ r.kind ≤ 5) (hr : RecOk r) (hb : bareR r = r) (h1 : r.num ≤ 4294967295) (h2 : r.at' ≤ 4611686018427387903) (h3 : r.til ≤ 4611686018427387903) : rightE r = 0 ↔ docF r = true := by
  have hfro : (r.kind = 4 → r.fro ≤ r.til) → r.fro ≤ 4611686018427387903 := by
    intro hft
    by_cases h4 : r.kind = 4
    · have := hft h4; omega
    · have e : (bareR r).fro = 0 := by
        unfold bareR repB askBr tellB memB
        repeat' split
        all_goals first | rfl | exact absurd ‹_› h4
      rw [hb] at e
      omega
  unfold rightE
  rw [if_pos hk, chk_zero]
  simp only [hb, decide_true, and_true]
  have ht : timesOk [r.at', r.fro, r.til] = true ↔ r.fro ≤ 4611686018427387903 := by
    unfold timesOk
    simp [h2, h3]
  rw [ht]
  unfold fineR docF
  by_cases k1 : r.kind = 1
  · rw [if_pos k1, if_pos k1]
    have := hfro (fun h => by omega)
    unfold repF
    simp only [Bool.and_eq_true, decide_eq_true_eq, h1, this, and_true]
    constructor
    · rintro ⟨a1, a2, a3, a4, a5, a6⟩
      exact ⟨a1, a2, a3, a4, by omega, a6⟩
    · rintro ⟨a1, a2, a3, a4, a5, a6⟩
      exact ⟨a1, a2, a3, a4, by omega, a6⟩
  · rw [if_neg k1, if_neg k1]
    by_cases k4 : r.kind = 4
    · rw [if_pos k4, if_pos k4]
      unfold foreF spnOk
      simp only [Bool.and_eq_true, decide_eq_true_eq]
      constructor
      · rintro ⟨⟨a1, ⟨a2, a3⟩, a4⟩, -, -⟩
        exact ⟨a1, a2, a4⟩
      · rintro ⟨a1, a2, a3⟩
        exact ⟨⟨a1, ⟨a2, h3⟩, a3⟩, h1, hfro fun _ => a2⟩
    · rw [if_neg k4, if_neg k4]
      have := hfro (fun h => absurd h k4)
      have hn := hr.node.1
      have hg := hr.reg.1
      simp only [Bool.and_eq_true, decide_eq_true_eq, h1, this, and_true]
      omega
set_option maxHeartbeats 2000000 in
theorem rright_c {r : Rec} (hr : RecOk r) (w : World) : FN Tryz.prog 11 [recV r] w fun e w' => e = .returned (.bool (decide (rightE r = 0))) ∧ Ext w w' := by
  refine FN_enter Tryz.func11 rfl rfl (by kernel_rfl) ?_
  simp
  have b1 : Blk (w.alloc (.cells #[i64 r.kind, u32 r.nn, u32 r.ns, u64 r.nt, u32 r.nq, i64 r.what, i64 r.why, u64 r.at', u64 r.num, u32 r.node, u32 r.reg, .bool r.yes, u64 r.fro, u64 r.til, u8 r.lev] 30)) w.heap.size (recC r) := Blk.new w _ _
  have hE1 : Ext w (w.alloc (.cells #[i64 r.kind, u32 r.nn, u32 r.ns, u64 r.nt, u32 r.nq, i64 r.what, i64 r.why, u64 r.at', u64 r.num, u32 r.node, u32 r.reg, .bool r.yes, u64 r.fro, u64 r.til, u8 r.lev] 30)) := (Ext.refl _).alloc _
  generalize (w.alloc (.cells #[i64 r.kind, u32 r.nn, u32 r.ns, u64 r.nt, u32 r.nq, i64 r.what, i64 r.why, u64 r.at', u64 r.num, u32 r.node, u32 r.reg, .bool r.yes, u64 r.fro, u64 r.til, u8 r.lev] 30)) = w1 at *
  have no : ∀ {W : World}, ¬ rightE r = 0 → Ext w W → ¬ rightE r = 0 ∧ Ext w W := fun h hE => ⟨h, hE⟩
  refine WC_drawC 10 (.F 0 <| .F 1 <| .F 2 <| .F 3 <| .F 4 <| .F 5 <| .F 6 <| .F 7 <| .F 8 <| .C 9 <| .Z) (fun _ => false) rfl (by kernel_rfl) fun W hW => ?_
  have hWE : Ext w1 W := hW ▸ Ext.drew w1
  have c1 := b1.ext hWE
  by_cases k1 : r.kind < 1
  · as_aux_lemma =>
      simp [k1]
      exact no (fun h => by have := (right_inv h).1; omega) (hE1.trans hWE)
  by_cases k5 : 5 < r.kind
  · as_aux_lemma =>
      simp [k1, k5]
      exact no (fun h => by have := (right_inv h).1; omega) (hE1.trans hWE)
  simp [k1, k5, c1.cell 0 _ rfl, c1.cell 1 _ rfl, c1.cell 2 _ rfl, c1.cell 3 _ rfl, c1.cell 4 _ rfl, c1.cell 5 _ rfl, c1.cell 6 _ rfl, c1.cell 7 _ rfl, c1.cell 8 _ rfl, c1.cell 9 _ rfl, c1.cell 10 _ rfl, c1.cell 11 _ rfl, c1.cell 12 _ rfl, c1.cell 13 _ rfl, c1.cell 14 _ rfl]
  refine FN.mono (rbare_c ⟨by omega, by omega⟩ W) ?_
  rintro _ w2 ⟨rfl, hE2⟩
  simp
  refine KR_ext hE2 ?_
  have hX := hE1.trans (hWE.trans hE2)
  have c2 := c1.ext hE2
  have hq := neqRec r (bareR r) w2
  by_cases q1 : bareR r = r
  · rw [decide_eq_true q1.symm] at hq
    have hn0 := hr.node.1
    have hr0 := hr.reg.1
    by_cases a1 : 4294967295 < r.num
    · as_aux_lemma =>
        simp [hq, c2.cell 8 _ rfl, a1]
        exact no (fun h => by have := (right_inv h).2.2.1; omega) hX
    by_cases a2 : 4611686018427387903 < r.at'
    · as_aux_lemma =>
        simp [hq, c2.cell 7 _ rfl, c2.cell 8 _ rfl, a1, a2]
        exact no (fun h => by have := (right_inv h).2.2.2.1; omega) hX
    by_cases a3 : 4611686018427387903 < r.til
    · as_aux_lemma =>
        simp [hq, c2.cell 7 _ rfl, c2.cell 8 _ rfl, c2.cell 13 _ rfl, a1, a2, a3]
        exact no (fun h => by have := (right_inv h).2.2.2.1; omega) hX
    have hd := right_doc ⟨by omega, by omega⟩ hr q1 (by omega) (by omega) (by omega)
    have e1 : decide (rightE r = 0) = docF r := by
      rw [Bool.eq_iff_iff, decide_eq_true_eq]; exact hd
    rw [e1]
    simp [hq, c2.cell 7 _ rfl, c2.cell 8 _ rfl, c2.cell 13 _ rfl, a1, a2, a3]
    by_cases kk1 : r.kind = 1
    · as_aux_lemma =>
        have e2 : docF r = (decide (nameE (namR r) = 0) && (decide (1 ≤ r.what) && (decide (r.what ≤ 4) && (decide (0 ≤ r.why) && (decide (r.why ≤ 5) && (decide (r.what = 4) == decide (0 < r.why))))))) := by unfold docF; rw [if_pos kk1]
        rw [e2]
        simp [kk1, c2.cell 1 _ rfl, c2.cell 2 _ rfl, c2.cell 3 _ rfl, c2.cell 4 _ rfl]
        refine FN.mono (rname_c (namR r) hr.nn.1 w2) ?_
        rintro _ w3 ⟨rfl, hE3⟩
        have c3 := c2.ext hE3
        have hX3 := hX.trans hE3
        by_cases n1 : nameE (namR r) = 0
        · by_cases n2 : 1 ≤ r.what
          · by_cases n3 : r.what ≤ 4
            · by_cases n4 : 0 ≤ r.why
              · by_cases n5 : r.why ≤ 5
                · simp [n1, n2, n3, n4, n5, c3.cell 5 _ rfl, c3.cell 6 _ rfl, beq_dec]
                  exact hX3
                · simp [n1, n2, n3, n4, n5, c3.cell 5 _ rfl, c3.cell 6 _ rfl]
                  exact hX3
              · simp [n1, n2, n3, n4, c3.cell 5 _ rfl, c3.cell 6 _ rfl]
                exact hX3
            · simp [n1, n2, n3, c3.cell 5 _ rfl]
              exact hX3
          · simp [n1, n2, c3.cell 5 _ rfl]
            exact hX3
        · simp [n1]
          exact hX3
    by_cases kk4 : r.kind = 4
    · as_aux_lemma =>
        have e2 : docF r = (decide (0 < r.node) && (decide (r.fro ≤ r.til) && decide (r.lev ≤ 3))) := by unfold docF; rw [if_neg kk1, if_pos kk4]
        rw [e2]
        by_cases a4 : 0 < r.node
        · by_cases a5 : r.fro ≤ r.til
          · simp [beq_dec, c2.cell 9 _ rfl, c2.cell 12 _ rfl, c2.cell 13 _ rfl, c2.cell 14 _ rfl, kk4, a4, a5]
            exact hX
          · simp [beq_dec, c2.cell 9 _ rfl, c2.cell 12 _ rfl, c2.cell 13 _ rfl, kk4, a4, a5]
            exact hX
        · simp [beq_dec, c2.cell 9 _ rfl, kk4, a4]
          exact hX
    · as_aux_lemma =>
        have e2 : docF r = (decide (0 < r.node) && decide (0 < r.reg)) := by unfold docF; rw [if_neg kk1, if_neg kk4]
        rw [e2]
        by_cases a4 : 0 < r.node
        · simp [beq_dec, c2.cell 9 _ rfl, c2.cell 10 _ rfl, kk1, kk4, a4]
          exact hX
        · simp [beq_dec, c2.cell 9 _ rfl, kk1, kk4, a4]
          exact hX
  · as_aux_lemma =>
      rw [decide_eq_false (fun e => q1 e.symm)] at hq
      simp [hq]
      exact no (fun h => q1 (right_inv h).2.2.2.2) hX
end Go.Proofs
