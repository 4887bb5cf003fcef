/-
  Contracts of the functions that the law reaches, step by step.
-/
import Derived.Test.YtjagbfaklckagaaGreatBdW
namespace Go.Proofs
open Pk
set_option maxRecDepth 10000
abbrev acV (q : Ac) : Value := .agg #[i64 q.what, i64 q.r.kind, u32 q.r.nn, u32 q.r.ns, u64 q.r.nt, u32 q.r.nq, i64 q.r.what, i64 q.r.why, u64 q.r.at', u64 q.r.num, u32 q.r.node, u32 q.r.reg, .bool q.r.yes, u64 q.r.fro, u64 q.r.til, u8 q.r.lev, u64 q.at']
set_option maxHeartbeats 2000000 in
theorem tells_c {w : World} {t rF rQ rA : Nat} {B : Bd} {V : RV} {b : RB} (hB : BdAt w t rF rQ rA B) (h : RbAt w V b) (hT : Tie B b) (h0 : ∀ x ∈ B.F, 0 ≤ x.2.2) (hba : b.A.length ≤ 1000) (hbf : b.F.length ≤ 1000) (q : Ac) :
    FN Tryz.prog 51 [ptr t, rbV V b, acV q] w fun e w' => e = .returned (.bool true) ∧ Ext w w' := by
  refine FN_enter Tryz.func51 rfl rfl (by kernel_rfl) ?_
  have hs := fun w (h : RbAt w V b) => rsays_c h (by omega) q.r.node q.r.reg
  have hf := fun w (h : RbAt w V b) => roff_c h (by omega) q.r.node q.r.reg q.at'
  have hl := fun w (h : RbAt w V b) => rlevel_c h (by omega) q.r.node q.at'
  obtain ⟨qa, qc, aa, ac, fa, fc, rfl⟩ := h.open
  simp
  have hE1 : Ext w (((w.alloc (.cells #[.slice qa b.Q.length qc, .slice aa b.A.length ac, .slice fa b.F.length fc, u64 b.p, u32 b.n] 53)).alloc (.cells #[i64 q.what, i64 q.r.kind, u32 q.r.nn, u32 q.r.ns, u64 q.r.nt, u32 q.r.nq, i64 q.r.what, i64 q.r.why, u64 q.r.at', u64 q.r.num, u32 q.r.node, u32 q.r.reg, .bool q.r.yes, u64 q.r.fro, u64 q.r.til, u8 q.r.lev, u64 q.at'] 45)).alloc (.cells #[i64 q.r.kind, u32 q.r.nn, u32 q.r.ns, u64 q.r.nt, u32 q.r.nq, i64 q.r.what, i64 q.r.why, u64 q.r.at', u64 q.r.num, u32 q.r.node, u32 q.r.reg, .bool q.r.yes, u64 q.r.fro, u64 q.r.til, u8 q.r.lev] 38)) := (((Ext.refl _).alloc _).alloc _).alloc _
  have o1 : Blk (((w.alloc (.cells #[.slice qa b.Q.length qc, .slice aa b.A.length ac, .slice fa b.F.length fc, u64 b.p, u32 b.n] 53)).alloc (.cells #[i64 q.what, i64 q.r.kind, u32 q.r.nn, u32 q.r.ns, u64 q.r.nt, u32 q.r.nq, i64 q.r.what, i64 q.r.why, u64 q.r.at', u64 q.r.num, u32 q.r.node, u32 q.r.reg, .bool q.r.yes, u64 q.r.fro, u64 q.r.til, u8 q.r.lev, u64 q.at'] 45)).alloc (.cells #[i64 q.r.kind, u32 q.r.nn, u32 q.r.ns, u64 q.r.nt, u32 q.r.nq, i64 q.r.what, i64 q.r.why, u64 q.r.at', u64 q.r.num, u32 q.r.node, u32 q.r.reg, .bool q.r.yes, u64 q.r.fro, u64 q.r.til, u8 q.r.lev] 38)) w.heap.size [.slice qa b.Q.length qc, .slice aa b.A.length ac, .slice fa b.F.length fc, u64 b.p, u32 b.n] := (Blk.new w _ _).ext (((Ext.refl _).alloc _).alloc _)
  have o2 : Blk (((w.alloc (.cells #[.slice qa b.Q.length qc, .slice aa b.A.length ac, .slice fa b.F.length fc, u64 b.p, u32 b.n] 53)).alloc (.cells #[i64 q.what, i64 q.r.kind, u32 q.r.nn, u32 q.r.ns, u64 q.r.nt, u32 q.r.nq, i64 q.r.what, i64 q.r.why, u64 q.r.at', u64 q.r.num, u32 q.r.node, u32 q.r.reg, .bool q.r.yes, u64 q.r.fro, u64 q.r.til, u8 q.r.lev, u64 q.at'] 45)).alloc (.cells #[i64 q.r.kind, u32 q.r.nn, u32 q.r.ns, u64 q.r.nt, u32 q.r.nq, i64 q.r.what, i64 q.r.why, u64 q.r.at', u64 q.r.num, u32 q.r.node, u32 q.r.reg, .bool q.r.yes, u64 q.r.fro, u64 q.r.til, u8 q.r.lev] 38)) (w.heap.size + 1) (acC q) := by
    have := (Blk.new (w.alloc (.cells #[.slice qa b.Q.length qc, .slice aa b.A.length ac, .slice fa b.F.length fc, u64 b.p, u32 b.n] 53)) (acC q) 45).ext ((Ext.refl _).alloc (.cells #[i64 q.r.kind, u32 q.r.nn, u32 q.r.ns, u64 q.r.nt, u32 q.r.nq, i64 q.r.what, i64 q.r.why, u64 q.r.at', u64 q.r.num, u32 q.r.node, u32 q.r.reg, .bool q.r.yes, u64 q.r.fro, u64 q.r.til, u8 q.r.lev] 38))
    simp only [World.size_alloc] at this; exact this
  have o3 : Blk (((w.alloc (.cells #[.slice qa b.Q.length qc, .slice aa b.A.length ac, .slice fa b.F.length fc, u64 b.p, u32 b.n] 53)).alloc (.cells #[i64 q.what, i64 q.r.kind, u32 q.r.nn, u32 q.r.ns, u64 q.r.nt, u32 q.r.nq, i64 q.r.what, i64 q.r.why, u64 q.r.at', u64 q.r.num, u32 q.r.node, u32 q.r.reg, .bool q.r.yes, u64 q.r.fro, u64 q.r.til, u8 q.r.lev, u64 q.at'] 45)).alloc (.cells #[i64 q.r.kind, u32 q.r.nn, u32 q.r.ns, u64 q.r.nt, u32 q.r.nq, i64 q.r.what, i64 q.r.why, u64 q.r.at', u64 q.r.num, u32 q.r.node, u32 q.r.reg, .bool q.r.yes, u64 q.r.fro, u64 q.r.til, u8 q.r.lev] 38)) (w.heap.size + 1 + 1) (recC q.r) := by
    have := Blk.new ((w.alloc (.cells #[.slice qa b.Q.length qc, .slice aa b.A.length ac, .slice fa b.F.length fc, u64 b.p, u32 b.n] 53)).alloc (.cells #[i64 q.what, i64 q.r.kind, u32 q.r.nn, u32 q.r.ns, u64 q.r.nt, u32 q.r.nq, i64 q.r.what, i64 q.r.why, u64 q.r.at', u64 q.r.num, u32 q.r.node, u32 q.r.reg, .bool q.r.yes, u64 q.r.fro, u64 q.r.til, u8 q.r.lev, u64 q.at'] 45)) (recC q.r) 38
    simp only [World.size_alloc] at this; exact this
  generalize (((w.alloc (.cells #[.slice qa b.Q.length qc, .slice aa b.A.length ac, .slice fa b.F.length fc, u64 b.p, u32 b.n] 53)).alloc (.cells #[i64 q.what, i64 q.r.kind, u32 q.r.nn, u32 q.r.ns, u64 q.r.nt, u32 q.r.nq, i64 q.r.what, i64 q.r.why, u64 q.r.at', u64 q.r.num, u32 q.r.node, u32 q.r.reg, .bool q.r.yes, u64 q.r.fro, u64 q.r.til, u8 q.r.lev, u64 q.at'] 45)).alloc (.cells #[i64 q.r.kind, u32 q.r.nn, u32 q.r.ns, u64 q.r.nt, u32 q.r.nq, i64 q.r.what, i64 q.r.why, u64 q.r.at', u64 q.r.num, u32 q.r.node, u32 q.r.reg, .bool q.r.yes, u64 q.r.fro, u64 q.r.til, u8 q.r.lev] 38)) = w1 at *
  have hB1 := hB.ext hE1
  have ho := hB.keys
  refine FN.mono (says_c hB1 q.r.node q.r.reg) ?_
  rintro _ w2 ⟨rfl, hE2⟩
  rw [hT.says ho]
  have p1 := o1.ext hE2
  have p2 := o2.ext hE2
  have p3 := o3.ext hE2
  simp [p1.cell 0 _ rfl, p1.cell 1 _ rfl, p1.cell 2 _ rfl, p1.cell 3 _ rfl, p1.cell 4 _ rfl, p3.cell 9 _ rfl, p3.cell 10 _ rfl]
  refine FN.mono (hs w2 (h.ext (hE1.trans hE2))) ?_
  rintro _ w3 ⟨rfl, hE3⟩
  simp
  refine WC_drawB 44 (.F 0 <| .F 1 <| .F 2 <| .F 3 <| .F 4 <| .F 5 <| .F 6 <| .F 7 <| .F 8 <| .F 9 <| .F 10 <| .F 11 <| .F 12 <| .F 13 <| .F 14 <| .F 15 <| .F 16 <| .F 17 <| .F 18 <| .F 19 <| .F 20 <| .F 22 <| .F 23 <| .F 24 <| .F 25 <| .F 26 <| .F 27 <| .F 28 <| .C 21 <| .C 29 <| .F 30 <| .F 31 <| .F 32 <| .F 33 <| .F 34 <| .F 35 <| .F 36 <| .F 37 <| .F 39 <| .F 40 <| .F 41 <| .F 42 <| .F 43 <| .C 38 <| .Z) (fun _ => false) [[], [], [0, 1], [0, 1, 2], [0, 1, 2, 3], [0, 1, 2, 3], [0, 1, 2, 3, 4, 5], [0, 1, 2, 3, 4, 5, 6], [0, 1, 2, 3, 4, 5, 6, 7], [0, 1, 2, 3, 4, 5, 6, 7, 8], [0, 1, 2, 3, 4, 5, 6, 7, 8], [0, 1, 2, 3, 4, 5, 6, 7, 8, 9, 10], [0, 1, 2, 3, 4, 5, 6, 7, 8, 9, 10, 11], [0, 1, 2, 3, 4, 5, 6, 7, 8, 9, 10, 11, 12], [0, 1, 2, 3, 4, 5, 6, 7, 8, 9, 10, 11, 12, 13], [0, 1, 2, 3, 4, 5, 6, 7, 8, 9, 10, 11, 12, 13], [0, 1, 2, 3, 4, 5, 6, 7, 8, 9, 10, 11, 12, 13, 15], [0, 1, 2, 3, 4, 5, 6, 7, 8, 9, 10, 11, 12, 13], [0, 1, 2, 3, 4, 5, 6, 7, 8, 9, 10, 11, 12, 13, 17], [0, 1, 2, 3, 4, 5, 6, 7, 8, 9, 10, 11, 12, 13], [0, 1, 2, 3, 4, 5, 6, 7, 8, 9, 10, 11, 12, 13, 19], [0, 1, 2, 3, 4, 5, 6, 7, 8, 9, 10, 11, 12, 13, 14, 15, 16, 17, 18, 19, 20], [0, 1, 2, 3, 4, 5, 6, 7, 8, 9, 10, 11, 12, 13], [0, 1, 2, 3, 4, 5, 6, 7, 8, 9, 10, 11, 12, 13], [0, 1, 2, 3, 4, 5, 6, 7, 8, 9, 10, 11, 12, 13, 23], [0, 1, 2, 3, 4, 5, 6, 7, 8, 9, 10, 11, 12, 13], [0, 1, 2, 3, 4, 5, 6, 7, 8, 9, 10, 11, 12, 13, 25], [0, 1, 2, 3, 4, 5, 6, 7, 8, 9, 10, 11, 12, 13], [0, 1, 2, 3, 4, 5, 6, 7, 8, 9, 10, 11, 12, 13, 27], [0, 1, 2, 3, 4, 5, 6, 7, 8, 9, 10, 11, 12, 13, 14, 15, 16, 17, 18, 19, 20, 21, 22, 23, 24, 25, 26, 27, 28], [0, 1, 2, 3, 4, 5, 6, 7, 8, 9, 10, 11, 12, 13, 14, 15, 16, 17, 18, 19, 20, 21, 22, 23, 24, 25, 26, 27, 28, 29], [0, 1, 2, 3, 4, 5, 6, 7, 8, 9, 10, 11, 12, 13, 14, 15, 16, 17, 18, 19, 20, 21, 22, 23, 24, 25, 26, 27, 28, 29, 30], [0, 1, 2, 3, 4, 5, 6, 7, 8, 9, 10, 11, 12, 13, 14, 15, 16, 17, 18, 19, 20, 21, 22, 23, 24, 25, 26, 27, 28, 29, 30, 31], [0, 1, 2, 3, 4, 5, 6, 7, 8, 9, 10, 11, 12, 13, 14, 15, 16, 17, 18, 19, 20, 21, 22, 23, 24, 25, 26, 27, 28, 29, 30, 31, 32], [0, 1, 2, 3, 4, 5, 6, 7, 8, 9, 10, 11, 12, 13, 14, 15, 16, 17, 18, 19, 20, 21, 22, 23, 24, 25, 26, 27, 28, 29, 30, 31, 32], [0, 1, 2, 3, 4, 5, 6, 7, 8, 9, 10, 11, 12, 13, 14, 15, 16, 17, 18, 19, 20, 21, 22, 23, 24, 25, 26, 27, 28, 29, 30, 31, 32, 34], [0, 1, 2, 3, 4, 5, 6, 7, 8, 9, 10, 11, 12, 13, 14, 15, 16, 17, 18, 19, 20, 21, 22, 23, 24, 25, 26, 27, 28, 29, 30, 31, 32], [0, 1, 2, 3, 4, 5, 6, 7, 8, 9, 10, 11, 12, 13, 14, 15, 16, 17, 18, 19, 20, 21, 22, 23, 24, 25, 26, 27, 28, 29, 30, 31, 32, 36], [0, 1, 2, 3, 4, 5, 6, 7, 8, 9, 10, 11, 12, 13, 14, 15, 16, 17, 18, 19, 20, 21, 22, 23, 24, 25, 26, 27, 28, 29, 30, 31, 32, 33, 34, 35, 36, 37], [0, 1, 2, 3, 4, 5, 6, 7, 8, 9, 10, 11, 12, 13, 14, 15, 16, 17, 18, 19, 20, 21, 22, 23, 24, 25, 26, 27, 28, 29, 30, 31, 32], [0, 1, 2, 3, 4, 5, 6, 7, 8, 9, 10, 11, 12, 13, 14, 15, 16, 17, 18, 19, 20, 21, 22, 23, 24, 25, 26, 27, 28, 29, 30, 31, 32], [0, 1, 2, 3, 4, 5, 6, 7, 8, 9, 10, 11, 12, 13, 14, 15, 16, 17, 18, 19, 20, 21, 22, 23, 24, 25, 26, 27, 28, 29, 30, 31, 32, 40], [0, 1, 2, 3, 4, 5, 6, 7, 8, 9, 10, 11, 12, 13, 14, 15, 16, 17, 18, 19, 20, 21, 22, 23, 24, 25, 26, 27, 28, 29, 30, 31, 32], [0, 1, 2, 3, 4, 5, 6, 7, 8, 9, 10, 11, 12, 13, 14, 15, 16, 17, 18, 19, 20, 21, 22, 23, 24, 25, 26, 27, 28, 29, 30, 31, 32, 42]] rfl (by kernel_rfl) fun W hW => ?_
  have hWE : Ext w3 W := hW ▸ Ext.drew _
  have hX := (hE2.trans hE3).trans hWE
  have u1 := o1.ext hX
  have u2 := o2.ext hX
  have u3 := o3.ext hX
  simp [u1.cell 0 _ rfl, u1.cell 1 _ rfl, u1.cell 2 _ rfl, u1.cell 3 _ rfl, u1.cell 4 _ rfl, u2.cell 16 _ rfl, u3.cell 9 _ rfl, u3.cell 10 _ rfl]
  refine FN.mono (off_c (hB1.ext hX) q.r.node q.r.reg q.at') ?_
  rintro _ w4 ⟨rfl, hE4⟩
  rw [hT.off ho]
  simp
  refine KR_ext hE4 ?_
  simp
  have hX4 := hE1.trans (hX.trans hE4)
  refine FN.mono (hf w4 (h.ext hX4)) ?_
  rintro _ w5 ⟨rfl, hE5⟩
  simp
  refine KR_ext hE5 ?_
  have y1 := (u1.ext hE4).ext hE5
  have y2 := (u2.ext hE4).ext hE5
  have y3 := (u3.ext hE4).ext hE5
  simp [y1.cell 0 _ rfl, y1.cell 1 _ rfl, y1.cell 2 _ rfl, y1.cell 3 _ rfl, y1.cell 4 _ rfl, y2.cell 16 _ rfl, y3.cell 9 _ rfl]
  refine FN.mono (level_c ((hB1.ext (hX.trans hE4)).ext hE5) h0 q.r.node q.at') ?_
  rintro _ w6 ⟨L, rfl, hL, hE6⟩
  obtain rfl := hL.one (lvlD_isLvl hT h0 q.r.node q.at') h0
  simp
  refine KR_ext hE6 ?_
  simp
  refine FN.mono (hl w6 (h.ext ((hX4.trans hE5).trans hE6))) ?_
  rintro _ w7 ⟨rfl, hE7⟩
  simp
  exact ((hX4.trans hE5).trans hE6).trans hE7
end Go.Proofs
namespace Go.Proofs
open Pk
set_option maxRecDepth 10000
def isFor (q : Ac) : Prop := q.what = 4 ∨ q.what = 5
instance (q : Ac) : Decidable (isFor q) := by unfold isFor; infer_instance
def actB (b : Bd) (q : Ac) : Bd := if isAsk q then askB b q.r.node q.r.reg q.at' else if isAns q then ansB b q.r else if isFor q then foreBd b q.r else if q.what = 6 then pruB b q.at' else b
def actD (b : RB) (q : Ac) : RB := if isAsk q then rAskB b q.r.node q.r.reg q.at' else if isAns q then rAnsB b q.r else if isFor q then rForeB b q.r else if q.what = 6 then rPruB b q.at' else b
structure NumOk (b : RB) (i : Nat) : Prop where
  nd : (b.Q.map (·.n)).Nodup
  lt : ∀ q ∈ b.Q, 0 ≤ q.n ∧ q.n < b.n
  n : 0 ≤ b.n ∧ b.n ≤ i
structure Both (w : World) (t rF rQ rA : Nat) (B : Bd) (V : RV) (b : RB) (i : Nat) : Prop where
  bd : BdAt w t rF rQ rA B
  rb : RbAt w V b
  off : RbOff (Foot t rF rQ rA) V b
  tie : Tie B b
  ok : BOk B i
  num : NumOk b i
theorem NumOk.more {b : RB} {i j : Nat} (h : NumOk b i) (hj : i ≤ j) : NumOk b j := ⟨h.nd, h.lt, h.n.1, by have := h.n.2; omega⟩
theorem NumOk.sub {b b' : RB} {i : Nat} (h : NumOk b i) (hs : b'.Q.Sublist b.Q) (hn : b'.n = b.n) : NumOk b' (i + 1) :=
  ⟨h.nd.sublist (hs.map _), fun q hq => by rw [hn]; exact h.lt q (hs.subset hq), by rw [hn]; exact h.n.1, by have := h.n.2; rw [hn]; omega⟩
theorem NumOk.act {b : RB} {i : Nat} (h : NumOk b i) (hi : i ≤ 200) (q : Ac) : NumOk (actD b q) (i + 1) := by
  unfold actD
  split
  · unfold rAskB
    split
    · have hn := h.n
      have hw : IntKind.u32.wrap (b.n + 1) = b.n + 1 := wrap32u _ (by omega) (by omega)
      refine ⟨?_, fun y hy => ?_, ?_, ?_⟩
      · simp only [List.map_append, List.map_cons, List.map_nil]
        refine List.nodup_append.2 ⟨h.nd, by simp, fun x hx y hy => ?_⟩
        obtain ⟨z, hz, rfl⟩ := List.mem_map.1 hx
        have := h.lt z hz
        have hy' : y = b.n := by simpa using hy
        omega
      · simp only [hw]
        rcases List.mem_append.1 hy with hy | hy
        · have := h.lt y hy; omega
        · obtain rfl : y = _ := List.mem_singleton.1 hy
          exact ⟨hn.1, by simp only; omega⟩
      · simp only [hw]; omega
      · simp only [hw]; omega
    · exact h.more (by omega)
  split
  · unfold rAnsB
    split
    · refine h.sub ?_ rfl
      conv => rhs; rw [← List.take_append_drop (ixI b.Q (isQ q.r)).toNat b.Q]
      refine List.Sublist.append (List.Sublist.refl _) ?_
      rw [← List.drop_drop]
      exact List.drop_sublist _ _
    · exact h.more (by omega)
  split
  · unfold rForeB
    split
    · exact h.sub (List.Sublist.refl _) rfl
    · exact h.more (by omega)
  split
  · unfold rPruB
    split
    · exact h.sub List.filter_sublist rfl
    · exact h.more (by omega)
  · exact h.more (by omega)
theorem RbAt.off_new {w : World} {V : RV} {b : RB} {k : Nat} (h : RbAt w V b) (hk : w.heap.size ≤ k) : RbOff (fun j => j = k) V b := by
  refine ⟨fun hn e => ?_, fun hn e => ?_, fun hn e => ?_⟩
  · have := h.q.lt (by cases hb : b.Q with | nil => exact absurd hb hn | cons x l => simp [qC]); omega
  · have := h.a.lt (by cases hb : b.A with | nil => exact absurd hb hn | cons x l => simp [recC]); omega
  · have := h.f.lt (by cases hb : b.F with | nil => exact absurd hb hn | cons x l => simp [recC]); omega
theorem RbOff.sub {S T : Nat → Prop} {V : RV} {b : RB} (h : RbOff T V b) (hs : ∀ k, S k → T k) : RbOff S V b := ⟨fun hn hk => h.q hn (hs _ hk), fun hn hk => h.a hn (hs _ hk), fun hn hk => h.f hn (hs _ hk)⟩
theorem Kept.ext {w w1 : World} {V V' : RV} {b b' : RB} (h : Kept w1 V b V' b') (hE : Ext w w1) : Kept w V b V' b' := fun S hS => h S fun k hk => Nat.lt_of_lt_of_le (hS k hk) hE.size
/-- The end of a call by both. -/
theorem Both.done {w w1 w2 w4 w5 : World} {t rF rQ rA : Nat} {B B' : Bd} {V V' : RV} {b b' : RB} {i o : Nat} {S : Nat → Prop} (h : Both w t rF rQ rA B V b i) (hE0 : Ext w w1) (hE1 : Ext w1 w2) (hR : RbAt w2 V' b') (hK : Kept w1 V b V' b')
    (hB : BdAt w4 t rF rQ rA B') (hM : Mod S w2 w4) (hS : ∀ k, S k → Foot t rF rQ rA k) (hD : Mod (fun k => k = o) w4 w5) (ho : w.heap.size ≤ o) (ho1 : o < w1.heap.size) (hT : Tie B' b') (hk : BOk B' (i + 1)) (hn : NumOk b' (i + 1)) :
    Both w5 t rF rQ rA B' V' b' (i + 1) ∧ Mod (Foot t rF rQ rA) w w5 ∧ Kept w V b V' b' := by
  have hlt := h.bd.lt
  have hoF : ¬ Foot t rF rQ rA o := fun hf => by have := hlt o hf; omega
  have hof : RbOff (Foot t rF rQ rA) V' b' := hK _ (fun k hk => Nat.lt_of_lt_of_le (hlt k hk) hE0.size) h.off
  have hoo : RbOff (fun k => k = o) V' b' := hK _ (fun k hk => by rw [hk]; exact ho1) (h.rb.off_new ho)
  refine ⟨⟨hB.mod hD (fun k hk e => hoF (e ▸ hk)), (hR.mod hM (hof.sub hS)).mod hD hoo, hof, hT, hk, hn⟩, ?_, hK.ext hE0⟩
  refine ((hE0.trans hE1).mod.trans (hM.weaken hS)).trans' hD fun k hk => .inr ?_
  rw [hk]; exact ho
theorem Both.act {B : Bd} {b : RB} {i : Nat} (hT : Tie B b) (ho : Own B) (hk : BOk B i) {q : Ac} (hq : AcOk q) : Tie (actB B q) (actD b q) ∧ BOk (actB B q) (i + 1) := by
  unfold actB actD
  split
  · exact ⟨(hT.ask hq.r.node.1 hq.r.reg.1).2, hk.ask _ _ _ hq.at'⟩
  split
  · exact ⟨(hT.ans' ho q.r).2, hk.ans _⟩
  split
  · exact ⟨(hT.fore' ho q.r).2, hk.fore hq.r⟩
  split
  · exact ⟨(hT.prune q.at').1, hk.prune _⟩
  · exact ⟨hT, hk.more (by omega)⟩
def actTup (V : RV) (b : RB) : Value := .tuple #[rbV V b, .bool true]
end Go.Proofs
