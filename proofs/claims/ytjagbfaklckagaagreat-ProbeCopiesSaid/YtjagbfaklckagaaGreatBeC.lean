/-
  Contracts of the functions that the law reaches, step by step.
-/
import Derived.Test.YtjagbfaklckagaaGreatBeA
namespace Go.Proofs
open Pk
set_option maxRecDepth 10000
set_option maxHeartbeats 4000000 in
theorem act_ask {w : World} {t rF rQ rA : Nat} {B : Bd} {V : RV} {b : RB} {i : Nat} (h : Both w t rF rQ rA B V b i) (hi : i ≤ 200) {q : Ac} (hq : AcOk q) (hask : isAsk q) :
    FN Tryz.prog 17 [ptr t, rbV V b, acV q] w fun e w' => ∃ V', e = .returned (actTup V' (actD b q)) ∧ Both w' t rF rQ rA (actB B q) V' (actD b q) (i + 1) ∧ Mod (Foot t rF rQ rA) w w' ∧ Kept w V b V' (actD b q) := by
  refine FN_enter Tryz.func17 rfl rfl (by kernel_rfl) ?_
  have hB := h.bd
  have hR := h.rb
  have hT := h.tie
  have ho := hB.keys
  have hnext := Both.act hT ho h.ok hq
  have hnum := h.num.act hi q
  have lQ : b.Q.length ≤ 1000 := by have := h.ok.lq; rw [hT.lenQ] at this; omega
  have lA : b.A.length ≤ 1000 := by have := h.ok.la; rw [hT.lenA] at this; omega
  have lF : b.F.length ≤ 1000 := by have := h.ok.lf; rw [hT.lenF] at this; omega
  have hQn : ∀ y ∈ b.Q, (0 ≤ y.n ∧ y.n ≤ 4294967295) ∧ 0 ≤ y.a := fun y hy => h.ok.q (qE y) (hT.q.mem_iff.2 (List.mem_map.2 ⟨y, hy, rfl⟩))
  have hp0 : 0 ≤ b.p := by rw [← hT.p]; exact h.ok.p
  have hltF := hB.lt
  have rask := fun w (h : RbAt w V b) => rask_c h lQ q.r.node q.r.reg q.at'
  have rans := fun w (h : RbAt w V b) => rans_c h (fun y hy => (hQn y hy).1) lQ lA hq.r
  have rfor := fun w (h : RbAt w V b) => rfore_c h lF hq.r
  have rpru := fun w (h : RbAt w V b) => rprune_c h (fun y hy => (hQn y hy).2) hp0 lQ lA lF q.at'
  have hkf := h.ok.f
  have rtel := fun w (hb : BdAt w t rF rQ rA B) (h : RbAt w V b) (x : Ac) => tells_c hb h hT hkf lA lF x
  obtain ⟨qa, qc, aa, ac, fa, fc, rfl⟩ := hR.open
  simp
  have hE1 : Ext w ((((w.alloc (.cells #[.slice qa b.Q.length qc, .slice aa b.A.length ac, .slice fa b.F.length fc, u64 b.p, u32 b.n] 53)).alloc (.cells #[i64 q.what, i64 q.r.kind, u32 q.r.nn, u32 q.r.ns, u64 q.r.nt, u32 q.r.nq, i64 q.r.what, i64 q.r.why, u64 q.r.at', u64 q.r.num, u32 q.r.node, u32 q.r.reg, .bool q.r.yes, u64 q.r.fro, u64 q.r.til, u8 q.r.lev, u64 q.at'] 45)).alloc (.cells #[.slice none 0 0, .slice none 0 0, .slice none 0 0, u64 0, u32 0] 53)).alloc (.cells #[i64 q.r.kind, u32 q.r.nn, u32 q.r.ns, u64 q.r.nt, u32 q.r.nq, i64 q.r.what, i64 q.r.why, u64 q.r.at', u64 q.r.num, u32 q.r.node, u32 q.r.reg, .bool q.r.yes, u64 q.r.fro, u64 q.r.til, u8 q.r.lev] 38)) := ((((Ext.refl _).alloc _).alloc _).alloc _).alloc _
  have o1 : Blk ((((w.alloc (.cells #[.slice qa b.Q.length qc, .slice aa b.A.length ac, .slice fa b.F.length fc, u64 b.p, u32 b.n] 53)).alloc (.cells #[i64 q.what, i64 q.r.kind, u32 q.r.nn, u32 q.r.ns, u64 q.r.nt, u32 q.r.nq, i64 q.r.what, i64 q.r.why, u64 q.r.at', u64 q.r.num, u32 q.r.node, u32 q.r.reg, .bool q.r.yes, u64 q.r.fro, u64 q.r.til, u8 q.r.lev, u64 q.at'] 45)).alloc (.cells #[.slice none 0 0, .slice none 0 0, .slice none 0 0, u64 0, u32 0] 53)).alloc (.cells #[i64 q.r.kind, u32 q.r.nn, u32 q.r.ns, u64 q.r.nt, u32 q.r.nq, i64 q.r.what, i64 q.r.why, u64 q.r.at', u64 q.r.num, u32 q.r.node, u32 q.r.reg, .bool q.r.yes, u64 q.r.fro, u64 q.r.til, u8 q.r.lev] 38)) w.heap.size [.slice qa b.Q.length qc, .slice aa b.A.length ac, .slice fa b.F.length fc, u64 b.p, u32 b.n] := (Blk.new w _ _).ext ((((Ext.refl _).alloc _).alloc _).alloc _)
  have o2 : Blk ((((w.alloc (.cells #[.slice qa b.Q.length qc, .slice aa b.A.length ac, .slice fa b.F.length fc, u64 b.p, u32 b.n] 53)).alloc (.cells #[i64 q.what, i64 q.r.kind, u32 q.r.nn, u32 q.r.ns, u64 q.r.nt, u32 q.r.nq, i64 q.r.what, i64 q.r.why, u64 q.r.at', u64 q.r.num, u32 q.r.node, u32 q.r.reg, .bool q.r.yes, u64 q.r.fro, u64 q.r.til, u8 q.r.lev, u64 q.at'] 45)).alloc (.cells #[.slice none 0 0, .slice none 0 0, .slice none 0 0, u64 0, u32 0] 53)).alloc (.cells #[i64 q.r.kind, u32 q.r.nn, u32 q.r.ns, u64 q.r.nt, u32 q.r.nq, i64 q.r.what, i64 q.r.why, u64 q.r.at', u64 q.r.num, u32 q.r.node, u32 q.r.reg, .bool q.r.yes, u64 q.r.fro, u64 q.r.til, u8 q.r.lev] 38)) (w.heap.size + 1) (acC q) := by
    have := (Blk.new (w.alloc (.cells #[.slice qa b.Q.length qc, .slice aa b.A.length ac, .slice fa b.F.length fc, u64 b.p, u32 b.n] 53)) (acC q) 45).ext (((Ext.refl _).alloc (.cells #[.slice none 0 0, .slice none 0 0, .slice none 0 0, u64 0, u32 0] 53)).alloc (.cells #[i64 q.r.kind, u32 q.r.nn, u32 q.r.ns, u64 q.r.nt, u32 q.r.nq, i64 q.r.what, i64 q.r.why, u64 q.r.at', u64 q.r.num, u32 q.r.node, u32 q.r.reg, .bool q.r.yes, u64 q.r.fro, u64 q.r.til, u8 q.r.lev] 38))
    simp only [World.size_alloc] at this; exact this
  have o3 : Blk ((((w.alloc (.cells #[.slice qa b.Q.length qc, .slice aa b.A.length ac, .slice fa b.F.length fc, u64 b.p, u32 b.n] 53)).alloc (.cells #[i64 q.what, i64 q.r.kind, u32 q.r.nn, u32 q.r.ns, u64 q.r.nt, u32 q.r.nq, i64 q.r.what, i64 q.r.why, u64 q.r.at', u64 q.r.num, u32 q.r.node, u32 q.r.reg, .bool q.r.yes, u64 q.r.fro, u64 q.r.til, u8 q.r.lev, u64 q.at'] 45)).alloc (.cells #[.slice none 0 0, .slice none 0 0, .slice none 0 0, u64 0, u32 0] 53)).alloc (.cells #[i64 q.r.kind, u32 q.r.nn, u32 q.r.ns, u64 q.r.nt, u32 q.r.nq, i64 q.r.what, i64 q.r.why, u64 q.r.at', u64 q.r.num, u32 q.r.node, u32 q.r.reg, .bool q.r.yes, u64 q.r.fro, u64 q.r.til, u8 q.r.lev] 38)) (w.heap.size + 1 + 1) [.slice none 0 0, .slice none 0 0, .slice none 0 0, u64 0, u32 0] := by
    have := (Blk.new ((w.alloc (.cells #[.slice qa b.Q.length qc, .slice aa b.A.length ac, .slice fa b.F.length fc, u64 b.p, u32 b.n] 53)).alloc (.cells #[i64 q.what, i64 q.r.kind, u32 q.r.nn, u32 q.r.ns, u64 q.r.nt, u32 q.r.nq, i64 q.r.what, i64 q.r.why, u64 q.r.at', u64 q.r.num, u32 q.r.node, u32 q.r.reg, .bool q.r.yes, u64 q.r.fro, u64 q.r.til, u8 q.r.lev, u64 q.at'] 45)) [.slice none 0 0, .slice none 0 0, .slice none 0 0, u64 0, u32 0] 53).ext ((Ext.refl _).alloc (.cells #[i64 q.r.kind, u32 q.r.nn, u32 q.r.ns, u64 q.r.nt, u32 q.r.nq, i64 q.r.what, i64 q.r.why, u64 q.r.at', u64 q.r.num, u32 q.r.node, u32 q.r.reg, .bool q.r.yes, u64 q.r.fro, u64 q.r.til, u8 q.r.lev] 38))
    simp only [World.size_alloc] at this; exact this
  have o4 : Blk ((((w.alloc (.cells #[.slice qa b.Q.length qc, .slice aa b.A.length ac, .slice fa b.F.length fc, u64 b.p, u32 b.n] 53)).alloc (.cells #[i64 q.what, i64 q.r.kind, u32 q.r.nn, u32 q.r.ns, u64 q.r.nt, u32 q.r.nq, i64 q.r.what, i64 q.r.why, u64 q.r.at', u64 q.r.num, u32 q.r.node, u32 q.r.reg, .bool q.r.yes, u64 q.r.fro, u64 q.r.til, u8 q.r.lev, u64 q.at'] 45)).alloc (.cells #[.slice none 0 0, .slice none 0 0, .slice none 0 0, u64 0, u32 0] 53)).alloc (.cells #[i64 q.r.kind, u32 q.r.nn, u32 q.r.ns, u64 q.r.nt, u32 q.r.nq, i64 q.r.what, i64 q.r.why, u64 q.r.at', u64 q.r.num, u32 q.r.node, u32 q.r.reg, .bool q.r.yes, u64 q.r.fro, u64 q.r.til, u8 q.r.lev] 38)) (w.heap.size + 1 + 1 + 1) (recC q.r) := by
    have := Blk.new (((w.alloc (.cells #[.slice qa b.Q.length qc, .slice aa b.A.length ac, .slice fa b.F.length fc, u64 b.p, u32 b.n] 53)).alloc (.cells #[i64 q.what, i64 q.r.kind, u32 q.r.nn, u32 q.r.ns, u64 q.r.nt, u32 q.r.nq, i64 q.r.what, i64 q.r.why, u64 q.r.at', u64 q.r.num, u32 q.r.node, u32 q.r.reg, .bool q.r.yes, u64 q.r.fro, u64 q.r.til, u8 q.r.lev, u64 q.at'] 45)).alloc (.cells #[.slice none 0 0, .slice none 0 0, .slice none 0 0, u64 0, u32 0] 53)) (recC q.r) 38
    simp only [World.size_alloc] at this; exact this
  have s1 : ((((w.alloc (.cells #[.slice qa b.Q.length qc, .slice aa b.A.length ac, .slice fa b.F.length fc, u64 b.p, u32 b.n] 53)).alloc (.cells #[i64 q.what, i64 q.r.kind, u32 q.r.nn, u32 q.r.ns, u64 q.r.nt, u32 q.r.nq, i64 q.r.what, i64 q.r.why, u64 q.r.at', u64 q.r.num, u32 q.r.node, u32 q.r.reg, .bool q.r.yes, u64 q.r.fro, u64 q.r.til, u8 q.r.lev, u64 q.at'] 45)).alloc (.cells #[.slice none 0 0, .slice none 0 0, .slice none 0 0, u64 0, u32 0] 53)).alloc (.cells #[i64 q.r.kind, u32 q.r.nn, u32 q.r.ns, u64 q.r.nt, u32 q.r.nq, i64 q.r.what, i64 q.r.why, u64 q.r.at', u64 q.r.num, u32 q.r.node, u32 q.r.reg, .bool q.r.yes, u64 q.r.fro, u64 q.r.til, u8 q.r.lev] 38)).heap.size = w.heap.size + 1 + 1 + 1 + 1 := by simp
  generalize ((((w.alloc (.cells #[.slice qa b.Q.length qc, .slice aa b.A.length ac, .slice fa b.F.length fc, u64 b.p, u32 b.n] 53)).alloc (.cells #[i64 q.what, i64 q.r.kind, u32 q.r.nn, u32 q.r.ns, u64 q.r.nt, u32 q.r.nq, i64 q.r.what, i64 q.r.why, u64 q.r.at', u64 q.r.num, u32 q.r.node, u32 q.r.reg, .bool q.r.yes, u64 q.r.fro, u64 q.r.til, u8 q.r.lev, u64 q.at'] 45)).alloc (.cells #[.slice none 0 0, .slice none 0 0, .slice none 0 0, u64 0, u32 0] 53)).alloc (.cells #[i64 q.r.kind, u32 q.r.nn, u32 q.r.ns, u64 q.r.nt, u32 q.r.nq, i64 q.r.what, i64 q.r.why, u64 q.r.at', u64 q.r.num, u32 q.r.node, u32 q.r.reg, .bool q.r.yes, u64 q.r.fro, u64 q.r.til, u8 q.r.lev] 38)) = w1 at *
  have hB1 := hB.ext hE1
  have hR1 := hR.ext hE1
  have eB : actB B q = askB B q.r.node q.r.reg q.at' := by unfold actB; rw [if_pos hask]
  have eD : actD b q = rAskB b q.r.node q.r.reg q.at' := by unfold actD; rw [if_pos hask]
  rw [eB, eD]
  rw [eB, eD] at hnext
  rw [eD] at hnum
  rcases hask with g | g
  all_goals
    simp [beq_dec, g, o1.cell 0 _ rfl, o1.cell 1 _ rfl, o1.cell 2 _ rfl, o1.cell 3 _ rfl, o1.cell 4 _ rfl, o2.cell 16 _ rfl, o4.cell 9 _ rfl, o4.cell 10 _ rfl]
    obtain ⟨n', hn'⟩ : ∃ n', n' = (if rAskR b q.r.node q.r.reg q.at' = 0 then b.n else 0) := ⟨_, rfl⟩
    obtain ⟨c', hc'⟩ : ∃ c', c' = rAskR b q.r.node q.r.reg q.at' := ⟨_, rfl⟩
    obtain ⟨b', hb'⟩ : ∃ b', b' = rAskB b q.r.node q.r.reg q.at' := ⟨_, rfl⟩
    have rask' := rask w1 hR1
    rw [← hn', ← hc', ← hb'] at rask'
    rw [← hb'] at hnext hnum ⊢
    have eR := (hT.ask (a := q.at') hq.r.node.1 hq.r.reg.1).1
    rw [eR] at hn' hc'
    rw [← hT.n] at hn'
    refine FN.mono (rask') ?_
    rintro _ w2 ⟨V', rfl, hR2, hE2, hK⟩
    obtain ⟨qa', qc', aa', ac', fa', fc', rfl⟩ := hR2.open
    have p2 := o2.ext hE2
    have p3 := o3.ext hE2
    have p4 := o4.ext hE2
    have x1 := Blk.new w2 [.slice qa' b'.Q.length qc', .slice aa' b'.A.length ac', .slice fa' b'.F.length fc', u64 b'.p, u32 b'.n] 53
    simp [rTup, p2.cell 16 _ rfl, p4.cell 9 _ rfl, p4.cell 10 _ rfl]
    have hE3 : Ext w2 (w2.alloc (.cells #[.slice qa' b'.Q.length qc', .slice aa' b'.A.length ac', .slice fa' b'.F.length fc', u64 b'.p, u32 b'.n] 53)) := (Ext.refl _).alloc _
    have hB3 := (hB1.ext hE2).ext hE3
    have z1 := hE2.size
    generalize (w2.alloc (.cells #[.slice qa' b'.Q.length qc', .slice aa' b'.A.length ac', .slice fa' b'.F.length fc', u64 b'.p, u32 b'.n] 53)) = w3 at *
    have hX3 := hE2.trans hE3
    refine FN.mono (ask_c hB3 q.r.node q.r.reg q.at') ?_
    rintro _ w4 ⟨rfl, hB4, hM4⟩
    rw [← hn', ← hc']
    have z2 := hM4.size
    have z3 := hE3.size
    have nF : ∀ k, w.heap.size ≤ k → ¬ (k = t ∨ k = rQ) := fun k hk e => by have := hltF k (by rcases e with e | e; exact .inl e; exact .inr (.inr (.inl e))); omega
    have x1' := x1.mod hM4 (nF _ (by omega))
    have p3' := (p3.ext hE3).mod hM4 (nF _ (by omega))
    simp
    refine WC_drawL 11 (.F 0 <| .F 1 <| .F 2 <| .F 3 <| .F 4 <| .F 5 <| .F 7 <| .C 6 <| .F 8 <| .F 9 <| .S 10 <| .Z) (fun _ => false) (fun _ => false) (fun _ _ _ => True) rfl (by kernel_rfl) (fun _ h => h) (fun _ _ _ _ _ _ => trivial) fun W hW => ?_
    have hWE : Ext w4 W := hW ▸ Ext.drew w4
    have x6 := x1'.ext hWE
    have o6 := p3'.ext hWE
    simp [x6.cell 0 _ rfl, x6.cell 1 _ rfl, x6.cell 2 _ rfl, x6.cell 3 _ rfl, x6.cell 4 _ rfl]
    refine FN.mono (num_c c' W) ?_
    rintro _ W2 ⟨rfl, rfl⟩
    simp
    refine KR_same ?_
    simp [o6.cell 0 _ rfl, o6.cell 1 _ rfl, o6.cell 2 _ rfl, o6.cell 3 _ rfl, o6.cell 4 _ rfl, o6.thaw, cell_setCell]
    refine KR_mk (agr_any (((((Mod.refl _ W2).any _ _).any _ _).any _ _).any _ _ |>.any _ _)) ?_
    have hD : Mod (fun k => k = w.heap.size + 1 + 1) W2 (((((W2.setCell ⟨w.heap.size + 1 + 1, 0, none⟩ (.slice qa' b'.Q.length qc')).setCell ⟨w.heap.size + 1 + 1, 1, none⟩ (.slice aa' b'.A.length ac')).setCell ⟨w.heap.size + 1 + 1, 2, none⟩ (.slice fa' b'.F.length fc')).setCell ⟨w.heap.size + 1 + 1, 3, none⟩ (u64 b'.p)).setCell ⟨w.heap.size + 1 + 1, 4, none⟩ (u32 b'.n)) := (((((Mod.refl _ _).setC _ _).setC _ _).setC _ _).setC _ _).setC _ _
    have hfin := h.done hE1 hX3 (hR2.ext hE3) hK hB4 hM4 (fun k hk => by rcases hk with e | e; exact .inl e; exact .inr (.inr (.inl e))) (hWE.mod.trans hD) (by omega) (by omega) hnext.1 hnext.2 hnum
    simp [o6.cell 0 _ rfl, o6.cell 1 _ rfl, o6.cell 2 _ rfl, o6.cell 3 _ rfl, o6.cell 4 _ rfl, cell_setCell]
    refine ⟨_, rfl, hfin⟩
end Go.Proofs
namespace Go.Proofs
open Pk
set_option maxRecDepth 10000
set_option maxHeartbeats 4000000 in
theorem act_ans {w : World} {t rF rQ rA : Nat} {B : Bd} {V : RV} {b : RB} {i : Nat} (h : Both w t rF rQ rA B V b i) (hi : i ≤ 200) {q : Ac} (hq : AcOk q) (hask : ¬ isAsk q) (hans : isAns q) :
    FN Tryz.prog 17 [ptr t, rbV V b, acV q] w fun e w' => ∃ V', e = .returned (actTup V' (actD b q)) ∧ Both w' t rF rQ rA (actB B q) V' (actD b q) (i + 1) ∧ Mod (Foot t rF rQ rA) w w' ∧ Kept w V b V' (actD b q) := by
  refine FN_enter Tryz.func17 rfl rfl (by kernel_rfl) ?_
  have hB := h.bd
  have hR := h.rb
  have hT := h.tie
  have ho := hB.keys
  have hnext := Both.act hT ho h.ok hq
  have hnum := h.num.act hi q
  have lQ : b.Q.length ≤ 1000 := by have := h.ok.lq; rw [hT.lenQ] at this; omega
  have lA : b.A.length ≤ 1000 := by have := h.ok.la; rw [hT.lenA] at this; omega
  have lF : b.F.length ≤ 1000 := by have := h.ok.lf; rw [hT.lenF] at this; omega
  have hQn : ∀ y ∈ b.Q, (0 ≤ y.n ∧ y.n ≤ 4294967295) ∧ 0 ≤ y.a := fun y hy => h.ok.q (qE y) (hT.q.mem_iff.2 (List.mem_map.2 ⟨y, hy, rfl⟩))
  have hp0 : 0 ≤ b.p := by rw [← hT.p]; exact h.ok.p
  have hltF := hB.lt
  have rask := fun w (h : RbAt w V b) => rask_c h lQ q.r.node q.r.reg q.at'
  have rans := fun w (h : RbAt w V b) => rans_c h (fun y hy => (hQn y hy).1) lQ lA hq.r
  have rfor := fun w (h : RbAt w V b) => rfore_c h lF hq.r
  have rpru := fun w (h : RbAt w V b) => rprune_c h (fun y hy => (hQn y hy).2) hp0 lQ lA lF q.at'
  have hkf := h.ok.f
  have rtel := fun w (hb : BdAt w t rF rQ rA B) (h : RbAt w V b) (x : Ac) => tells_c hb h hT hkf lA lF x
  obtain ⟨qa, qc, aa, ac, fa, fc, rfl⟩ := hR.open
  simp
  have hE1 : Ext w ((((w.alloc (.cells #[.slice qa b.Q.length qc, .slice aa b.A.length ac, .slice fa b.F.length fc, u64 b.p, u32 b.n] 53)).alloc (.cells #[i64 q.what, i64 q.r.kind, u32 q.r.nn, u32 q.r.ns, u64 q.r.nt, u32 q.r.nq, i64 q.r.what, i64 q.r.why, u64 q.r.at', u64 q.r.num, u32 q.r.node, u32 q.r.reg, .bool q.r.yes, u64 q.r.fro, u64 q.r.til, u8 q.r.lev, u64 q.at'] 45)).alloc (.cells #[.slice none 0 0, .slice none 0 0, .slice none 0 0, u64 0, u32 0] 53)).alloc (.cells #[i64 q.r.kind, u32 q.r.nn, u32 q.r.ns, u64 q.r.nt, u32 q.r.nq, i64 q.r.what, i64 q.r.why, u64 q.r.at', u64 q.r.num, u32 q.r.node, u32 q.r.reg, .bool q.r.yes, u64 q.r.fro, u64 q.r.til, u8 q.r.lev] 38)) := ((((Ext.refl _).alloc _).alloc _).alloc _).alloc _
  have o1 : Blk ((((w.alloc (.cells #[.slice qa b.Q.length qc, .slice aa b.A.length ac, .slice fa b.F.length fc, u64 b.p, u32 b.n] 53)).alloc (.cells #[i64 q.what, i64 q.r.kind, u32 q.r.nn, u32 q.r.ns, u64 q.r.nt, u32 q.r.nq, i64 q.r.what, i64 q.r.why, u64 q.r.at', u64 q.r.num, u32 q.r.node, u32 q.r.reg, .bool q.r.yes, u64 q.r.fro, u64 q.r.til, u8 q.r.lev, u64 q.at'] 45)).alloc (.cells #[.slice none 0 0, .slice none 0 0, .slice none 0 0, u64 0, u32 0] 53)).alloc (.cells #[i64 q.r.kind, u32 q.r.nn, u32 q.r.ns, u64 q.r.nt, u32 q.r.nq, i64 q.r.what, i64 q.r.why, u64 q.r.at', u64 q.r.num, u32 q.r.node, u32 q.r.reg, .bool q.r.yes, u64 q.r.fro, u64 q.r.til, u8 q.r.lev] 38)) w.heap.size [.slice qa b.Q.length qc, .slice aa b.A.length ac, .slice fa b.F.length fc, u64 b.p, u32 b.n] := (Blk.new w _ _).ext ((((Ext.refl _).alloc _).alloc _).alloc _)
  have o2 : Blk ((((w.alloc (.cells #[.slice qa b.Q.length qc, .slice aa b.A.length ac, .slice fa b.F.length fc, u64 b.p, u32 b.n] 53)).alloc (.cells #[i64 q.what, i64 q.r.kind, u32 q.r.nn, u32 q.r.ns, u64 q.r.nt, u32 q.r.nq, i64 q.r.what, i64 q.r.why, u64 q.r.at', u64 q.r.num, u32 q.r.node, u32 q.r.reg, .bool q.r.yes, u64 q.r.fro, u64 q.r.til, u8 q.r.lev, u64 q.at'] 45)).alloc (.cells #[.slice none 0 0, .slice none 0 0, .slice none 0 0, u64 0, u32 0] 53)).alloc (.cells #[i64 q.r.kind, u32 q.r.nn, u32 q.r.ns, u64 q.r.nt, u32 q.r.nq, i64 q.r.what, i64 q.r.why, u64 q.r.at', u64 q.r.num, u32 q.r.node, u32 q.r.reg, .bool q.r.yes, u64 q.r.fro, u64 q.r.til, u8 q.r.lev] 38)) (w.heap.size + 1) (acC q) := by
    have := (Blk.new (w.alloc (.cells #[.slice qa b.Q.length qc, .slice aa b.A.length ac, .slice fa b.F.length fc, u64 b.p, u32 b.n] 53)) (acC q) 45).ext (((Ext.refl _).alloc (.cells #[.slice none 0 0, .slice none 0 0, .slice none 0 0, u64 0, u32 0] 53)).alloc (.cells #[i64 q.r.kind, u32 q.r.nn, u32 q.r.ns, u64 q.r.nt, u32 q.r.nq, i64 q.r.what, i64 q.r.why, u64 q.r.at', u64 q.r.num, u32 q.r.node, u32 q.r.reg, .bool q.r.yes, u64 q.r.fro, u64 q.r.til, u8 q.r.lev] 38))
    simp only [World.size_alloc] at this; exact this
  have o3 : Blk ((((w.alloc (.cells #[.slice qa b.Q.length qc, .slice aa b.A.length ac, .slice fa b.F.length fc, u64 b.p, u32 b.n] 53)).alloc (.cells #[i64 q.what, i64 q.r.kind, u32 q.r.nn, u32 q.r.ns, u64 q.r.nt, u32 q.r.nq, i64 q.r.what, i64 q.r.why, u64 q.r.at', u64 q.r.num, u32 q.r.node, u32 q.r.reg, .bool q.r.yes, u64 q.r.fro, u64 q.r.til, u8 q.r.lev, u64 q.at'] 45)).alloc (.cells #[.slice none 0 0, .slice none 0 0, .slice none 0 0, u64 0, u32 0] 53)).alloc (.cells #[i64 q.r.kind, u32 q.r.nn, u32 q.r.ns, u64 q.r.nt, u32 q.r.nq, i64 q.r.what, i64 q.r.why, u64 q.r.at', u64 q.r.num, u32 q.r.node, u32 q.r.reg, .bool q.r.yes, u64 q.r.fro, u64 q.r.til, u8 q.r.lev] 38)) (w.heap.size + 1 + 1) [.slice none 0 0, .slice none 0 0, .slice none 0 0, u64 0, u32 0] := by
    have := (Blk.new ((w.alloc (.cells #[.slice qa b.Q.length qc, .slice aa b.A.length ac, .slice fa b.F.length fc, u64 b.p, u32 b.n] 53)).alloc (.cells #[i64 q.what, i64 q.r.kind, u32 q.r.nn, u32 q.r.ns, u64 q.r.nt, u32 q.r.nq, i64 q.r.what, i64 q.r.why, u64 q.r.at', u64 q.r.num, u32 q.r.node, u32 q.r.reg, .bool q.r.yes, u64 q.r.fro, u64 q.r.til, u8 q.r.lev, u64 q.at'] 45)) [.slice none 0 0, .slice none 0 0, .slice none 0 0, u64 0, u32 0] 53).ext ((Ext.refl _).alloc (.cells #[i64 q.r.kind, u32 q.r.nn, u32 q.r.ns, u64 q.r.nt, u32 q.r.nq, i64 q.r.what, i64 q.r.why, u64 q.r.at', u64 q.r.num, u32 q.r.node, u32 q.r.reg, .bool q.r.yes, u64 q.r.fro, u64 q.r.til, u8 q.r.lev] 38))
    simp only [World.size_alloc] at this; exact this
  have o4 : Blk ((((w.alloc (.cells #[.slice qa b.Q.length qc, .slice aa b.A.length ac, .slice fa b.F.length fc, u64 b.p, u32 b.n] 53)).alloc (.cells #[i64 q.what, i64 q.r.kind, u32 q.r.nn, u32 q.r.ns, u64 q.r.nt, u32 q.r.nq, i64 q.r.what, i64 q.r.why, u64 q.r.at', u64 q.r.num, u32 q.r.node, u32 q.r.reg, .bool q.r.yes, u64 q.r.fro, u64 q.r.til, u8 q.r.lev, u64 q.at'] 45)).alloc (.cells #[.slice none 0 0, .slice none 0 0, .slice none 0 0, u64 0, u32 0] 53)).alloc (.cells #[i64 q.r.kind, u32 q.r.nn, u32 q.r.ns, u64 q.r.nt, u32 q.r.nq, i64 q.r.what, i64 q.r.why, u64 q.r.at', u64 q.r.num, u32 q.r.node, u32 q.r.reg, .bool q.r.yes, u64 q.r.fro, u64 q.r.til, u8 q.r.lev] 38)) (w.heap.size + 1 + 1 + 1) (recC q.r) := by
    have := Blk.new (((w.alloc (.cells #[.slice qa b.Q.length qc, .slice aa b.A.length ac, .slice fa b.F.length fc, u64 b.p, u32 b.n] 53)).alloc (.cells #[i64 q.what, i64 q.r.kind, u32 q.r.nn, u32 q.r.ns, u64 q.r.nt, u32 q.r.nq, i64 q.r.what, i64 q.r.why, u64 q.r.at', u64 q.r.num, u32 q.r.node, u32 q.r.reg, .bool q.r.yes, u64 q.r.fro, u64 q.r.til, u8 q.r.lev, u64 q.at'] 45)).alloc (.cells #[.slice none 0 0, .slice none 0 0, .slice none 0 0, u64 0, u32 0] 53)) (recC q.r) 38
    simp only [World.size_alloc] at this; exact this
  have s1 : ((((w.alloc (.cells #[.slice qa b.Q.length qc, .slice aa b.A.length ac, .slice fa b.F.length fc, u64 b.p, u32 b.n] 53)).alloc (.cells #[i64 q.what, i64 q.r.kind, u32 q.r.nn, u32 q.r.ns, u64 q.r.nt, u32 q.r.nq, i64 q.r.what, i64 q.r.why, u64 q.r.at', u64 q.r.num, u32 q.r.node, u32 q.r.reg, .bool q.r.yes, u64 q.r.fro, u64 q.r.til, u8 q.r.lev, u64 q.at'] 45)).alloc (.cells #[.slice none 0 0, .slice none 0 0, .slice none 0 0, u64 0, u32 0] 53)).alloc (.cells #[i64 q.r.kind, u32 q.r.nn, u32 q.r.ns, u64 q.r.nt, u32 q.r.nq, i64 q.r.what, i64 q.r.why, u64 q.r.at', u64 q.r.num, u32 q.r.node, u32 q.r.reg, .bool q.r.yes, u64 q.r.fro, u64 q.r.til, u8 q.r.lev] 38)).heap.size = w.heap.size + 1 + 1 + 1 + 1 := by simp
  generalize ((((w.alloc (.cells #[.slice qa b.Q.length qc, .slice aa b.A.length ac, .slice fa b.F.length fc, u64 b.p, u32 b.n] 53)).alloc (.cells #[i64 q.what, i64 q.r.kind, u32 q.r.nn, u32 q.r.ns, u64 q.r.nt, u32 q.r.nq, i64 q.r.what, i64 q.r.why, u64 q.r.at', u64 q.r.num, u32 q.r.node, u32 q.r.reg, .bool q.r.yes, u64 q.r.fro, u64 q.r.til, u8 q.r.lev, u64 q.at'] 45)).alloc (.cells #[.slice none 0 0, .slice none 0 0, .slice none 0 0, u64 0, u32 0] 53)).alloc (.cells #[i64 q.r.kind, u32 q.r.nn, u32 q.r.ns, u64 q.r.nt, u32 q.r.nq, i64 q.r.what, i64 q.r.why, u64 q.r.at', u64 q.r.num, u32 q.r.node, u32 q.r.reg, .bool q.r.yes, u64 q.r.fro, u64 q.r.til, u8 q.r.lev] 38)) = w1 at *
  have hB1 := hB.ext hE1
  have hR1 := hR.ext hE1
  have eB : actB B q = ansB B q.r := by unfold actB; rw [if_neg hask, if_pos hans]
  have eD : actD b q = rAnsB b q.r := by unfold actD; rw [if_neg hask, if_pos hans]
  rw [eB, eD]
  rw [eB, eD] at hnext
  rw [eD] at hnum
  rcases hans with g | g
  all_goals
    simp [beq_dec, g, o1.cell 0 _ rfl, o1.cell 1 _ rfl, o1.cell 2 _ rfl, o1.cell 3 _ rfl, o1.cell 4 _ rfl, o4.cell 0 _ rfl, o4.cell 1 _ rfl, o4.cell 2 _ rfl, o4.cell 3 _ rfl, o4.cell 4 _ rfl, o4.cell 5 _ rfl, o4.cell 6 _ rfl, o4.cell 7 _ rfl, o4.cell 8 _ rfl, o4.cell 9 _ rfl, o4.cell 10 _ rfl, o4.cell 11 _ rfl, o4.cell 12 _ rfl, o4.cell 13 _ rfl, o4.cell 14 _ rfl]
    obtain ⟨c', hc'⟩ : ∃ c', c' = rAnsR b q.r := ⟨_, rfl⟩
    obtain ⟨b', hb'⟩ : ∃ b', b' = rAnsB b q.r := ⟨_, rfl⟩
    have rans' := rans w1 hR1
    rw [← hc', ← hb'] at rans'
    rw [← hb'] at hnext hnum ⊢
    rw [(hT.ans' ho q.r).1] at hc'
    refine FN.mono (rans') ?_
    rintro _ w2 ⟨V', rfl, hR2, hE2, hK⟩
    obtain ⟨qa', qc', aa', ac', fa', fc', rfl⟩ := hR2.open
    have p3 := o3.ext hE2
    have p4 := o4.ext hE2
    have x1 := Blk.new w2 [.slice qa' b'.Q.length qc', .slice aa' b'.A.length ac', .slice fa' b'.F.length fc', u64 b'.p, u32 b'.n] 53
    simp [rTup2]
    have hE3 : Ext w2 (w2.alloc (.cells #[.slice qa' b'.Q.length qc', .slice aa' b'.A.length ac', .slice fa' b'.F.length fc', u64 b'.p, u32 b'.n] 53)) := (Ext.refl _).alloc _
    have hB3 := (hB1.ext hE2).ext hE3
    have z1 := hE2.size
    generalize (w2.alloc (.cells #[.slice qa' b'.Q.length qc', .slice aa' b'.A.length ac', .slice fa' b'.F.length fc', u64 b'.p, u32 b'.n] 53)) = w3 at *
    have hX3 := hE2.trans hE3
    have z3 := hE3.size
    refine WC_drawL 8 (.F 0 <| .F 1 <| .F 2 <| .F 5 <| .C 3 <| .C 4 <| .F 6 <| .S 7 <| .Z) (Xf (Foot t rF rQ rA)) (Xf (Foot t rF rQ rA)) (fun _ _ _ => True) rfl (by kernel_rfl) (fun _ h => h) (fun _ _ _ _ _ _ => trivial) fun W hW => ?_
    have hWE : Ext w3 W := hW ▸ Ext.drew w3
    have y1 := x1.ext hWE
    have y3 := (p3.ext hE3).ext hWE
    have y4 := (p4.ext hE3).ext hWE
    simp [y1.cell 0 _ rfl, y1.cell 1 _ rfl, y1.cell 2 _ rfl, y1.cell 3 _ rfl, y1.cell 4 _ rfl, y4.cell 0 _ rfl, y4.cell 1 _ rfl, y4.cell 2 _ rfl, y4.cell 3 _ rfl, y4.cell 4 _ rfl, y4.cell 5 _ rfl, y4.cell 6 _ rfl, y4.cell 7 _ rfl, y4.cell 8 _ rfl, y4.cell 9 _ rfl, y4.cell 10 _ rfl, y4.cell 11 _ rfl, y4.cell 12 _ rfl, y4.cell 13 _ rfl, y4.cell 14 _ rfl]
    refine ⟨Xf_f fun hf => by have := hltF _ hf; omega, Xf_f fun hf => by have := hltF _ hf; omega, ?_⟩
    refine FN.mono (answer_c (hB3.ext hWE) h.ok.qok hq.r) ?_
    rintro _ w4 ⟨rfl, hB4, hM4⟩
    rw [← hc']
    have z2 := hM4.size
    have z4 := hWE.size
    have hS : ∀ k, (k = rQ ∨ k = rA) → Foot t rF rQ rA k := fun k hk => by rcases hk with e | e; exact .inr (.inr (.inl e)); exact .inr (.inr (.inr e))
    simp
    refine KR_mk (Xf_agr (hM4.weaken hS)) ?_
    have o6 := y3.mod hM4 (fun e => by have := hltF _ (hS _ e); omega)
    simp
    refine FN.mono (num_c c' w4) ?_
    rintro _ W2 ⟨rfl, rfl⟩
    simp
    refine KR_same ?_
    simp [o6.cell 0 _ rfl, o6.cell 1 _ rfl, o6.cell 2 _ rfl, o6.cell 3 _ rfl, o6.cell 4 _ rfl, o6.thaw, cell_setCell]
    refine KR_mk (agr_any (((((Mod.refl _ W2).any _ _).any _ _).any _ _).any _ _ |>.any _ _)) ?_
    have hD : Mod (fun k => k = w.heap.size + 1 + 1) W2 (((((W2.setCell ⟨w.heap.size + 1 + 1, 0, none⟩ (.slice qa' b'.Q.length qc')).setCell ⟨w.heap.size + 1 + 1, 1, none⟩ (.slice aa' b'.A.length ac')).setCell ⟨w.heap.size + 1 + 1, 2, none⟩ (.slice fa' b'.F.length fc')).setCell ⟨w.heap.size + 1 + 1, 3, none⟩ (u64 b'.p)).setCell ⟨w.heap.size + 1 + 1, 4, none⟩ (u32 b'.n)) := (((((Mod.refl _ _).setC _ _).setC _ _).setC _ _).setC _ _).setC _ _
    have hfin := h.done hE1 (hX3.trans hWE) ((hR2.ext hE3).ext hWE) hK hB4 hM4 hS hD (by omega) (by omega) hnext.1 hnext.2 hnum
    simp [o6.cell 0 _ rfl, o6.cell 1 _ rfl, o6.cell 2 _ rfl, o6.cell 3 _ rfl, o6.cell 4 _ rfl, cell_setCell]
    refine ⟨_, rfl, hfin⟩
end Go.Proofs
