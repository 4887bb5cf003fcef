/-
  Contracts of the functions that the law reaches, step by step.
-/
import Derived.Test.YtjagbfaklckagaaGreatBeL
import Derived.Test.YtjagbfaklckagaaGreatBeO
namespace Go.Proofs
open Pk
set_option maxRecDepth 10000
theorem same_nil {w : World} {t rF rQ rA : Nat} {b : Bd} (h : BdAt w t rF rQ rA b) : FN Tryz.prog 22 [ptr t, .pointer none] w fun e w' => e = .returned (.bool false) ∧ w' = w := by
  refine FN_enter Tryz.func22 rfl rfl (by kernel_rfl) ?_
  simp
  refine FN.mono (none_c h) ?_
  rintro _ w1 ⟨rfl, rfl⟩
  simp
  refine FN.mono (none_t (w := w1) (.inl rfl)) ?_
  rintro _ w1 ⟨rfl, rfl⟩
  simp
  refine FN.mono (none_c h) ?_
  rintro _ w1 ⟨rfl, rfl⟩
  simp
theorem eqv_comm {κ ν : Type} [DecidableEq κ] [DecidableEq ν] {m m' : List (κ × ν)} (hn : (m.map (·.1)).Nodup) (hn' : (m'.map (·.1)).Nodup) : eqv m m' ↔ eqv m' m := by
  rw [eqv_iff hn hn', eqv_iff hn' hn]
  exact ⟨fun h k => (h k).symm, fun h k => (h k).symm⟩
theorem bSame_comm {b b' : Bd} (h : Own b) (h' : Own b') : bSame b b' = bSame b' b := by
  unfold bSame
  rw [Bool.eq_iff_iff]
  simp only [Bool.and_eq_true, decide_eq_true_eq]
  rw [eqv_comm h.q h'.q, eqv_comm h.a h'.a, eqv_comm h.f h'.f]
  exact ⟨fun ⟨a, b, c⟩ => ⟨a.symm, b.symm, c⟩, fun ⟨a, b, c⟩ => ⟨a.symm, b.symm, c⟩⟩
theorem RbAt.off_ge {w : World} {V : RV} {b : RB} {S : Nat → Prop} (h : RbAt w V b) (hS : ∀ k, S k → w.heap.size ≤ k) : RbOff S V b :=
  ⟨fun hn hk => (h.off_new (hS _ hk)).q hn rfl, fun hn hk => (h.off_new (hS _ hk)).a hn rfl, fun hn hk => (h.off_new (hS _ hk)).f hn rfl⟩
theorem Both.lens {w : World} {t rF rQ rA : Nat} {B : Bd} {V : RV} {b : RB} {i : Nat} (h : Both w t rF rQ rA B V b i) (hi : i ≤ 1000) : b.Q.length ≤ 1000 ∧ b.A.length ≤ 1000 ∧ b.F.length ≤ 1000 :=
  ⟨by have := h.ok.lq; rw [h.tie.lenQ] at this; omega, by have := h.ok.la; rw [h.tie.lenA] at this; omega, by have := h.ok.lf; rw [h.tie.lenF] at this; omega⟩
set_option maxHeartbeats 4000000 in
theorem ProbeCopies_c {w : World} {v : Value} {l : List Ac} {x0 x1 : Ac} (hl : SlA w 17 v l.length (l.flatMap acC)) (hp : ∀ q ∈ l, AcOk q) (hx0 : AcOk x0) (hx1 : AcOk x1) : FN Tryz.prog 6 [v, .agg #[i64 x0.what, i64 x0.r.kind, u32 x0.r.nn, u32 x0.r.ns, u64 x0.r.nt, u32 x0.r.nq, i64 x0.r.what, i64 x0.r.why, u64 x0.r.at', u64 x0.r.num, u32 x0.r.node, u32 x0.r.reg, .bool x0.r.yes, u64 x0.r.fro, u64 x0.r.til, u8 x0.r.lev, u64 x0.at', i64 x1.what, i64 x1.r.kind, u32 x1.r.nn, u32 x1.r.ns, u64 x1.r.nt, u32 x1.r.nq, i64 x1.r.what, i64 x1.r.why, u64 x1.r.at', u64 x1.r.num, u32 x1.r.node, u32 x1.r.reg, .bool x1.r.yes, u64 x1.r.fro, u64 x1.r.til, u8 x1.r.lev, u64 x1.at']] w fun e w' => e = .returned (.bool true) ∧ Ext w w' := by
  refine FN_enter Tryz.func6 rfl rfl (by kernel_rfl) ?_
  have hlen := fun ty W => hl.isLen (P := Tryz.prog) (t := 41) (by simp) ty W
  have ixl := fun (i : Nat) (hi : i < l.length) (W : World) => hl.index (P := Tryz.prog) (t := 41) (by simp) .i64 i (by omega) (by omega) W
  simp
  have hE1 : Ext w (w.alloc (.cells #[i64 x0.what, i64 x0.r.kind, u32 x0.r.nn, u32 x0.r.ns, u64 x0.r.nt, u32 x0.r.nq, i64 x0.r.what, i64 x0.r.why, u64 x0.r.at', u64 x0.r.num, u32 x0.r.node, u32 x0.r.reg, .bool x0.r.yes, u64 x0.r.fro, u64 x0.r.til, u8 x0.r.lev, u64 x0.at', i64 x1.what, i64 x1.r.kind, u32 x1.r.nn, u32 x1.r.ns, u64 x1.r.nt, u32 x1.r.nq, i64 x1.r.what, i64 x1.r.why, u64 x1.r.at', u64 x1.r.num, u32 x1.r.node, u32 x1.r.reg, .bool x1.r.yes, u64 x1.r.fro, u64 x1.r.til, u8 x1.r.lev, u64 x1.at'] 59)) := (Ext.refl _).alloc _
  have bt1 : Blk (w.alloc (.cells #[i64 x0.what, i64 x0.r.kind, u32 x0.r.nn, u32 x0.r.ns, u64 x0.r.nt, u32 x0.r.nq, i64 x0.r.what, i64 x0.r.why, u64 x0.r.at', u64 x0.r.num, u32 x0.r.node, u32 x0.r.reg, .bool x0.r.yes, u64 x0.r.fro, u64 x0.r.til, u8 x0.r.lev, u64 x0.at', i64 x1.what, i64 x1.r.kind, u32 x1.r.nn, u32 x1.r.ns, u64 x1.r.nt, u32 x1.r.nq, i64 x1.r.what, i64 x1.r.why, u64 x1.r.at', u64 x1.r.num, u32 x1.r.node, u32 x1.r.reg, .bool x1.r.yes, u64 x1.r.fro, u64 x1.r.til, u8 x1.r.lev, u64 x1.at'] 59)) w.heap.size [i64 x0.what, i64 x0.r.kind, u32 x0.r.nn, u32 x0.r.ns, u64 x0.r.nt, u32 x0.r.nq, i64 x0.r.what, i64 x0.r.why, u64 x0.r.at', u64 x0.r.num, u32 x0.r.node, u32 x0.r.reg, .bool x0.r.yes, u64 x0.r.fro, u64 x0.r.til, u8 x0.r.lev, u64 x0.at', i64 x1.what, i64 x1.r.kind, u32 x1.r.nn, u32 x1.r.ns, u64 x1.r.nt, u32 x1.r.nq, i64 x1.r.what, i64 x1.r.why, u64 x1.r.at', u64 x1.r.num, u32 x1.r.node, u32 x1.r.reg, .bool x1.r.yes, u64 x1.r.fro, u64 x1.r.til, u8 x1.r.lev, u64 x1.at'] := Blk.new w _ _
  obtain ⟨bt, hbt⟩ : ∃ bt, bt = w.heap.size := ⟨_, rfl⟩
  rw [← hbt] at bt1 ⊢
  generalize (w.alloc (.cells #[i64 x0.what, i64 x0.r.kind, u32 x0.r.nn, u32 x0.r.ns, u64 x0.r.nt, u32 x0.r.nq, i64 x0.r.what, i64 x0.r.why, u64 x0.r.at', u64 x0.r.num, u32 x0.r.node, u32 x0.r.reg, .bool x0.r.yes, u64 x0.r.fro, u64 x0.r.til, u8 x0.r.lev, u64 x0.at', i64 x1.what, i64 x1.r.kind, u32 x1.r.nn, u32 x1.r.ns, u64 x1.r.nt, u32 x1.r.nq, i64 x1.r.what, i64 x1.r.why, u64 x1.r.at', u64 x1.r.num, u32 x1.r.node, u32 x1.r.reg, .bool x1.r.yes, u64 x1.r.fro, u64 x1.r.til, u8 x1.r.lev, u64 x1.at'] 59)) = w1 at *
  refine FN.mono (newB_c (p := 9) (by omega) w1) ?_
  rintro _ w2 ⟨hyes, -⟩
  obtain ⟨t, rF, rQ, rA, rfl, hB, hE2, hfr⟩ := hyes (by omega)
  simp
  refine FN.mono (rnew_c 9 w2) ?_
  rintro _ w3 ⟨rfl, hE3⟩
  have hrn : rNew 9 = ⟨[], [], [], 9, 0⟩ := by unfold rNew; rw [if_neg (by omega)]
  rw [hrn]
  have hE4 : Ext w3 (w3.alloc (.cells #[.slice none 0 0, .slice none 0 0, .slice none 0 0, u64 9, u32 0] 53)) := (Ext.refl _).alloc _
  have cw := Blk.new w3 [.slice none 0 0, .slice none 0 0, .slice none 0 0, u64 9, u32 0] 53
  simp
  generalize (w3.alloc (.cells #[.slice none 0 0, .slice none 0 0, .slice none 0 0, u64 9, u32 0] 53)) = w4 at *
  have hX := hE2.trans (hE3.trans hE4)
  have hB4 := (hB.ext hE3).ext hE4
  obtain ⟨bw, hbw⟩ : ∃ bw, bw = w3.heap.size := ⟨_, rfl⟩
  rw [← hbw] at cw ⊢
  by_cases h30 : (30 : Int) < l.length
  · simp [hlen, h30]
    refine FN.mono (num_c 0 w4) ?_
    rintro _ w4 ⟨rfl, rfl⟩
    simp
    refine FN.mono (works_c w4) ?_
    rintro _ w5 ⟨rfl, hE5⟩
    simp
    exact (hE1.trans hX).trans hE5
  simp [hlen, h30]
  refine FN.mono (num_c 0 w4) ?_
  rintro _ w4 ⟨rfl, rfl⟩
  have hI0 : PlI w1 w4 t rF rQ rA bw ⟨[], [], [], 9, 0⟩ ⟨.slice none 0 0, .slice none 0 0, .slice none 0 0⟩ ⟨[], [], [], 9, 0⟩ 0 := by
    refine ⟨⟨hB4, ⟨Sl.nil _ _ _, Sl.nil _ _ _, Sl.nil _ _ _⟩, ⟨fun h => absurd rfl h, fun h => absurd rfl h, fun h => absurd rfl h⟩, ⟨by simp, by simp, by simp, rfl, rfl, by simp, by simp⟩, BOk.new (by omega), ⟨by simp, by simp, by simp⟩⟩, cw, ⟨fun h => absurd rfl h, fun h => absurd rfl h, fun h => absurd rfl h⟩, hX, hfr, ?_, fun hk => ?_⟩
    · have := hE2.size; have := hE3.size; omega
    · have := hB.lt _ hk; have := hE3.size; omega
  clear hrn cw hB4 hB
  have nS : slB v < w.heap.size ∨ l = [] := by
    rcases l with _ | ⟨q, l'⟩
    · exact .inr rfl
    · have r := acs_row (i := 0) hl rfl 0 _ (by omega) rfl
      exact .inl (World.block_lt_of_cell? _ _ r)
  have z1 := hE1.size
  have btl := bt1.lt
  simp
  refine WC_loop (fun k ρ ds w' => ∃ (i : Nat) (B : Bd) (V : RV) (b : RB), k = l.length - i ∧ i ≤ l.length ∧ ρ 0 = v ∧ ρ 3 = ptr bt ∧ ρ 5 = ptr t ∧ ρ 7 = ptr bw ∧ ρ 9 = i64 i ∧ ds = [] ∧ PlI w1 w' t rF rQ rA bw B V b i) l.length
    ⟨0, _, _, _, by simp, by simp, by simp, by simp, by simp, by simp, by simp, rfl, hI0⟩ ?_
  rintro k ρ ds w5 ⟨i, B, V, b, rfl, hi, e0, e3, e5, e7, e9, rfl, hI⟩
  have hbo := hI.both
  have hlF := hbo.bd.lt
  have hlw := hI.cell.lt
  obtain ⟨qa, qc, aa, ac, fa, fc, rfl⟩ := hbo.rb.open
  by_cases hlt : i < l.length
  · as_aux_lemma =>
      simp [e0, e9, hlen, hlt]
      have hq := List.getElem?_eq_getElem hlt
      have hqok := hp l[i] (by simp)
      have ix := ixl i hlt
      have hsv : slB v < w.heap.size := nS.resolve_right fun h => by rw [h] at hlt; simp at hlt
      obtain ⟨x, hx⟩ : ∃ x, x = l[i] := ⟨_, rfl⟩
      rw [← hx] at hq hqok
      refine WC_drawL 11 (.F 0 <| .F 1 <| .F 2 <| .F 3 <| .F 4 <| .F 5 <| .C 6 <| .F 7 <| .F 8 <| .F 9 <| .S 10 <| .Z) (Xf (Foot t rF rQ rA)) (Xf (Foot t rF rQ rA)) (fun _ _ _ => True) rfl (by kernel_rfl) (fun _ h => h) (fun _ _ _ _ _ _ => trivial) fun W hW => ?_
      have hWE : Ext w5 W := hW ▸ Ext.drew w5
      have X0 : Xf (Foot t rF rQ rA) bw = false := Xf_f hI.nf
      have Xv : Xf (Foot t rF rQ rA) (slB v) = false := Xf_f fun hk => by have := hI.new _ hk; omega
      have cW := hI.cell.ext hWE
      have hlW := ((hl.ext hE1).ext hI.ext).ext hWE
      have r := acs_row hlW hq
      have r0 := r 0 _ (by omega) rfl
      rw [Nat.add_zero] at r0
      simp [e0, e5, e7, e9, cW.cell 0 _ rfl, cW.cell 1 _ rfl, cW.cell 2 _ rfl, cW.cell 3 _ rfl, cW.cell 4 _ rfl, ix, X0, Xv, r0, r 1 _ (by omega) rfl, r 2 _ (by omega) rfl, r 3 _ (by omega) rfl, r 4 _ (by omega) rfl, r 5 _ (by omega) rfl, r 6 _ (by omega) rfl, r 7 _ (by omega) rfl, r 8 _ (by omega) rfl, r 9 _ (by omega) rfl, r 10 _ (by omega) rfl, r 11 _ (by omega) rfl, r 12 _ (by omega) rfl, r 13 _ (by omega) rfl, r 14 _ (by omega) rfl, r 15 _ (by omega) rfl, r 16 _ (by omega) rfl]
      refine FN.mono (act_c (hbo.ext hWE) (by omega) hqok) ?_
      rintro _ W7 ⟨V', rfl, hbo7, hM7, hK7⟩
      obtain ⟨b', hb'⟩ : ∃ b', b' = actD b x := ⟨_, rfl⟩
      rw [← hb'] at hbo7 hK7 ⊢
      obtain ⟨qa', qc', aa', ac', fa', fc', rfl⟩ := hbo7.rb.open
      simp [actTup]
      refine KR_mk (Xf_agr hM7) ?_
      have sW := hWE.size
      have cw7 := (hI.cell.ext hWE).mod hM7 hI.nf
      have hM10 := put5_mod W7 bw (.slice qa' b'.Q.length qc') (.slice aa' b'.A.length ac') (.slice fa' b'.F.length fc') (u64 b'.p) (u32 b'.n)
      have cw10 := blk_put5 cw7 rfl (.slice qa' b'.Q.length qc') (.slice aa' b'.A.length ac') (.slice fa' b'.F.length fc') (u64 b'.p) (u32 b'.n)
      have ho9 : RbOff (fun k => k = bw) ⟨.slice qa' b'.Q.length qc', .slice aa' b'.A.length ac', .slice fa' b'.F.length fc'⟩ b' := hK7 _ (fun k hk => by rw [hk]; omega) hI.offw
      have hbo10 := hbo7.mod hM10 (fun k hk e => hI.nf (e ▸ hk)) ho9
      have hE10 : Ext w1 (((((W7.setCell ⟨bw, 0, none⟩ (.slice qa' b'.Q.length qc')).setCell ⟨bw, 1, none⟩ (.slice aa' b'.A.length ac')).setCell ⟨bw, 2, none⟩ (.slice fa' b'.F.length fc')).setCell ⟨bw, 3, none⟩ (u64 b'.p)).setCell ⟨bw, 4, none⟩ (u32 b'.n)) :=
        ((((hI.ext.trans hWE).mod (S := fun k => w1.heap.size ≤ k)).trans (hM7.weaken fun k hk => hI.new k hk)).trans (hM10.weaken fun k hk => by have := hI.nw; omega)).ext fun _ h => h
      simp [cw7.cell 0 _ rfl, cw7.cell 1 _ rfl, cw7.cell 2 _ rfl, cw7.cell 3 _ rfl, cw7.cell 4 _ rfl, cw7.thaw, e0, e5, e7, e9, cell_setCell]
      refine KR_mk (put5_agr _ _ _ _ _ _ _) ?_
      have hw1 : IntKind.i64.wrap ((i : Int) + 1) = i + 1 := wrap64 _ (by omega) (by omega)
      simp [e0, e3, e5, e7, e9, hw1]
      exact ⟨l.length - (i + 1), by omega, i + 1, rfl, by omega, by push_cast; rfl, _, _, _, hbo10, cw10, ho9, hE10, hI.new, hI.nw, hI.nf⟩
  · as_aux_lemma =>
      simp [e0, e5, e9, hlen, hlt]
      have i30 : i ≤ 30 := by omega
      refine FN.mono (copy_c hbo.bd) ?_
      rintro _ w6 ⟨t', rF', rQ', rA', rfl, hBc, hE6, hfc⟩
      have s5 := hI.ext.size
      have s6 := hE6.size
      have hbo6 := hbo.ext hE6
      have hc6 : Both w6 t' rF' rQ' rA' B ⟨.slice qa b.Q.length qc, .slice aa b.A.length ac, .slice fa b.F.length fc⟩ b i := ⟨hBc, hbo6.rb, hbo.rb.off_ge hfc, hbo.tie, hbo.ok, hbo.num⟩
      have c6 := hI.cell.ext hE6
      have bt6 := (bt1.ext hI.ext).ext hE6
      have hE16 := hI.ext.trans hE6
      have nbt : ¬ Foot t rF rQ rA bt := fun hk => by have := hI.new _ hk; omega
      have nbt' : ¬ Foot t' rF' rQ' rA' bt := fun hk => by have := hfc _ hk; omega
      have nbw' : ¬ Foot t' rF' rQ' rA' bw := fun hk => by have := hfc _ hk; omega
      have hlF' := hBc.lt
      simp [e3, e5, e7, c6.cell 0 _ rfl, c6.cell 1 _ rfl, c6.cell 2 _ rfl, c6.cell 3 _ rfl, c6.cell 4 _ rfl, bt6.cell 0 _ rfl, bt6.cell 1 _ rfl, bt6.cell 2 _ rfl, bt6.cell 3 _ rfl, bt6.cell 4 _ rfl, bt6.cell 5 _ rfl, bt6.cell 6 _ rfl, bt6.cell 7 _ rfl, bt6.cell 8 _ rfl, bt6.cell 9 _ rfl, bt6.cell 10 _ rfl, bt6.cell 11 _ rfl, bt6.cell 12 _ rfl, bt6.cell 13 _ rfl, bt6.cell 14 _ rfl, bt6.cell 15 _ rfl, bt6.cell 16 _ rfl]
      as_aux_lemma =>
        refine FN.mono (act_c hbo6 (by omega) hx0) ?_
        rintro _ w7 ⟨V1, rfl, hb7, hM7, hK7⟩
        obtain ⟨b1, hb1⟩ : ∃ b1, b1 = actD b x0 := ⟨_, rfl⟩
        obtain ⟨B1, hB1⟩ : ∃ B1, B1 = actB B x0 := ⟨_, rfl⟩
        have is1 := fun W V' (h : Both W t rF rQ rA (actB B x0) V' (actD b x0) (i + 1)) (z : Int) => stands_c h (by omega) x0 z
        rw [← hb1] at hb7 hK7 is1 ⊢
        rw [← hB1] at hb7 is1
        obtain ⟨qa1, qc1, aa1, ac1, fa1, fc1, rfl⟩ := hb7.rb.open
        have s7 := hM7.size
        have c7 := c6.mod hM7 hI.nf
        have bt7 := bt6.mod hM7 nbt
        have hc7 := hc6.mod hM7 (fun k hk e => by have := hlF k e; have := hfc k hk; omega) hbo.off
        have n7 := Blk.new w7 [.slice qa1 b1.Q.length qc1, .slice aa1 b1.A.length ac1, .slice fa1 b1.F.length fc1, u64 b1.p, u32 b1.n] 53
        have hE8 : Ext w7 (w7.alloc (.cells #[.slice qa1 b1.Q.length qc1, .slice aa1 b1.A.length ac1, .slice fa1 b1.F.length fc1, u64 b1.p, u32 b1.n] 53)) := (Ext.refl _).alloc _
        simp [actTup, e3, e7, c7.cell 0 _ rfl, c7.cell 1 _ rfl, c7.cell 2 _ rfl, c7.cell 3 _ rfl, c7.cell 4 _ rfl, bt7.cell 17 _ rfl, bt7.cell 18 _ rfl, bt7.cell 19 _ rfl, bt7.cell 20 _ rfl, bt7.cell 21 _ rfl, bt7.cell 22 _ rfl, bt7.cell 23 _ rfl, bt7.cell 24 _ rfl, bt7.cell 25 _ rfl, bt7.cell 26 _ rfl, bt7.cell 27 _ rfl, bt7.cell 28 _ rfl, bt7.cell 29 _ rfl, bt7.cell 30 _ rfl, bt7.cell 31 _ rfl, bt7.cell 32 _ rfl, bt7.cell 33 _ rfl]
        have n8 := n7
        generalize (w7.alloc (.cells #[.slice qa1 b1.Q.length qc1, .slice aa1 b1.A.length ac1, .slice fa1 b1.F.length fc1, u64 b1.p, u32 b1.n] 53)) = w8 at *
        have s8 := hE8.size
        have hb8 := hb7.ext hE8
        have hc8 := hc7.ext hE8
        as_aux_lemma =>
          refine FN.mono (act_c hc8 (by omega) hx1) ?_
          rintro _ w9 ⟨V2, rfl, hc9, hM9, hK9⟩
          obtain ⟨b2, hb2⟩ : ∃ b2, b2 = actD b x1 := ⟨_, rfl⟩
          obtain ⟨B2, hB2⟩ : ∃ B2, B2 = actB B x1 := ⟨_, rfl⟩
          have is2 := fun W V' (h : Both W t' rF' rQ' rA' (actB B x1) V' (actD b x1) (i + 1)) (z : Int) => stands_c h (by omega) x1 z
          rw [← hb2] at hc9 hK9 is2 ⊢
          rw [← hB2] at hc9 is2
          obtain ⟨qa2, qc2, aa2, ac2, fa2, fc2, rfl⟩ := hc9.rb.open
          have s9 := hM9.size
          have hb9 := hb8.mod hM9 (fun k hk e => by have := hlF k hk; have := hfc k e; omega) (hK7 _ (fun k hk => hlF' k hk) hc6.off)
          have nn : ¬ Foot t' rF' rQ' rA' w7.heap.size := fun hk => by have := hlF' _ hk; omega
          have nF : ¬ Foot t rF rQ rA w7.heap.size := fun hk => by have := hlF _ hk; omega
          have n9 := n8.mod hM9 nn
          have bt9 := (bt7.ext hE8).mod hM9 nbt'
          have m9 := Blk.new w9 [.slice qa2 b2.Q.length qc2, .slice aa2 b2.A.length ac2, .slice fa2 b2.F.length fc2, u64 b2.p, u32 b2.n] 53
          have hE10 : Ext w9 (w9.alloc (.cells #[.slice qa2 b2.Q.length qc2, .slice aa2 b2.A.length ac2, .slice fa2 b2.F.length fc2, u64 b2.p, u32 b2.n] 53)) := (Ext.refl _).alloc _
          have n10 := n9.ext hE10
          have bt10 := bt9.ext hE10
          simp [actTup, n9.cell 0 _ rfl, n9.cell 1 _ rfl, n9.cell 2 _ rfl, n9.cell 3 _ rfl, n9.cell 4 _ rfl]
          have hE110 : Ext w1 (w9.alloc (.cells #[.slice qa2 b2.Q.length qc2, .slice aa2 b2.A.length ac2, .slice fa2 b2.F.length fc2, u64 b2.p, u32 b2.n] 53)) :=
            (((((hE16.mod (S := fun k => w1.heap.size ≤ k)).trans (hM7.weaken fun k hk => hI.new k hk)).trans hE8.mod).trans (hM9.weaken fun k hk => by have := hfc k hk; omega)).trans hE10.mod).ext fun _ h => h
          generalize (w9.alloc (.cells #[.slice qa2 b2.Q.length qc2, .slice aa2 b2.A.length ac2, .slice fa2 b2.F.length fc2, u64 b2.p, u32 b2.n] 53)) = w10 at *
          have hb10 := hb9.ext hE10
          have hc10 := hc9.ext hE10
          have lb := hb10.lens (by omega)
          have lc := hc10.lens (by omega)
          have s10 := hE10.size
          have hsame := fun W (h : RbAt W ⟨.slice qa1 b1.Q.length qc1, .slice aa1 b1.A.length ac1, .slice fa1 b1.F.length fc1⟩ b1) (h' : RbAt W ⟨.slice qa2 b2.Q.length qc2, .slice aa2 b2.A.length ac2, .slice fa2 b2.F.length fc2⟩ b2) => rsame_c h h' lb.1 lc.1 lb.2.1 lc.2.1 lb.2.2 lc.2.2
          as_aux_lemma =>
            refine FN.mono (hsame w10 hb10.rb hc10.rb) ?_
            rintro _ w11 ⟨R, R', rfl, hR, hR', hE11⟩
            have hb11 := hb10.ext hE11
            have hc11 := hc10.ext hE11
            have n11 := n10.ext hE11
            have m11 := m9.ext hE11
            have bt11 := bt10.ext hE11
            have sb := hb11.tie.same hc11.tie hc11.bd.keys hb11.num hc11.num hR hR'
            have sc := bSame_comm hb11.bd.keys hc11.bd.keys
            rw [← sb]
            simp [e3, e5, n11.cell 0 _ rfl, n11.cell 1 _ rfl, n11.cell 2 _ rfl, n11.cell 3 _ rfl, n11.cell 4 _ rfl, bt11.cell 0 _ rfl, bt11.cell 1 _ rfl, bt11.cell 2 _ rfl, bt11.cell 3 _ rfl, bt11.cell 4 _ rfl, bt11.cell 5 _ rfl, bt11.cell 6 _ rfl, bt11.cell 7 _ rfl, bt11.cell 8 _ rfl, bt11.cell 9 _ rfl, bt11.cell 10 _ rfl, bt11.cell 11 _ rfl, bt11.cell 12 _ rfl, bt11.cell 13 _ rfl, bt11.cell 14 _ rfl, bt11.cell 15 _ rfl, bt11.cell 16 _ rfl]
            as_aux_lemma =>
              refine FN.mono (is1 w11 _ hb11 1) ?_
              rintro _ w12 ⟨rfl, hE12⟩
              have m12 := m11.ext hE12
              have bt12 := bt11.ext hE12
              simp [e3, m12.cell 0 _ rfl, m12.cell 1 _ rfl, m12.cell 2 _ rfl, m12.cell 3 _ rfl, m12.cell 4 _ rfl, bt12.cell 17 _ rfl, bt12.cell 18 _ rfl, bt12.cell 19 _ rfl, bt12.cell 20 _ rfl, bt12.cell 21 _ rfl, bt12.cell 22 _ rfl, bt12.cell 23 _ rfl, bt12.cell 24 _ rfl, bt12.cell 25 _ rfl, bt12.cell 26 _ rfl, bt12.cell 27 _ rfl, bt12.cell 28 _ rfl, bt12.cell 29 _ rfl, bt12.cell 30 _ rfl, bt12.cell 31 _ rfl, bt12.cell 32 _ rfl, bt12.cell 33 _ rfl]
              refine FN.mono (is2 w12 _ (hc11.ext hE12) 2) ?_
              rintro _ w13 ⟨rfl, hE13⟩
              have hb13 := (hb11.ext hE12).ext hE13
              have hc13 := (hc11.ext hE12).ext hE13
              simp [e5]
              as_aux_lemma =>
                refine FN.mono (bsame_c hb13.bd hc13.bd) ?_
                rintro _ w14 ⟨rfl, hE14⟩
                simp [e5]
                refine FN.mono (bsame_c (hc13.bd.ext hE14) (hb13.bd.ext hE14)) ?_
                rintro _ w15 ⟨rfl, hE15⟩
                rw [← sc]
                simp [e5]
                refine FN.mono (same_nil ((hb13.bd.ext hE14).ext hE15)) ?_
                rintro _ w15 ⟨rfl, rfl⟩
                simp
                refine FN.mono (works_c w15) ?_
                rintro _ w16 ⟨rfl, hE16'⟩
                simp
                exact hE1.trans (hE110.trans (hE11.trans (hE12.trans (hE13.trans (hE14.trans (hE15.trans hE16'))))))
end Go.Proofs
