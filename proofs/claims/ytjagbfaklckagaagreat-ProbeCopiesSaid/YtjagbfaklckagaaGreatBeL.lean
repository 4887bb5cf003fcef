/-
  Contracts of the functions that the law reaches, step by step.
-/
import Derived.Test.YtjagbfaklckagaaGreatBeH
import Derived.Test.YtjagbfaklckagaaGreatBdH
namespace Go.Proofs
open Pk
set_option maxRecDepth 10000
abbrev zRB : List Value := [.slice none 0 0, .slice none 0 0, .slice none 0 0, u64 0, u32 0]
theorem Both.ext {w w' : World} {t rF rQ rA : Nat} {B : Bd} {V : RV} {b : RB} {i : Nat} (h : Both w t rF rQ rA B V b i) (hE : Ext w w') : Both w' t rF rQ rA B V b i := ⟨h.bd.ext hE, h.rb.ext hE, h.off, h.tie, h.ok, h.num⟩
/-- Five cells that are written. -/
theorem blk_put5 {w : World} {c : Nat} {l : List Value} (h : Blk w c l) (hl : l.length = 5) (a0 a1 a2 a3 a4 : Value) : Blk (((((w.setCell ⟨c, 0, none⟩ a0).setCell ⟨c, 1, none⟩ a1).setCell ⟨c, 2, none⟩ a2).setCell ⟨c, 3, none⟩ a3).setCell ⟨c, 4, none⟩ a4) c [a0, a1, a2, a3, a4] := by
  match l, hl with
  | [x0, x1, x2, x3, x4], _ => exact ((((h.set 0 a0).set 1 a1).set 2 a2).set 3 a3).set 4 a4
theorem put5_mod (w : World) (c : Nat) (a0 a1 a2 a3 a4 : Value) : Mod (fun k => k = c) w (((((w.setCell ⟨c, 0, none⟩ a0).setCell ⟨c, 1, none⟩ a1).setCell ⟨c, 2, none⟩ a2).setCell ⟨c, 3, none⟩ a3).setCell ⟨c, 4, none⟩ a4) :=
  (((((Mod.refl _ _).setC _ _).setC _ _).setC _ _).setC _ _).setC _ _
theorem put5_agr (w : World) (c : Nat) (a0 a1 a2 a3 a4 : Value) : Agr (fun _ => true = false) w (((((w.setCell ⟨c, 0, none⟩ a0).setCell ⟨c, 1, none⟩ a1).setCell ⟨c, 2, none⟩ a2).setCell ⟨c, 3, none⟩ a3).setCell ⟨c, 4, none⟩ a4) :=
  agr_any ((put5_mod w c a0 a1 a2 a3 a4).weaken fun _ _ => trivial)
theorem Both.mod {w w' : World} {t rF rQ rA : Nat} {B : Bd} {V : RV} {b : RB} {i : Nat} {S : Nat → Prop} (h : Both w t rF rQ rA B V b i) (hM : Mod S w w') (hS : ∀ k, Foot t rF rQ rA k → ¬ S k) (ho : RbOff S V b) : Both w' t rF rQ rA B V b i :=
  ⟨h.bd.mod hM hS, h.rb.mod hM ho, h.off, h.tie, h.ok, h.num⟩
theorem blk_at {w : World} {c : Nat} {l : List Value} (h : Blk w c l) {j : Nat} {u : Value} (hc : w.cell? ⟨c, j, none⟩ = some u) : l[j]? = some u := by
  obtain ⟨ty, h⟩ := h
  unfold World.cell? at hc
  simpa [h] using hc
/-- No row lies in a zero document's block. -/
theorem RbAt.off_zero {w : World} {V : RV} {b : RB} {c : Nat} (h : RbAt w V b) (hc : Blk w c zRB) : RbOff (fun k => k = c) V b := by
  have key : ∀ (R : List Rec) (x : Value), Sl w 15 x R.length (R.flatMap recC) → R ≠ [] → ¬ slB x = c := by
    intro R x hx hn e
    cases R with
    | nil => exact hn rfl
    | cons y R =>
      have d := hx.at_ 0 (i64 y.kind) rfl
      rw [e] at d
      have d := blk_at hc d
      generalize slO x + 0 = j at d
      match j, d with
      | 0, d => simp at d
      | 1, d => simp at d
      | 2, d => simp at d
      | 3, d => simp at d
      | 4, d => simp at d
      | j + 5, d => simp at d
  refine ⟨fun hn e => ?_, fun hn e => key _ _ h.a hn e, fun hn e => key _ _ h.f hn e⟩
  cases hQ : b.Q with
  | nil => exact hn hQ
  | cons y R =>
    have hq := h.q
    rw [hQ] at hq
    have d0 := hq.at_ 0 (u32 y.n) rfl
    have d1 := hq.at_ 1 (u32 y.g) rfl
    rw [e] at d0 d1
    have d0 := blk_at hc d0
    have d1 := blk_at hc d1
    rw [Nat.add_zero] at d0
    generalize slO V.q = j at d0 d1
    match j, d0, d1 with
    | 0, d, _ => simp at d
    | 1, d, _ => simp at d
    | 2, d, _ => simp at d
    | 3, d, _ => simp at d
    | 4, _, d => simp at d
    | j + 5, d, _ => simp at d
/-- A board by both, and the cell that holds the document's. -/
structure PlI (w0 w' : World) (t rF rQ rA bw : Nat) (B : Bd) (V : RV) (b : RB) (i : Nat) : Prop where
  both : Both w' t rF rQ rA B V b i
  cell : Blk w' bw (rbC V b)
  offw : RbOff (fun k => k = bw) V b
  ext : Ext w0 w'
  new : ∀ k, Foot t rF rQ rA k → w0.heap.size ≤ k
  nw : w0.heap.size ≤ bw
  nf : ¬ Foot t rF rQ rA bw
set_option maxHeartbeats 4000000 in
theorem ProbePlays_c {w : World} {v : Value} {l : List Ac} {p : Int} (hl : SlA w 17 v l.length (l.flatMap acC)) (hp : ∀ q ∈ l, AcOk q) (hp0 : 0 ≤ p) : FN Tryz.prog 5 [u64 p, v] w fun e w' => e = .returned (.bool true) ∧ Ext w w' := by
  refine FN_enter Tryz.func5 rfl rfl (by kernel_rfl) ?_
  have hlen := fun ty W => hl.isLen (P := Tryz.prog) (t := 41) (by simp) ty W
  have ixl := fun (i : Nat) (hi : i < l.length) (W : World) => hl.index (P := Tryz.prog) (t := 41) (by simp) .i64 i (by omega) (by omega) W
  by_cases h60 : (60 : Int) < l.length
  · simp [hlen, h60]
    refine FN.mono (works_c w) ?_
    rintro _ w2 ⟨rfl, hE2⟩
    simp
    exact hE2
  simp [hlen, h60]
  refine FN.mono (newB_c hp0 w) ?_
  rintro _ w2 ⟨hyes, hno⟩
  by_cases hpm : ¬ p ≤ 4611686018427387903
  · obtain ⟨rfl, hE2⟩ := hno hpm
    simp
    refine FN.mono (rnew_c p w2) ?_
    rintro _ w3 ⟨rfl, hE3⟩
    have hpd : decide (4611686018427387903 < p) = true := by simp; omega
    simp [hpd]
    have hE4 : Ext w3 (w3.alloc (.cells #[.slice none 0 0, .slice none 0 0, .slice none 0 0, u64 (rNew p).p, u32 (rNew p).n] 53)) := (Ext.refl _).alloc _
    generalize (w3.alloc (.cells #[.slice none 0 0, .slice none 0 0, .slice none 0 0, u64 (rNew p).p, u32 (rNew p).n] 53)) = w4 at *
    refine FN.mono (num_c 2 w4) ?_
    rintro _ w4 ⟨rfl, rfl⟩
    simp
    refine FN.mono (works_c w4) ?_
    rintro _ w5 ⟨rfl, hE5⟩
    simp
    exact (hE2.trans hE3).trans (hE4.trans hE5)
  obtain ⟨t, rF, rQ, rA, rfl, hB, hE2, hfr⟩ := hyes (Decidable.of_not_not hpm)
  simp
  refine FN.mono (rnew_c p w2) ?_
  rintro _ w3 ⟨rfl, hE3⟩
  have hpd : decide (4611686018427387903 < p) = false := by simp; omega
  have hrn : rNew p = ⟨[], [], [], p, 0⟩ := by unfold rNew; rw [if_neg (by omega)]
  rw [hrn]
  simp [hpd]
  have hE4 : Ext w3 (w3.alloc (.cells #[.slice none 0 0, .slice none 0 0, .slice none 0 0, u64 p, u32 0] 53)) := (Ext.refl _).alloc _
  have cw := Blk.new w3 [.slice none 0 0, .slice none 0 0, .slice none 0 0, u64 p, u32 0] 53
  generalize (w3.alloc (.cells #[.slice none 0 0, .slice none 0 0, .slice none 0 0, u64 p, u32 0] 53)) = w4 at *
  have hX := hE2.trans (hE3.trans hE4)
  have hB4 := (hB.ext hE3).ext hE4
  obtain ⟨bw, hbw⟩ : ∃ bw, bw = w3.heap.size := ⟨_, rfl⟩
  rw [← hbw] at cw ⊢
  have hI0 : PlI w w4 t rF rQ rA bw ⟨[], [], [], p, 0⟩ ⟨.slice none 0 0, .slice none 0 0, .slice none 0 0⟩ ⟨[], [], [], p, 0⟩ 0 := by
    refine ⟨⟨hB4, ⟨Sl.nil _ _ _, Sl.nil _ _ _, Sl.nil _ _ _⟩, ⟨fun h => absurd rfl h, fun h => absurd rfl h, fun h => absurd rfl h⟩, ⟨by simp, by simp, by simp, rfl, rfl, by simp, by simp⟩, BOk.new hp0, ⟨by simp, by simp, by simp⟩⟩, cw, ⟨fun h => absurd rfl h, fun h => absurd rfl h, fun h => absurd rfl h⟩, hX, hfr, ?_, fun hk => ?_⟩
    · have := hE2.size; have := hE3.size; omega
    · have := hB.lt _ hk; have := hE3.size; omega
  clear hpd hrn cw hB4 hB
  have nS : slB v < w.heap.size ∨ l = [] := by
    rcases l with _ | ⟨q, l'⟩
    · exact .inr rfl
    · have r := acs_row (i := 0) hl rfl 0 _ (by omega) rfl
      exact .inl (World.block_lt_of_cell? _ _ r)
  refine WC_loop (fun k ρ ds w' => ∃ (i : Nat) (B : Bd) (V : RV) (b : RB), k = l.length - i ∧ i ≤ l.length ∧ ρ 1 = v ∧ ρ 5 = ptr t ∧ ρ 7 = ptr bw ∧ ρ 9 = i64 i ∧ ds = [] ∧ PlI w w' t rF rQ rA bw B V b i) l.length
    ⟨0, _, _, _, by simp, by simp, by simp, by simp, by simp, by simp, rfl, hI0⟩ ?_
  rintro k ρ ds w5 ⟨i, B, V, b, rfl, hi, e1, e5, e7, e9, rfl, hI⟩
  by_cases hlt : i < l.length
  · simp [e1, e9, hlen, hlt]
    have hq := List.getElem?_eq_getElem hlt
    have hqok := hp l[i] (by simp)
    have ix := ixl i hlt
    have hsv : slB v < w.heap.size := nS.resolve_right fun h => by rw [h] at hlt; simp at hlt
    have hbo := hI.both
    have hlF := hbo.bd.lt
    have hlw := hI.cell.lt
    have hact := fun W (h : Both W t rF rQ rA B V b i) => act_c h (by omega) hqok
    have his := fun W V' (h : Both W t rF rQ rA (actB B l[i]) V' (actD b l[i]) (i + 1)) (z : Int) => stands_c h (by omega) l[i] z
    obtain ⟨x, hx⟩ : ∃ x, x = l[i] := ⟨_, rfl⟩
    rw [← hx] at hq hqok hact his
    obtain ⟨qa, qc, aa, ac, fa, fc, rfl⟩ := hbo.rb.open
    refine WC_drawL 12 (.F 0 <| .F 1 <| .F 2 <| .F 3 <| .F 4 <| .F 5 <| .D 10 <| .L 6 <| .F 7 <| .F 8 <| .F 9 <| .W 10 <| .S 11 <| .Z) (Xf (Foot t rF rQ rA)) (Xf (Foot t rF rQ rA)) (fun _ u W => ∃ c, u = ptr c ∧ Blk W c zRB ∧ w5.heap.size ≤ c) rfl (by kernel_rfl) (fun _ h => h) ?_ fun W hW => ?_
    · rintro - u a b' ⟨c, h1, ⟨ty, h2⟩, h3⟩ hag
      exact ⟨c, h1, ⟨ty, hag.obj h2 (Xf_f fun hk => by have := hlF c hk; omega)⟩, h3⟩
    have hWE : Ext w5 W := hW ▸ Ext.drew w5
    have X0 : Xf (Foot t rF rQ rA) bw = false := Xf_f hI.nf
    have Xv : Xf (Foot t rF rQ rA) (slB v) = false := Xf_f fun hk => by have := hI.new _ hk; omega
    have cW := hI.cell.ext hWE
    have hlW := (hl.ext hI.ext).ext hWE
    have r := acs_row hlW hq
    have r0 := r 0 _ (by omega) rfl
    rw [Nat.add_zero] at r0
    simp [e1, e5, e7, e9, cW.cell 0 _ rfl, cW.cell 1 _ rfl, cW.cell 2 _ rfl, cW.cell 3 _ rfl, cW.cell 4 _ rfl, ix, X0, Xv, r0, r 1 _ (by omega) rfl, r 2 _ (by omega) rfl, r 3 _ (by omega) rfl, r 4 _ (by omega) rfl, r 5 _ (by omega) rfl, r 6 _ (by omega) rfl, r 7 _ (by omega) rfl, r 8 _ (by omega) rfl, r 9 _ (by omega) rfl, r 10 _ (by omega) rfl, r 11 _ (by omega) rfl, r 12 _ (by omega) rfl, r 13 _ (by omega) rfl, r 14 _ (by omega) rfl, r 15 _ (by omega) rfl, r 16 _ (by omega) rfl]
    refine RL_float (fun W1 h1 => ?_) ?_
    · simp
      have hs := h1.size
      have hs2 := hWE.size
      exact ⟨(Ext.refl _).alloc _, Blk.new W1 zRB _, Nat.le_trans hs2 hs⟩
    simp
    refine RL_loose fun W6 h6 => ?_
    have hE56 := hWE.trans h6
    simp
    refine FN.mono (hact W6 (hbo.ext hE56)) ?_
    rintro _ W7 ⟨V', rfl, hbo7, hM7, hK7⟩
    obtain ⟨b', hb'⟩ : ∃ b', b' = actD b x := ⟨_, rfl⟩
    rw [← hb'] at hbo7 hK7 his ⊢
    obtain ⟨qa', qc', aa', ac', fa', fc', rfl⟩ := hbo7.rb.open
    simp [actTup]
    refine KR_mk (Xf_agr hM7) ?_
    simp
    refine RL_wait fun vc W8 h8 ⟨c, hc, hrc, hcw⟩ => ?_
    subst hc
    have hbcw : bw ≠ c := by omega
    have hcF : ¬ Foot t rF rQ rA c := fun hk => by have := hlF c hk; omega
    have s56 := hE56.size
    have cw8 := ((hI.cell.ext hE56).mod hM7 hI.nf).ext h8
    have hbo8 := hbo7.ext h8
    have hbo9 := hbo8.mod (put5_mod W8 c (.slice qa' b'.Q.length qc') (.slice aa' b'.A.length ac') (.slice fa' b'.F.length fc') (u64 b'.p) (u32 b'.n)) (fun k hk e => hcF (e ▸ hk)) (hbo8.rb.off_zero hrc)
    have cw9 := cw8.mod (put5_mod W8 c (.slice qa' b'.Q.length qc') (.slice aa' b'.A.length ac') (.slice fa' b'.F.length fc') (u64 b'.p) (u32 b'.n)) hbcw
    have cc9 := blk_put5 (l := zRB) hrc rfl (.slice qa' b'.Q.length qc') (.slice aa' b'.A.length ac') (.slice fa' b'.F.length fc') (u64 b'.p) (u32 b'.n)
    have hM9 := put5_mod W8 c (.slice qa' b'.Q.length qc') (.slice aa' b'.A.length ac') (.slice fa' b'.F.length fc') (u64 b'.p) (u32 b'.n)
    simp [Blk.cell (cs := zRB) hrc 0 _ rfl, Blk.cell (cs := zRB) hrc 1 _ rfl, Blk.cell (cs := zRB) hrc 2 _ rfl, Blk.cell (cs := zRB) hrc 3 _ rfl, Blk.cell (cs := zRB) hrc 4 _ rfl, Blk.thaw (cs := zRB) hrc, cell_setCell]
    refine KR_mk (put5_agr _ _ _ _ _ _ _) ?_
    generalize (((((W8.setCell ⟨c, 0, none⟩ (.slice qa' b'.Q.length qc')).setCell ⟨c, 1, none⟩ (.slice aa' b'.A.length ac')).setCell ⟨c, 2, none⟩ (.slice fa' b'.F.length fc')).setCell ⟨c, 3, none⟩ (u64 b'.p)).setCell ⟨c, 4, none⟩ (u32 b'.n)) = W9 at *
    have ho9 : RbOff (fun k => k = bw) ⟨.slice qa' b'.Q.length qc', .slice aa' b'.A.length ac', .slice fa' b'.F.length fc'⟩ b' := hK7 _ (fun k hk => by rw [hk]; omega) hI.offw
    have hM10 := put5_mod W9 bw (.slice qa' b'.Q.length qc') (.slice aa' b'.A.length ac') (.slice fa' b'.F.length fc') (u64 b'.p) (u32 b'.n)
    have cw10 := blk_put5 cw9 rfl (.slice qa' b'.Q.length qc') (.slice aa' b'.A.length ac') (.slice fa' b'.F.length fc') (u64 b'.p) (u32 b'.n)
    have hbo10 := hbo9.mod hM10 (fun k hk e => hI.nf (e ▸ hk)) ho9
    have hE10 : Ext w (((((W9.setCell ⟨bw, 0, none⟩ (.slice qa' b'.Q.length qc')).setCell ⟨bw, 1, none⟩ (.slice aa' b'.A.length ac')).setCell ⟨bw, 2, none⟩ (.slice fa' b'.F.length fc')).setCell ⟨bw, 3, none⟩ (u64 b'.p)).setCell ⟨bw, 4, none⟩ (u32 b'.n)) :=
      ((((((hI.ext.trans hE56).mod (S := fun k => w.heap.size ≤ k)).trans (hM7.weaken fun k hk => hI.new k hk)).trans h8.mod).trans (hM9.weaken fun k hk => by have := hI.ext.size; omega)).trans (hM10.weaken fun k hk => by have := hI.nw; omega)).ext fun _ h => h
    simp [cc9.cell 0 _ rfl, cc9.cell 1 _ rfl, cc9.cell 2 _ rfl, cc9.cell 3 _ rfl, cc9.cell 4 _ rfl, cw9.cell 0 _ rfl, cw9.cell 1 _ rfl, cw9.cell 2 _ rfl, cw9.cell 3 _ rfl, cw9.cell 4 _ rfl, cw9.thaw, e7, cell_setCell]
    generalize (((((W9.setCell ⟨bw, 0, none⟩ (.slice qa' b'.Q.length qc')).setCell ⟨bw, 1, none⟩ (.slice aa' b'.A.length ac')).setCell ⟨bw, 2, none⟩ (.slice fa' b'.F.length fc')).setCell ⟨bw, 3, none⟩ (u64 b'.p)).setCell ⟨bw, 4, none⟩ (u32 b'.n)) = W10 at *
    refine WC_drawC 11 (.F 0 <| .F 1 <| .F 2 <| .F 3 <| .F 4 <| .F 5 <| .F 6 <| .F 7 <| .F 8 <| .F 9 <| .F 10 <| .Z) (fun _ => false) rfl (by kernel_rfl) fun W11 hW11 => ?_
    have hE11 : Ext W10 W11 := hW11 ▸ Ext.drew W10
    have c11 := cw10.ext hE11
    have r' := acs_row (hl.ext (hE10.trans hE11)) hq
    have r0' := r' 0 _ (by omega) rfl
    rw [Nat.add_zero] at r0'
    simp [e1, e5, e7, e9, c11.cell 0 _ rfl, c11.cell 1 _ rfl, c11.cell 2 _ rfl, c11.cell 3 _ rfl, c11.cell 4 _ rfl, ix, r0', r' 1 _ (by omega) rfl, r' 2 _ (by omega) rfl, r' 3 _ (by omega) rfl, r' 4 _ (by omega) rfl, r' 5 _ (by omega) rfl, r' 6 _ (by omega) rfl, r' 7 _ (by omega) rfl, r' 8 _ (by omega) rfl, r' 9 _ (by omega) rfl, r' 10 _ (by omega) rfl, r' 11 _ (by omega) rfl, r' 12 _ (by omega) rfl, r' 13 _ (by omega) rfl, r' 14 _ (by omega) rfl, r' 15 _ (by omega) rfl, r' 16 _ (by omega) rfl]
    refine FN.mono (his W11 _ (hbo10.ext hE11) ((i : Int).tmod 4)) ?_
    rintro _ W12 ⟨rfl, hE12⟩
    simp [e1, e5, e7, e9]
    have hw1 : IntKind.i64.wrap ((i : Int) + 1) = i + 1 := wrap64 _ (by omega) (by omega)
    rw [hw1]
    have hE112 := hE11.trans hE12
    exact ⟨l.length - (i + 1), by omega, i + 1, rfl, by omega, by push_cast; rfl, _, _, _, hbo10.ext hE112, cw10.ext hE112, ho9, hE10.trans hE112, hI.new, hI.nw, hI.nf⟩
  · simp [e1, e9, hlen, hlt]
    refine FN.mono (noneL_c w5) ?_
    rintro _ w6 ⟨rfl, hE6⟩
    simp
    refine FN.mono (works_c w6) ?_
    rintro _ w7 ⟨rfl, hE7⟩
    simp
    exact (hI.ext.trans hE6).trans hE7
end Go.Proofs
