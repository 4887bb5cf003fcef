/-
  Contracts of the functions that the law reaches, step by step.
-/
import Derived.Test.YtjagbfaklckagaaGreatBdK
import Derived.Test.YtjagbfaklckagaaGreatEngAB
namespace Go.Proofs
open Pk
set_option maxRecDepth 10000
theorem acs_row {w : World} {v : Value} {l : List Ac} (h : SlA w 17 v l.length (l.flatMap acC)) {i : Nat} {x : Ac} (hi : l[i]? = some x) (j : Nat) (u : Value) (hj : j < 17) (e : (acC x)[j]? = some u) : w.cell? ⟨slB v, slO v + i * 17 + j, none⟩ = some u := by
  have d := h.at_ (i * 17 + j) u ((Pk.flat_at acC (fun _ => rfl) l i j x hi hj).trans e)
  simpa only [← Nat.add_assoc] using d
theorem seen0 (p : PK) : SeenOk p ⟨[], [], [], 9, 0⟩ ⟨false, 0⟩ := fun v h => by cases h
theorem from0 {l : List Ac} : FromL ⟨[], [], [], 9, 0⟩ l := fun x h => by cases h
theorem acs_rec {w : World} {v : Value} {l : List Ac} (h : SlA w 17 v l.length (l.flatMap acC)) {i : Nat} {x : Ac} (hi : l[i]? = some x) (j : Nat) (u : Value) (hj : j < 15) (e : (recC x.r)[j]? = some u) : w.cell? ⟨slB v, slO v + i * 17 + 1 + j, none⟩ = some u := by
  have d := acs_row h hi (j + 1) u (by omega) (by
    rw [List.getElem?_cons_succ, List.getElem?_append_left (by simp; omega)]
    exact e)
  rw [show slO v + i * 17 + 1 + j = slO v + i * 17 + (j + 1) by omega]
  exact d
def zed (L : Int) (p : PK) (a : Int) (l : List Ac) : Bool := decide (L = 0) || l.any fun q => decide (q.r.node = p.1) && (decide (q.r.lev = L) && (decide (q.r.fro ≤ a) && decide (a < q.r.til)))
theorem zed_succ (L : Int) (p : PK) (a : Int) {l : List Ac} {i : Nat} (hi : i < l.length) : zed L p a (l.take (i + 1)) = (zed L p a (l.take i) || (decide (l[i].r.node = p.1) && (decide (l[i].r.lev = L) && (decide (l[i].r.fro ≤ a) && decide (a < l[i].r.til))))) := by
  unfold zed
  rw [List.take_add_one, List.getElem?_eq_getElem hi, Option.toList_some, List.any_append]
  simp only [List.any_cons, List.any_nil, Bool.or_false, Bool.or_assoc]
theorem zed_all {b : Bd} {l : List Ac} {p : PK} {a L : Int} (hf : FromL b l) (h : IsLvl b.F p.1 a L) : zed L p a l = true := by
  unfold zed
  rcases h.some' with h | ⟨x, hx, hh, e⟩
  · simp [h]
  · obtain ⟨q, hq, e1, e2, e3, e4⟩ := hf x hx
    unfold hitF inS at hh
    simp only [Bool.and_eq_true, decide_eq_true_eq] at hh
    rw [Bool.or_eq_true, List.any_eq_true]
    refine .inr ⟨q, hq, ?_⟩
    simp only [Bool.and_eq_true, decide_eq_true_eq]
    omega
structure HoldI (w1 w' : World) (t rF rQ rA : Nat) (p : PK) (l : List Ac) (i : Nat) (b : Bd) (s : Sn) : Prop where
  at_ : BdAt w' t rF rQ rA b
  mod : Mod (fun k => w1.heap.size ≤ k) w1 w'
  ok : BOk b i
  seen : SeenOk p b s
  frm : FromL b (l.take i)
set_option maxHeartbeats 4000000 in
theorem ProbeHolds_c {w : World} {v : Value} {l : List Ac} {p : PK} {a : Int} (hl : SlA w 17 v l.length (l.flatMap acC)) (hp : ∀ q ∈ l, AcOk q) (ha : 0 ≤ a) : FN Tryz.prog 4 [v, .agg #[u32 p.1, u32 p.2], u64 a] w fun e w' => e = .returned (.bool true) ∧ Ext w w' := by
  refine FN_enter Tryz.func4 rfl rfl (by kernel_rfl) ?_
  have hlen := fun ty W => hl.isLen (P := Tryz.prog) (t := 41) (by simp) ty W
  have ixl := fun (i : Nat) (hi : i < l.length) (W : World) => hl.index (P := Tryz.prog) (t := 41) (by simp) .i64 i (by omega) (by omega) W
  by_cases h40 : (40 : Int) < l.length
  · simp [hlen, h40]
    refine FN.mono (works_c _) ?_
    rintro _ w2 ⟨rfl, hE2⟩
    simp
    exact ((Ext.refl w).alloc _).trans hE2
  simp [hlen, h40]
  have hE1 : Ext w (w.alloc (.cells #[u32 p.1, u32 p.2] 42)) := (Ext.refl w).alloc _
  have bp1 : Blk (w.alloc (.cells #[u32 p.1, u32 p.2] 42)) w.heap.size [u32 p.1, u32 p.2] := Blk.new w _ _
  obtain ⟨bp, hbp⟩ : ∃ b, b = w.heap.size := ⟨_, rfl⟩
  rw [← hbp] at bp1 ⊢
  generalize (w.alloc (.cells #[u32 p.1, u32 p.2] 42)) = w1 at *
  refine FN.mono (newB_c (p := 9) (by omega) w1) ?_
  rintro _ w2 ⟨h, -⟩
  obtain ⟨t, rF, rQ, rA, rfl, hB, hE2, hfr⟩ := h (by omega)
  have ge : ∀ k, (k = t ∨ k = rF ∨ k = rQ ∨ k = rA) → w1.heap.size ≤ k := hfr
  have bp2 := bp1.ext hE2
  simp [bp2.cell 0 _ rfl]
  refine FN.mono (level_c hB (by simp) p.1 a) ?_
  rintro _ w3 ⟨L0, rfl, hL0, hE3⟩
  have i0 : IsLvl [] p.1 a 0 := ⟨by decide, by simp, .inl rfl⟩
  obtain rfl := hL0.one i0 (by simp)
  have bp3 := bp2.ext hE3
  simp
  have lp := bp1.lt
  have nS : slB v < w.heap.size ∨ l = [] := by
    rcases l with _ | ⟨q, l'⟩
    · exact .inr rfl
    · have r := acs_row (i := 0) hl rfl 0 _ (by omega) rfl
      exact .inl (World.block_lt_of_cell? _ _ r)
  refine WC_loop (fun k ρ ds w' => ∃ (i : Nat) (b : Bd) (s : Sn), k = l.length - i ∧ i ≤ l.length ∧ ρ 0 = v ∧ ρ 2 = u64 a ∧ ρ 4 = ptr bp ∧ ρ 7 = ptr t ∧ ρ 8 = i64 0 ∧ ρ 9 = .bool s.y ∧ ρ 10 = .bool true ∧ ρ 11 = u64 s.u ∧ ρ 12 = i64 i ∧ ds = [] ∧ HoldI w1 w' t rF rQ rA p l i b s) l.length
    ⟨0, ⟨[], [], [], 9, 0⟩, ⟨false, 0⟩, by simp, by simp, by simp, by simp, by simp, by simp, by simp, by simp, by simp, by simp, by simp, rfl, hB.ext hE3, (hE2.trans hE3).mod, BOk.new (by omega), seen0 p, from0⟩ ?_
  rintro k ρ ds w4 ⟨i, b, s, rfl, hi, e0, e2, e4, e7, e8, e9, e10, e11, e12, rfl, hB4, hM4, hok, hseen, hfrom⟩
  have bp4 := bp1.mod hM4 (by omega)
  by_cases hlt : i < l.length
  · simp [e0, e12, hlen, hlt]
    have hq := List.getElem?_eq_getElem hlt
    have hqok := hp l[i] (by simp)
    have ix := ixl i hlt
    have hsv : slB v < w.heap.size := nS.resolve_right fun h => by rw [h] at hlt; simp at hlt
    have hl4 : SlA w4 17 v l.length (l.flatMap acC) := (hl.ext hE1).ext (hM4.ext fun _ h => h)
    have r4 := acs_row hl4 hq
    have r0 := r4 0 _ (by omega) rfl
    rw [Nat.add_zero] at r0
    simp [ix, r0]
    have hw1 : IntKind.i64.wrap ((i : Int) + 1) = i + 1 := wrap64 _ (by omega) (by omega)
    have hok' := hok.hold hqok
    have hseen' := hseen.step hB4.mA.nodup l[i]
    have hfrom' := hfrom.step l[i]
    rw [show l.take i ++ [l[i]] = l.take (i + 1) by rw [List.take_add_one, hq]; rfl] at hfrom'
    by_cases hask : isAsk l[i]
    · have eB : holdB b l[i] = askB b l[i].r.node l[i].r.reg l[i].at' := by unfold holdB; rw [if_pos hask]
      have eS : seenS p b s l[i] = s := by unfold seenS; rw [if_pos hask]
      rw [eB] at hok' hseen' hfrom'
      rw [eS] at hseen'
      rcases hask with q | q
      all_goals
        simp [beq_dec, q]
        refine WC_drawC 18 (.F 0 <| .F 1 <| .F 2 <| .F 3 <| .F 4 <| .F 5 <| .F 6 <| .F 7 <| .F 8 <| .F 9 <| .F 10 <| .F 11 <| .F 12 <| .F 13 <| .F 14 <| .F 15 <| .F 16 <| .F 17 <| .Z) (fun _ => false) rfl (by kernel_rfl) fun W hW => ?_
        have hWE : Ext w4 W := hW ▸ Ext.drew w4
        have rW := acs_row (hl4.ext hWE) hq
        simp [e0, e7, e12, ix, rW 10 _ (by omega) rfl, rW 11 _ (by omega) rfl, rW 16 _ (by omega) rfl]
        refine FN.mono (ask_c (hB4.ext hWE) l[i].r.node l[i].r.reg l[i].at') ?_
        rintro _ w5 ⟨rfl, hB5, hM5⟩
        have hM5' := (hM4.trans hWE.mod).trans (hM5.weaken fun k hk => ge k (by rcases hk with h | h <;> simp [h]))
        simp [e0, e2, e4, e7, e8, e9, e10, e11, e12, hw1]
        exact ⟨l.length - (i + 1), by omega, i + 1, rfl, by omega, _, s, rfl, rfl, by push_cast; rfl, hB5, hM5', hok', hseen', hfrom'⟩
    by_cases hans : isAns l[i]
    · have eB : holdB b l[i] = ansB b l[i].r := by unfold holdB; rw [if_neg hask, if_pos hans]
      rw [eB] at hok' hseen' hfrom'
      unfold isAsk at hask
      rcases hans with q | q
      all_goals
        simp [beq_dec, q]
        have sB := hB4.lt
        refine WC_drawC 29 (.F 0 <| .F 1 <| .F 2 <| .F 3 <| .F 4 <| .F 5 <| .C 6 <| .C 7 <| .F 8 <| .F 9 <| .F 10 <| .F 11 <| .F 12 <| .F 13 <| .F 14 <| .F 15 <| .F 16 <| .F 17 <| .F 18 <| .F 19 <| .F 20 <| .F 21 <| .F 22 <| .F 23 <| .F 24 <| .F 25 <| .F 26 <| .F 27 <| .F 28 <| .Z) (Xf fun k => k = rQ ∨ k = rA) rfl (by kernel_rfl) fun W hW => ?_
        have hWE : Ext w4 W := hW ▸ Ext.drew w4
        have rW := acs_row (hl4.ext hWE) hq
        have cW := acs_rec (hl4.ext hWE) hq
        have s4 := hE1.size
        have gQ := ge rQ (by simp)
        have gA := ge rA (by simp)
        have Xv : Xf (fun k => k = rQ ∨ k = rA) (slB v) = false := Xf_f (by omega)
        have Xp : Xf (fun k => k = rQ ∨ k = rA) bp = false := Xf_f (by omega)
        simp [e0, e7, e12, ix, Xv, rW 1 _ (by omega) rfl, (cW 1 _ (by omega) rfl), (cW 2 _ (by omega) rfl), (cW 3 _ (by omega) rfl), (cW 4 _ (by omega) rfl), (cW 5 _ (by omega) rfl), (cW 6 _ (by omega) rfl), (cW 7 _ (by omega) rfl), (cW 8 _ (by omega) rfl), (cW 9 _ (by omega) rfl), (cW 10 _ (by omega) rfl), (cW 11 _ (by omega) rfl), (cW 12 _ (by omega) rfl), (cW 13 _ (by omega) rfl), (cW 14 _ (by omega) rfl)]
        refine FN.mono (answer_c (r := l[i].r) (hB4.ext hWE) hok.qok hqok.r) ?_
        rintro _ w5 ⟨rfl, hB5, hM5⟩
        have hM5' := (hM4.trans hWE.mod).trans (hM5.weaken fun k hk => ge k (by rcases hk with h | h <;> simp [h]))
        simp
        refine KR_mk (Xf_agr hM5) ?_
        simp
        refine FN.mono (num_c _ _) ?_
        rintro _ w6 ⟨rfl, rfl⟩
        simp
        refine KR_same ?_
        have hl6 : SlA w6 17 v l.length (l.flatMap acC) := (hl.ext hE1).ext (hM5'.ext fun _ h => h)
        have r6 := acs_row hl6 hq
        have bp6 := bp1.mod hM5' (by omega)
        have goalI : ∀ (w7 : World) (x : Sn), Ext w6 w7 → x = seenS p b s l[i] → HoldI w1 w7 t rF rQ rA p l (i + 1) (ansB b l[i].r) x := by
          intro w7 x hE7 hx
          subst hx
          exact ⟨hB5.ext hE7, hM5'.trans hE7.mod, hok', hseen', hfrom'⟩
        have seenIs : seenS p b s l[i] = if ansR b l[i].r = 0 ∧ l[i].r.node = p.1 ∧ l[i].r.reg = p.2 then ⟨true, l[i].r.til⟩ else s := by
          have ia : isAns l[i] := by unfold isAns; omega
          unfold seenS
          rw [if_neg (show ¬ isAsk l[i] from hask)]
          by_cases hh : ansR b l[i].r = 0 ∧ l[i].r.node = p.1 ∧ l[i].r.reg = p.2
          · have h2 : isAns l[i] ∧ ansR b l[i].r = 0 ∧ l[i].r.node = p.1 ∧ l[i].r.reg = p.2 := ⟨ia, hh⟩
            rw [if_pos hh, if_pos h2]
          · have h2 : ¬ (isAns l[i] ∧ ansR b l[i].r = 0 ∧ l[i].r.node = p.1 ∧ l[i].r.reg = p.2) := fun e => hh e.2
            rw [if_neg hh, if_neg h2]
        by_cases g0 : ansR b l[i].r = 0
        · by_cases g1 : l[i].r.node = p.1
          · by_cases g2 : l[i].r.reg = p.2
            · rw [if_pos ⟨g0, g1, g2⟩] at seenIs
              simp [g0, g1, g2, e0, e4, e7, e12,  ix, Xv, Xp, r6 10 _ (by omega) rfl, r6 11 _ (by omega) rfl, bp6.cell 0 _ rfl, bp6.cell 1 _ rfl]
              refine WC_drawC 7 (.F 0 <| .F 1 <| .F 2 <| .F 3 <| .F 4 <| .F 5 <| .F 6 <| .Z) (fun _ => false) rfl (by kernel_rfl) fun W7 hW7 => ?_
              have hE7 : Ext w6 W7 := hW7 ▸ Ext.drew w6
              have r7 := acs_row (hl6.ext hE7) hq
              simp [e0, e2, e4, e7, e8, e10, e12, hw1, ix, r7 14 _ (by omega) rfl]
              exact ⟨l.length - (i + 1), by omega, i + 1, rfl, by omega, _, ⟨true, l[i].r.til⟩, rfl, rfl, by push_cast; rfl, goalI W7 _ hE7 seenIs.symm⟩
            · rw [if_neg (fun e => g2 e.2.2)] at seenIs
              simp [beq_dec, g0, g1, g2, e0, e2, e4, e7, e8, e9, e10, e11, e12, hw1,  ix, Xv, Xp, r6 10 _ (by omega) rfl, r6 11 _ (by omega) rfl, bp6.cell 0 _ rfl, bp6.cell 1 _ rfl]
              exact ⟨l.length - (i + 1), by omega, i + 1, rfl, by omega, _, s, rfl, rfl, by push_cast; rfl, goalI w6 s (Ext.refl _) seenIs.symm⟩
          · rw [if_neg (fun e => g1 e.2.1)] at seenIs
            simp [beq_dec, g0, g1, e0, e2, e4, e7, e8, e9, e10, e11, e12, hw1,  ix, Xv, Xp, r6 10 _ (by omega) rfl, bp6.cell 0 _ rfl]
            exact ⟨l.length - (i + 1), by omega, i + 1, rfl, by omega, _, s, rfl, rfl, by push_cast; rfl, goalI w6 s (Ext.refl _) seenIs.symm⟩
        · rw [if_neg (fun e => g0 e.1)] at seenIs
          simp [beq_dec, g0, e0, e2, e4, e7, e8, e9, e10, e11, e12, hw1,  ix]
          exact ⟨l.length - (i + 1), by omega, i + 1, rfl, by omega, _, s, rfl, rfl, by push_cast; rfl, goalI w6 s (Ext.refl _) seenIs.symm⟩
    unfold isAsk at hask
    unfold isAns at hans
    have n0 : ¬ l[i].what = 0 := fun h => hask (.inl h)
    have n1 : ¬ l[i].what = 1 := fun h => hask (.inr h)
    have n2 : ¬ l[i].what = 2 := fun h => hans (.inl h)
    have n3 : ¬ l[i].what = 3 := fun h => hans (.inr h)
    have s4 := hE1.size
    have c4 := acs_rec hl4 hq
    by_cases h6 : l[i].what = 6
    · have eB : holdB b l[i] = pruB b l[i].at' := by unfold holdB; rw [if_neg (by unfold isAsk; omega), if_neg (by unfold isAns; omega), if_pos h6]
      have eS : seenS p b s l[i] = s := by unfold seenS; rw [if_neg (by unfold isAsk; omega), if_neg (fun e => by have := e.1; unfold isAns at this; omega)]
      rw [eB] at hok' hseen' hfrom'
      rw [eS] at hseen'
      simp [beq_dec, h6, e0, e7, e12, ix, r4 16 _ (by omega) rfl]
      refine FN.mono (prune_c hB4 (hok.small (by omega)) hok.p (fun x hx => (hok.q x hx).2) l[i].at') ?_
      rintro _ w5 ⟨rfl, hB5, hM5⟩
      have hM5' := hM4.trans (hM5.weaken fun k hk => ge k (by rcases hk with h | h | h <;> simp [h]))
      simp [e0, e2, e4, e7, e8, e9, e10, e11, e12, hw1]
      exact ⟨l.length - (i + 1), by omega, i + 1, rfl, by omega, _, s, rfl, rfl, by push_cast; rfl, hB5, hM5', hok', hseen', hfrom'⟩
    · have eB : holdB b l[i] = foreBd b l[i].r := by unfold holdB; rw [if_neg (by unfold isAsk; omega), if_neg (by unfold isAns; omega), if_neg h6]
      have eS : seenS p b s l[i] = s := by unfold seenS; rw [if_neg (by unfold isAsk; omega), if_neg (fun e => by have := e.1; unfold isAns at this; omega)]
      rw [eB] at hok' hseen' hfrom'
      rw [eS] at hseen'
      simp [beq_dec, n0, n1, n2, n3, h6, e0, e7, e12, ix, r4 1 _ (by omega) rfl, (c4 1 _ (by omega) rfl), (c4 2 _ (by omega) rfl), (c4 3 _ (by omega) rfl), (c4 4 _ (by omega) rfl), (c4 5 _ (by omega) rfl), (c4 6 _ (by omega) rfl), (c4 7 _ (by omega) rfl), (c4 8 _ (by omega) rfl), (c4 9 _ (by omega) rfl), (c4 10 _ (by omega) rfl), (c4 11 _ (by omega) rfl), (c4 12 _ (by omega) rfl), (c4 13 _ (by omega) rfl), (c4 14 _ (by omega) rfl)]
      refine FN.mono (fore_c (r := l[i].r) hB4 hqok.r) ?_
      rintro _ w5 ⟨rfl, hB5, hM5⟩
      have hM5' := hM4.trans (hM5.weaken fun k hk => ge k (by simp [hk]))
      simp [e0, e2, e4, e7, e8, e9, e10, e11, e12, hw1]
      exact ⟨l.length - (i + 1), by omega, i + 1, rfl, by omega, _, s, rfl, rfl, by push_cast; rfl, hB5, hM5', hok', hseen', hfrom'⟩
  · have : i = l.length := by omega
    subst this
    rw [List.take_length] at hfrom
    simp [e0, e2, e4, e7, e12, hlen, bp4.cell 0 _ rfl]
    refine FN.mono (level_c hB4 hok.f p.1 a) ?_
    rintro _ w5 ⟨L, rfl, hL, hE5⟩
    have hz := zed_all hfrom hL
    have hoff := hseen.off a
    have hB5 := hB4.ext hE5
    have hM5 := hM4.trans hE5.mod
    have bp5 := bp4.ext hE5
    simp [beq_dec]
    refine WC_loop (fun k ρ ds w' => ∃ (i : Nat), k = l.length - i ∧ i ≤ l.length ∧ ρ 0 = v ∧ ρ 2 = u64 a ∧ ρ 4 = ptr bp ∧ ρ 7 = ptr t ∧ ρ 8 = i64 0 ∧ ρ 9 = .bool s.y ∧ ρ 10 = .bool true ∧ ρ 11 = u64 s.u ∧ ρ 13 = u8 L ∧ ρ 14 = .bool (zed L p a (l.take i)) ∧ ρ 15 = i64 i ∧ ds = [] ∧ Ext w5 w') l.length
      ⟨0, by simp, by simp, by simp [e0], by simp [e2], by simp [e4], by simp [e7], by simp [e8], by simp [e9], by simp [e10], by simp [e11], by simp, by simp [zed], by simp, rfl, Ext.refl _⟩ ?_
    clear e0 e2 e4 e7 e8 e9 e10 e11 e12
    rintro k ρ ds w6 ⟨i, rfl, hi, e0, e2, e4, e7, e8, e9, e10, e11, e13, e14, e15, rfl, hE6⟩
    have bp6 := bp5.ext hE6
    have hl6 : SlA w6 17 v l.length (l.flatMap acC) := ((hl.ext hE1).ext (hM5.ext fun _ h => h)).ext hE6
    by_cases hlt : i < l.length
    · have hq := List.getElem?_eq_getElem hlt
      have ix := ixl i hlt
      have r6 := acs_row hl6 hq
      have c6 := acs_rec hl6 hq
      have hw1 : IntKind.i64.wrap ((i : Int) + 1) = i + 1 := wrap64 _ (by omega) (by omega)
      have hs := zed_succ L p a hlt
      have hE7 : Ext w6 (w6.alloc (.cells (recC l[i].r).toArray 38)) := (Ext.refl _).alloc _
      have b7 : Blk (w6.alloc (.cells (recC l[i].r).toArray 38)) w6.heap.size (recC l[i].r) := Blk.new _ _ _
      have bp7 := bp6.ext hE7
      simp [e0, e15, hlen, hlt, ix, r6 1 _ (by omega) rfl, (c6 1 _ (by omega) rfl), (c6 2 _ (by omega) rfl), (c6 3 _ (by omega) rfl), (c6 4 _ (by omega) rfl), (c6 5 _ (by omega) rfl), (c6 6 _ (by omega) rfl), (c6 7 _ (by omega) rfl), (c6 8 _ (by omega) rfl), (c6 9 _ (by omega) rfl), (c6 10 _ (by omega) rfl), (c6 11 _ (by omega) rfl), (c6 12 _ (by omega) rfl), (c6 13 _ (by omega) rfl), (c6 14 _ (by omega) rfl)]
      generalize (w6.alloc (.cells (recC l[i].r).toArray 38)) = w7 at *
      cases hz0 : zed L p a (l.take i) with
      | true =>
        rw [hz0] at hs e14
        simp at hs
        simp [e0, e2, e4, e7, e8, e9, e10, e11, e13, e14, e15, hw1]
        exact ⟨l.length - (i + 1), by omega, i + 1, rfl, by omega, hs, by push_cast; rfl, hE6.trans hE7⟩
      | false =>
        rw [hz0] at hs e14
        by_cases k1 : l[i].r.node = p.1
        · by_cases k2 : l[i].r.lev = L
          · by_cases k3 : l[i].r.fro ≤ a
            · by_cases k4 : a < l[i].r.til
              · simp [k1, k2, k3, k4] at hs
                simp [e0, e2, e4, e7, e8, e9, e10, e11, e13, e14, e15, hw1, b7.cell 9 _ rfl, b7.cell 12 _ rfl, b7.cell 13 _ rfl, b7.cell 14 _ rfl, bp7.cell 0 _ rfl, k1, k2, k3, k4]
                exact ⟨l.length - (i + 1), by omega, i + 1, rfl, by omega, hs, by push_cast; rfl, hE6.trans hE7⟩
              · simp [k1, k2, k3, k4] at hs
                simp [e0, e2, e4, e7, e8, e9, e10, e11, e13, e14, e15, hw1, b7.cell 9 _ rfl, b7.cell 12 _ rfl, b7.cell 13 _ rfl, b7.cell 14 _ rfl, bp7.cell 0 _ rfl, k1, k2, k3, k4]
                exact ⟨l.length - (i + 1), by omega, i + 1, rfl, by omega, hs, by push_cast; rfl, hE6.trans hE7⟩
            · simp [k1, k2, k3] at hs
              simp [e0, e2, e4, e7, e8, e9, e10, e11, e13, e14, e15, hw1, b7.cell 9 _ rfl, b7.cell 12 _ rfl, b7.cell 14 _ rfl, bp7.cell 0 _ rfl, k1, k2, k3]
              exact ⟨l.length - (i + 1), by omega, i + 1, rfl, by omega, hs, by push_cast; rfl, hE6.trans hE7⟩
          · simp [k1, k2] at hs
            simp [beq_dec, e0, e2, e4, e7, e8, e9, e10, e11, e13, e14, e15, hw1, b7.cell 9 _ rfl, b7.cell 14 _ rfl, bp7.cell 0 _ rfl, k1, k2]
            exact ⟨l.length - (i + 1), by omega, i + 1, rfl, by omega, hs, by push_cast; rfl, hE6.trans hE7⟩
        · simp [k1] at hs
          simp [beq_dec, e0, e2, e4, e7, e8, e9, e10, e11, e13, e14, e15, hw1, b7.cell 9 _ rfl, bp7.cell 0 _ rfl, k1]
          exact ⟨l.length - (i + 1), by omega, i + 1, rfl, by omega, hs, by push_cast; rfl, hE6.trans hE7⟩
    · have : i = l.length := by omega
      subst this
      rw [List.take_length, hz] at e14
      simp [e0, e8, e15, hlen]
      have hB6 := hB5.ext hE6
      have hX6 := hM5.trans hE6.mod
      refine FN.mono (num_c _ _) ?_
      rintro _ w7 ⟨rfl, rfl⟩
      simp [e10, e14]
      cases hy : s.y with
      | true =>
        simp [e2, e4, e7, e9, e11, hy, bp6.cell 0 _ rfl, bp6.cell 1 _ rfl]
        refine FN.mono (off_c hB6 p.1 p.2 (max s.u a)) ?_
        rintro _ w8 ⟨rfl, hE8⟩
        rw [hoff.1]
        simp
        refine FN.mono (works_c _) ?_
        rintro _ w9 ⟨rfl, hE9⟩
        simp
        exact hE1.trans (((hX6.trans hE8.mod).trans hE9.mod).ext fun _ h => h)
      | false =>
        simp [e2, e4, e7, e9, hy, bp6.cell 0 _ rfl, bp6.cell 1 _ rfl]
        refine FN.mono (off_c hB6 p.1 p.2 a) ?_
        rintro _ w8 ⟨rfl, hE8⟩
        rw [hoff.2 hy]
        simp [e2, e4, e7, e11, (bp6.ext hE8).cell 0 _ rfl, (bp6.ext hE8).cell 1 _ rfl]
        refine FN.mono (off_c (hB6.ext hE8) p.1 p.2 (max s.u a)) ?_
        rintro _ w9 ⟨rfl, hE9⟩
        rw [hoff.1]
        simp
        refine FN.mono (works_c _) ?_
        rintro _ w10 ⟨rfl, hE10⟩
        simp
        exact hE1.trans ((((hX6.trans hE8.mod).trans hE9.mod).trans hE10.mod).ext fun _ h => h)
end Go.Proofs
