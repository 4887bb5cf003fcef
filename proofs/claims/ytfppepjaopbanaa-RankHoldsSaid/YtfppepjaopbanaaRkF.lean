/-
  Contracts of the functions that the law reaches, step by step.
-/
import Derived.Test.YtfppepjaopbanaaRkE
namespace Go.Proofs
open Pk
set_option maxRecDepth 10000
theorem new_c (m : Int) (h0 : 0 ≤ m) (h1 : m ≤ 4096) (w : World) : FN Try.prog 6 [i64 m] w fun e w' => ∃ l Rq Rw, e = .returned (.tuple #[ptr l, i64 0]) ∧ LineAt w' l Rq Rw [] [] [] m ∧ Ext w w' ∧ w.heap.size ≤ l ∧ w.heap.size ≤ Rq ∧ w.heap.size ≤ Rw := by
  refine FN_enter Try.func6 rfl rfl (by kernel_rfl) ?_
  have g0 : ¬ m < 0 := by omega
  have g1 : ¬ 4096 < m := by omega
  simp [g0, g1]
  have hE := (((Ext.refl w).alloc (.map #[] 0)).alloc (.map #[] 0)).alloc (.cells #[i64 m, .map (some w.heap.size), .map (some (w.heap.size + 1))] 70)
  have m1 : MapAt quV ewQ (((w.alloc (.map #[] 0)).alloc (.map #[] 0)).alloc (.cells #[i64 m, .map (some w.heap.size), .map (some (w.heap.size + 1))] 70)) w.heap.size [] := (MapAt.alloc0 quV ewQ w).ext (((Ext.refl _).alloc _).alloc _)
  have m2 : MapAt nmV quV (((w.alloc (.map #[] 0)).alloc (.map #[] 0)).alloc (.cells #[i64 m, .map (some w.heap.size), .map (some (w.heap.size + 1))] 70)) (w.heap.size + 1) [] := by
    have := (MapAt.alloc0 nmV quV (w.alloc (.map #[] 0))).ext ((Ext.refl _).alloc (.cells #[i64 m, .map (some w.heap.size), .map (some (w.heap.size + 1))] 70))
    simpa using this
  have hfin : LineAt (((w.alloc (.map #[] 0)).alloc (.map #[] 0)).alloc (.cells #[i64 m, .map (some w.heap.size), .map (some (w.heap.size + 1))] 70)) (w.heap.size + 1 + 1) w.heap.size (w.heap.size + 1) [] [] [] m := by
    refine ⟨?_, ?_, ?_, m1, m2, by simp, by simp, by simp, by simp, by omega, fun q => by simp [kget_nil, qof], fun n => by simp [kget_nil, findN], by simp, rfl⟩ <;> simp
  exact ⟨_, ⟨_, hfin, hE, by omega, by omega, by omega⟩⟩
theorem len_c {w : World} {l Rq Rw : Nat} {M : MQ} {N : MN} {s : List Wt} {most : Int} (h : LineAt w l Rq Rw M N s most) : FN Try.prog 48 [ptr l] w fun e w' => e = .returned (.tuple #[i64 s.length, i64 most]) ∧ Ext w w' := by
  refine FN_enter Try.func48 rfl rfl (by kernel_rfl) ?_
  simp
  refine FN.mono (none_c h) ?_
  rintro _ w1 ⟨rfl, hw⟩
  rw [hw]
  simp
  refine WC_drawQ 11 rfl (by kernel_rfl) ?_
  have hd := Ext.drew w
  have hl := (h.mw.ext hd).len (P := Try.prog) (T := 68) (by simp)
  rw [h.len] at hl
  simp [(h.ext hd).c0, (h.ext hd).c2, hl]
  exact hd
def allOf (s : List Wt) (nd : Int) : List Wt := qof s (nd, 2) ++ qof s (nd, 1) ++ qof s (nd, 0)
def accOf (s : List Wt) (nd : Int) : Nat → List Wt
  | 0 => []
  | 1 => qof s (nd, 2)
  | 2 => qof s (nd, 2) ++ qof s (nd, 1)
  | _ => allOf s nd
theorem qof_len (s : List Wt) (q : Qu) : (qof s q).length ≤ s.length := List.length_filter_le _ _
theorem ranks_c (w : World) : FN Try.prog 64 [] w fun e w' => e = .returned (.agg #[i64 2, i64 1, i64 0]) ∧ Ext w w' := by
  refine FN_enter Try.func64 rfl rfl (by kernel_rfl) ?_
  simp
  exact (Ext.refl w).alloc _
theorem rk_i (i : Nat) (hi : i < 3) (w : World) : (Instr.index 119 (.agg #[i64 2, i64 1, i64 0]) (.int .i64 (i : Int))).run Try.prog w = .ok (i64 (2 - i)) w := by
  have hs : (Go.sizeOf 3).run Try.prog w = .ok 1 w := by simp
  have := r_index_arr (P := Try.prog) (t := 119) (e := 3) (n := 3) (m := 3) (l := [.int .i64]) (by simp) w hs (by kernel_rfl) (by kernel_rfl) #[i64 2, i64 1, i64 0] .i64 i (by omega) (by omega) (by simp; omega)
  rw [this]
  match i, hi with
  | 0, _ => rfl
  | 1, _ => rfl
  | 2, _ => rfl
theorem list_c {w : World} {l Rq Rw : Nat} {M : MQ} {N : MN} {s : List Wt} {most : Int} (h : LineAt w l Rq Rw M N s most) (hbd : s.length ≤ 300000) (nd : Int) :
    FN Try.prog 39 [ptr l, u32 nd] w fun e w' => ∃ v, e = .returned v ∧ w'.ownsRow w.heap.size 30 7 v (allOf s nd).length ((allOf s nd).flatMap wtC) ∧ Ext w w' := by
  refine FN_enter Try.func39 rfl rfl (by kernel_rfl) ?_
  simp
  refine FN.mono (none_c h) ?_
  rintro _ w1 ⟨rfl, hw⟩
  rw [hw]
  simp
  refine FN.mono (ranks_c w) ?_
  rintro _ w2 ⟨rfl, hE2⟩
  simp
  have hl2 := qof_len s (nd, 2)
  have hl1 := qof_len s (nd, 1)
  have hl0 := qof_len s (nd, 0)
  refine WC_loop (fun k ρ ds w' => ∃ (i : Nat) (v : Value), k = 3 - i ∧ i ≤ 3 ∧ ρ 0 = ptr l ∧ ρ 1 = u32 nd ∧ ρ 4 = v ∧ ρ 9 = .agg #[i64 2, i64 1, i64 0] ∧ ρ 10 = i64 i ∧ ds = [] ∧ Ext w w' ∧ w'.ownsRow w.heap.size 30 7 v (accOf s nd i).length ((accOf s nd i).flatMap wtC)) 3
    ⟨0, .slice none 0 0, by simp, by simp, by simp, by simp, by simp, by simp, by simp, rfl, hE2, World.ownsRow_nil _ _ _ _⟩ ?_
  rintro k ρ ds w3 ⟨i, v, rfl, hi, e0, e1, e4, e9, e10, rfl, hE, ho⟩
  have h3 := h.ext hE
  by_cases hlt : i < 3
  · have step : ∀ (r : Int), (accOf s nd i ++ qof s (nd, r)) = accOf s nd (i + 1) → (accOf s nd i).length ≤ 600000 →
        ∃ v' w4, (Builtin.append_ #[22, 22] 22 #[v, rowV M (nd, r)]).run Try.prog w3 = .ok v' w4 ∧ w4.ownsRow w.heap.size 30 7 v' (accOf s nd (i + 1)).length ((accOf s nd (i + 1)).flatMap wtC) ∧ Ext w w4 := by
      intro r hr hb
      have hq := qof_len s (nd, r)
      obtain ⟨v', w4, hr4, ho4, hM4, -⟩ := append_own (P := Try.prog) (t := 22) (ty := 22) (e := 30) (s := 7) (by simp) (by simp) (by kernel_rfl) ho (h3.sl (nd, r)) (wone _) (by omega) hE.size
      refine ⟨v', w4, hr4, ?_, ?_⟩
      · rw [← hr, List.length_append, List.flatMap_append]; exact ho4
      · exact ((hE.mod (S := fun k => w.heap.size ≤ k)).trans (hM4.weaken fun k hk => by have := own_ge ho hk.1; omega)).ext fun _ h => h
    have ix := rk_i i hlt w3
    match i, hlt with
    | 0, _ =>
      simp at ix
      obtain ⟨v', w4, hr, ho4, hE4⟩ := step 2 (by simp [accOf]) (by simp [accOf])
      simp [e0, e1, e4, e9, e10, h3.c1, h3.findQ, hr, ix]
      exact ⟨2, by omega, 1, by omega, by omega, by decide, hE4, ho4⟩
    | 1, _ =>
      simp at ix
      obtain ⟨v', w4, hr, ho4, hE4⟩ := step 1 (by simp [accOf]) (by simp [accOf]; omega)
      simp [e0, e1, e4, e9, e10, h3.c1, h3.findQ, hr, ix]
      exact ⟨1, by omega, 2, by omega, by omega, by decide, hE4, ho4⟩
    | 2, _ =>
      simp at ix
      obtain ⟨v', w4, hr, ho4, hE4⟩ := step 0 (by simp [accOf, allOf]) (by simp [accOf]; omega)
      simp [e0, e1, e4, e9, e10, h3.c1, h3.findQ, hr, ix]
      exact ⟨3, by omega, by omega, by decide, hE4, ho4⟩
  · have : i = 3 := by omega
    subst this
    simp [e4, e10]
    exact ⟨ho, hE⟩
/-! ### What goes over a row -/
theorem all_it {w : World} {b : Nat} {v : Value} {ls : List Wt} (v1 : Var w b v) (hm : WSl w v ls) (hbd : ls.length ≤ 1048576) :
    Iter Try.prog (.func (.func 54) #[] #[ptr b]) (fun x => [wtV x]) (· = ls) (fun pre => pre ≠ [] ∧ ∃ suf, ls = pre ++ suf) (fun k => k = b ∨ (slN v = false ∧ k = slB v)) w := by
  intro y C0 J Jx W hA hcap hC0 hJ hJx hyl h0
  have k1 := hcap b (.inl rfl)
  have v1W := v1.agr hA k1.1
  have hmW : WSl W v ls := by
    rcases hm.blk with ⟨hn, hz⟩ | ⟨b', o, c, rfl, _⟩
    · have : ls = [] := List.eq_nil_of_length_eq_zero hz
      subst this
      rcases hm.val with ⟨c, rfl, _⟩ | ⟨b', o, c, rfl, _⟩
      · exact Sl.nil W 7 c
      · simp [slN] at hn
    · exact hm.agr hA (hcap _ (.inr ⟨rfl, rfl⟩)).1
  refine FN_enter Try.func54 rfl rfl (by kernel_rfl) ?_
  simp
  refine WC_scope 0 _ rfl ?_
  obtain ⟨a, c, hvs⟩ := hm.isSlice
  have hlen := fun ty W => hm.isLen (P := Try.prog) (t := 22) (by simp) ty W
  simp [v1W.cell, hlen]
  refine WC_loop (fun k ρ ds w' => ∃ (i : Nat) (C : Nat → Prop), k = ls.length - i ∧ i ≤ ls.length ∧ ρ 0 = y ∧ ρ 5 = v ∧ ρ 6 = i64 ls.length ∧ ρ 7 = i64 i ∧ ds = [] ∧ J C (ls.take i) w' ∧
    (∀ k, C k → C0 k ∨ W.heap.size ≤ k) ∧ Agr (fun k => k < W.heap.size ∧ ¬ C0 k) W w') ls.length ⟨0, C0, by simp, by simp, by simp, by simp, by simp, by simp, rfl, h0, fun k h => .inl h, Agr.refl _ _⟩ ?_
  rintro k ρ ds w3 ⟨i, C, rfl, hi, e0, e5, e6, e7, rfl, hj, hC, hAg⟩
  by_cases hlt : i < ls.length
  · have hs3 : WSl w3 v ls := hmW.agr hAg (by
      have hn : slN v = false := by
        rcases hm.blk with ⟨hn, hz⟩ | ⟨b', o, c, rfl, _⟩
        · omega
        · rfl
      have := hcap _ (.inr ⟨hn, rfl⟩)
      exact ⟨by have := hA.size; omega, this.2⟩)
    have r := WSl.row hs3 (List.getElem?_eq_getElem hlt)
    have ix := WSl.index hs3 i hlt w3
    have hsp : (ls.take i ++ [ls[i]]) ≠ [] ∧ ∃ suf, ls = (ls.take i ++ [ls[i]]) ++ suf := ⟨List.append_ne_nil_of_right_ne_nil _ (by simp), ls.drop (i + 1), by rw [List.append_assoc, List.singleton_append, ← List.drop_eq_getElem_cons hlt, List.take_append_drop]⟩
    have htk : ls.take (i + 1) = ls.take i ++ [ls[i]] := by rw [List.take_add_one, List.getElem?_eq_getElem hlt]; rfl
    simp [e0, e5, e6, e7, hlt, ix, r.c0, r.c1, r.c2, r.c3, r.c4, r.c5, r.c6]
    have hE4 := (Ext.refl w3).alloc (.cells #[u32 ls[i].1.1, u32 ls[i].1.2.1, u64 ls[i].1.2.2.1, u32 ls[i].1.2.2.2, u32 ls[i].2.1, i64 ls[i].2.2.1, i64 ls[i].2.2.2] 30)
    have hj4 := hJ _ _ _ _ hj hE4.agr
    refine CV.mono (hyl C (ls.take i) ls[i] _ hsp hj4) ?_
    rintro _ w4 (⟨rfl, C', hj', hown⟩ | ⟨rfl, C', hj', hown⟩)
    · have hAg' : Agr (fun k => k < W.heap.size ∧ ¬ C0 k) w3 w4 := hE4.agr.trans (hown.mod.agr (fun k hk hc => by rcases hC k hc with h | h; exact hk.2 h; omega))
      simp [e0, e5, e6, e7]
      refine ⟨ls.length - (i + 1), by omega, i + 1, rfl, by omega, by rw [wrap64 _ (by omega) (by omega)]; rfl, C', by rw [htk]; exact hj', ?_, hAg.trans hAg'⟩
      intro k hk
      rcases hown.own k hk with h | h
      · exact hC k h
      · exact .inr (Nat.le_trans hAg.size (Nat.le_trans hE4.size h))
    · simp
      exact ⟨C', .inr ⟨_, hsp, hj'⟩⟩
  · simp [e6, e7, hlt]
    have : i = ls.length := by omega
    rw [this, List.take_length] at hj
    exact ⟨C, .inl hj⟩
theorem all_c {w : World} {l Rq Rw : Nat} {M : MQ} {N : MN} {s : List Wt} {most : Int} (h : LineAt w l Rq Rw M N s most) (hbd : s.length ≤ 300000) (nd : Int) :
    FN Try.prog 21 [ptr l, u32 nd] w fun e w' => ∃ b v, e = .returned (.func (.func 54) #[] #[ptr b]) ∧ Var w' b v ∧ WSl w' v (allOf s nd) ∧ Ext w w' ∧ w.heap.size ≤ b ∧ (slN v = false → w.heap.size ≤ slB v) := by
  refine FN_enter Try.func21 rfl rfl (by kernel_rfl) ?_
  simp
  refine FN.mono (list_c h hbd nd) ?_
  rintro _ w1 ⟨v, rfl, ho, hE⟩
  simp
  obtain ⟨a, c, rfl⟩ := own_val ho
  simp
  have hE1 := (Ext.refl w1).alloc (.cells #[.slice a (allOf s nd).length c] 22)
  exact ⟨_, Var.new w1 _ _, (sl_of_own ho).ext hE1, hE.trans hE1, hE.size, own_ge ho⟩
end Go.Proofs
