/-
  Contracts of the functions that the law reaches, step by step.
-/
import Derived.Test.YtfppepjaopbanaaRkA
import Derived.Test.YtfppepjaopbanaaEngT
namespace Go.Proofs
open Pk
set_option maxRecDepth 10000
theorem new_c (m : Int) (h0 : 0 ≤ m) (h1 : m ≤ 4096) (w : World) : FN Try.prog 6 [i64 m] w fun e w' => ∃ l Rq Rw, e = .returned (.tuple #[ptr l, i64 0]) ∧ LineAt w' l Rq Rw [] [] [] m ∧ Ext w w' ∧ w.heap.size ≤ l ∧ w.heap.size ≤ Rq ∧ w.heap.size ≤ Rw := by
  refine FN_enter Try.func6 rfl rfl (by kernel_rfl) ?_
  have g0 : ¬ m < 0 := by omega
  have g1 : ¬ 4096 < m := by omega
  simp [g0, g1]
  have hE := (((Ext.refl w).alloc (.map #[] 0)).alloc (.map #[] 0)).alloc (.cells #[i64 m, .map (some w.heap.size), .map (some (w.heap.size + 1))] 70)
  have m1 : MapAt quV ewQ (((w.alloc (.map #[] 0)).alloc (.map #[] 0)).alloc (.cells #[i64 m, .map (some w.heap.size), .map (some (w.heap.size + 1))] 70)) w.heap.size [] := (MapAt.alloc0 quV ewQ w).ext (((Ext.refl _).alloc _).alloc _)
  have m2 : MapAt nmV quV (((w.alloc (.map #[] 0)).alloc (.map #[] 0)).alloc (.cells #[i64 m, .map (some w.heap.size), .map (some (w.heap.size + 1))] 70)) (w.heap.size + 1) [] := by
    have := (MapAt.alloc0 nmV quV (w.alloc (.map #[] 0))).ext ((Ext.refl _).alloc (.cells #[i64 m, .map (some w.heap.size), .map (some (w.heap.size + 1))] 70))
    simpa using this
  have hfin : LineAt (((w.alloc (.map #[] 0)).alloc (.map #[] 0)).alloc (.cells #[i64 m, .map (some w.heap.size), .map (some (w.heap.size + 1))] 70)) (w.heap.size + 1 + 1) w.heap.size (w.heap.size + 1) [] [] [] m := by
    refine ⟨?_, ?_, ?_, m1, m2, by simp, by simp, by simp, by simp, by omega, fun q => by simp [kget_nil, qof], fun n => by simp [kget_nil, findN], by simp, rfl⟩ <;> simp
  exact ⟨_, ⟨_, hfin, hE, by omega, by omega, by omega⟩⟩
theorem len_c {w : World} {l Rq Rw : Nat} {M : MQ} {N : MN} {s : List Wt} {most : Int} (h : LineAt w l Rq Rw M N s most) : FN Try.prog 48 [ptr l] w fun e w' => e = .returned (.tuple #[i64 s.length, i64 most]) ∧ Ext w w' := by
  refine FN_enter Try.func48 rfl rfl (by kernel_rfl) ?_
  simp
  refine FN.mono (none_c h) ?_
  rintro _ w1 ⟨rfl, hw⟩
  rw [hw]
  simp
  refine WC_drawQ 11 rfl (by kernel_rfl) ?_
  have hd := Ext.drew w
  have hl := (h.mw.ext hd).len (P := Try.prog) (T := 68) (by simp)
  rw [h.len] at hl
  simp [(h.ext hd).c0, (h.ext hd).c2, hl]
  exact hd
def allOf (s : List Wt) (nd : Int) : List Wt := qof s (nd, 2) ++ qof s (nd, 1) ++ qof s (nd, 0)
def accOf (s : List Wt) (nd : Int) : Nat → List Wt
  | 0 => []
  | 1 => qof s (nd, 2)
  | 2 => qof s (nd, 2) ++ qof s (nd, 1)
  | _ => allOf s nd
theorem qof_len (s : List Wt) (q : Qu) : (qof s q).length ≤ s.length := List.length_filter_le _ _
theorem ranks_c (w : World) : FN Try.prog 64 [] w fun e w' => e = .returned (.agg #[i64 2, i64 1, i64 0]) ∧ Ext w w' := by
  refine FN_enter Try.func64 rfl rfl (by kernel_rfl) ?_
  simp
  exact (Ext.refl w).alloc _
theorem rk_i (i : Nat) (hi : i < 3) (w : World) : (Instr.index 119 (.agg #[i64 2, i64 1, i64 0]) (.int .i64 (i : Int))).run Try.prog w = .ok (i64 (2 - i)) w := by
  have hs : (Go.sizeOf 3).run Try.prog w = .ok 1 w := by simp
  have := r_index_arr (P := Try.prog) (t := 119) (e := 3) (n := 3) (m := 3) (l := [.int .i64]) (by simp) w hs (by kernel_rfl) (by kernel_rfl) #[i64 2, i64 1, i64 0] .i64 i (by omega) (by omega) (by simp; omega)
  rw [this]
  match i, hi with
  | 0, _ => rfl
  | 1, _ => rfl
  | 2, _ => rfl
theorem list_c {w : World} {l Rq Rw : Nat} {M : MQ} {N : MN} {s : List Wt} {most : Int} (h : LineAt w l Rq Rw M N s most) (hbd : s.length ≤ 300000) (nd : Int) :
    FN Try.prog 39 [ptr l, u32 nd] w fun e w' => ∃ v, e = .returned v ∧ w'.ownsRow w.heap.size 30 7 v (allOf s nd).length ((allOf s nd).flatMap wtC) ∧ Ext w w' := by
  refine FN_enter Try.func39 rfl rfl (by kernel_rfl) ?_
  simp
  refine FN.mono (none_c h) ?_
  rintro _ w1 ⟨rfl, hw⟩
  rw [hw]
  simp
  refine FN.mono (ranks_c w) ?_
  rintro _ w2 ⟨rfl, hE2⟩
  simp
  have hl2 := qof_len s (nd, 2)
  have hl1 := qof_len s (nd, 1)
  have hl0 := qof_len s (nd, 0)
  refine WC_loop (fun k ρ ds w' => ∃ (i : Nat) (v : Value), k = 3 - i ∧ i ≤ 3 ∧ ρ 0 = ptr l ∧ ρ 1 = u32 nd ∧ ρ 4 = v ∧ ρ 9 = .agg #[i64 2, i64 1, i64 0] ∧ ρ 10 = i64 i ∧ ds = [] ∧ Ext w w' ∧ w'.ownsRow w.heap.size 30 7 v (accOf s nd i).length ((accOf s nd i).flatMap wtC)) 3
    ⟨0, .slice none 0 0, by simp, by simp, by simp, by simp, by simp, by simp, by simp, rfl, hE2, World.ownsRow_nil _ _ _ _⟩ ?_
  rintro k ρ ds w3 ⟨i, v, rfl, hi, e0, e1, e4, e9, e10, rfl, hE, ho⟩
  have h3 := h.ext hE
  by_cases hlt : i < 3
  · have step : ∀ (r : Int), (accOf s nd i ++ qof s (nd, r)) = accOf s nd (i + 1) → (accOf s nd i).length ≤ 600000 →
        ∃ v' w4, (Builtin.append_ #[22, 22] 22 #[v, rowV M (nd, r)]).run Try.prog w3 = .ok v' w4 ∧ w4.ownsRow w.heap.size 30 7 v' (accOf s nd (i + 1)).length ((accOf s nd (i + 1)).flatMap wtC) ∧ Ext w w4 := by
      intro r hr hb
      have hq := qof_len s (nd, r)
      obtain ⟨v', w4, hr4, ho4, hM4, -⟩ := append_own (P := Try.prog) (t := 22) (ty := 22) (e := 30) (s := 7) (by simp) (by simp) (by kernel_rfl) ho (h3.sl (nd, r)) (wone _) (by omega) hE.size
      refine ⟨v', w4, hr4, ?_, ?_⟩
      · rw [← hr, List.length_append, List.flatMap_append]; exact ho4
      · exact ((hE.mod (S := fun k => w.heap.size ≤ k)).trans (hM4.weaken fun k hk => by have := own_ge ho hk.1; omega)).ext fun _ h => h
    have ix := rk_i i hlt w3
    match i, hlt with
    | 0, _ =>
      simp at ix
      obtain ⟨v', w4, hr, ho4, hE4⟩ := step 2 (by simp [accOf]) (by simp [accOf])
      simp [e0, e1, e4, e9, e10, h3.c1, h3.findQ, hr, ix]
      exact ⟨2, by omega, 1, by omega, by omega, by decide, hE4, ho4⟩
    | 1, _ =>
      simp at ix
      obtain ⟨v', w4, hr, ho4, hE4⟩ := step 1 (by simp [accOf]) (by simp [accOf]; omega)
      simp [e0, e1, e4, e9, e10, h3.c1, h3.findQ, hr, ix]
      exact ⟨1, by omega, 2, by omega, by omega, by decide, hE4, ho4⟩
    | 2, _ =>
      simp at ix
      obtain ⟨v', w4, hr, ho4, hE4⟩ := step 0 (by simp [accOf, allOf]) (by simp [accOf]; omega)
      simp [e0, e1, e4, e9, e10, h3.c1, h3.findQ, hr, ix]
      exact ⟨3, by omega, by omega, by decide, hE4, ho4⟩
  · have : i = 3 := by omega
    subst this
    simp [e4, e10]
    exact ⟨ho, hE⟩
/-! ### What goes over a row -/
theorem all_it {w : World} {b : Nat} {v : Value} {ls : List Wt} (v1 : Var w b v) (hm : WSl w v ls) (hbd : ls.length ≤ 1048576) :
    Iter Try.prog (.func (.func 54) #[] #[ptr b]) (fun x => [wtV x]) (· = ls) (fun pre => pre ≠ [] ∧ ∃ suf, ls = pre ++ suf) (fun k => k = b ∨ (slN v = false ∧ k = slB v)) w := by
  intro y C0 J Jx W hA hcap hC0 hJ hJx hyl h0
  have k1 := hcap b (.inl rfl)
  have v1W := v1.agr hA k1.1
  have hmW : WSl W v ls := by
    rcases hm.blk with ⟨hn, hz⟩ | ⟨b', o, c, rfl, _⟩
    · have : ls = [] := List.eq_nil_of_length_eq_zero hz
      subst this
      rcases hm.val with ⟨c, rfl, _⟩ | ⟨b', o, c, rfl, _⟩
      · exact Sl.nil W 7 c
      · simp [slN] at hn
    · exact hm.agr hA (hcap _ (.inr ⟨rfl, rfl⟩)).1
  refine FN_enter Try.func54 rfl rfl (by kernel_rfl) ?_
  simp
  refine WC_scope 0 _ rfl ?_
  obtain ⟨a, c, hvs⟩ := hm.isSlice
  have hlen := fun ty W => hm.isLen (P := Try.prog) (t := 22) (by simp) ty W
  simp [v1W.cell, hlen]
  refine WC_loop (fun k ρ ds w' => ∃ (i : Nat) (C : Nat → Prop), k = ls.length - i ∧ i ≤ ls.length ∧ ρ 0 = y ∧ ρ 5 = v ∧ ρ 6 = i64 ls.length ∧ ρ 7 = i64 i ∧ ds = [] ∧ J C (ls.take i) w' ∧
    (∀ k, C k → C0 k ∨ W.heap.size ≤ k) ∧ Agr (fun k => k < W.heap.size ∧ ¬ C0 k) W w') ls.length ⟨0, C0, by simp, by simp, by simp, by simp, by simp, by simp, rfl, h0, fun k h => .inl h, Agr.refl _ _⟩ ?_
  rintro k ρ ds w3 ⟨i, C, rfl, hi, e0, e5, e6, e7, rfl, hj, hC, hAg⟩
  by_cases hlt : i < ls.length
  · have hs3 : WSl w3 v ls := hmW.agr hAg (by
      have hn : slN v = false := by
        rcases hm.blk with ⟨hn, hz⟩ | ⟨b', o, c, rfl, _⟩
        · omega
        · rfl
      have := hcap _ (.inr ⟨hn, rfl⟩)
      exact ⟨by have := hA.size; omega, this.2⟩)
    have r := WSl.row hs3 (List.getElem?_eq_getElem hlt)
    have ix := WSl.index hs3 i hlt w3
    have hsp : (ls.take i ++ [ls[i]]) ≠ [] ∧ ∃ suf, ls = (ls.take i ++ [ls[i]]) ++ suf := ⟨List.append_ne_nil_of_right_ne_nil _ (by simp), ls.drop (i + 1), by rw [List.append_assoc, List.singleton_append, ← List.drop_eq_getElem_cons hlt, List.take_append_drop]⟩
    have htk : ls.take (i + 1) = ls.take i ++ [ls[i]] := by rw [List.take_add_one, List.getElem?_eq_getElem hlt]; rfl
    simp [e0, e5, e6, e7, hlt, ix, r.c0, r.c1, r.c2, r.c3, r.c4, r.c5, r.c6]
    have hE4 := (Ext.refl w3).alloc (.cells #[u32 ls[i].1.1, u32 ls[i].1.2.1, u64 ls[i].1.2.2.1, u32 ls[i].1.2.2.2, u32 ls[i].2.1, i64 ls[i].2.2.1, i64 ls[i].2.2.2] 30)
    have hj4 := hJ _ _ _ _ hj hE4.agr
    refine CV.mono (hyl C (ls.take i) ls[i] _ hsp hj4) ?_
    rintro _ w4 (⟨rfl, C', hj', hown⟩ | ⟨rfl, C', hj', hown⟩)
    · have hAg' : Agr (fun k => k < W.heap.size ∧ ¬ C0 k) w3 w4 := hE4.agr.trans (hown.mod.agr (fun k hk hc => by rcases hC k hc with h | h; exact hk.2 h; omega))
      simp [e0, e5, e6, e7]
      refine ⟨ls.length - (i + 1), by omega, i + 1, rfl, by omega, by rw [wrap64 _ (by omega) (by omega)]; rfl, C', by rw [htk]; exact hj', ?_, hAg.trans hAg'⟩
      intro k hk
      rcases hown.own k hk with h | h
      · exact hC k h
      · exact .inr (Nat.le_trans hAg.size (Nat.le_trans hE4.size h))
    · simp
      exact ⟨C', .inr ⟨_, hsp, hj'⟩⟩
  · simp [e6, e7, hlt]
    have : i = ls.length := by omega
    rw [this, List.take_length] at hj
    exact ⟨C, .inl hj⟩
theorem all_c {w : World} {l Rq Rw : Nat} {M : MQ} {N : MN} {s : List Wt} {most : Int} (h : LineAt w l Rq Rw M N s most) (hbd : s.length ≤ 300000) (nd : Int) :
    FN Try.prog 21 [ptr l, u32 nd] w fun e w' => ∃ b v, e = .returned (.func (.func 54) #[] #[ptr b]) ∧ Var w' b v ∧ WSl w' v (allOf s nd) ∧ Ext w w' ∧ w.heap.size ≤ b ∧ (slN v = false → w.heap.size ≤ slB v) := by
  refine FN_enter Try.func21 rfl rfl (by kernel_rfl) ?_
  simp
  refine FN.mono (list_c h hbd nd) ?_
  rintro _ w1 ⟨v, rfl, ho, hE⟩
  simp
  obtain ⟨a, c, rfl⟩ := own_val ho
  simp
  have hE1 := (Ext.refl w1).alloc (.cells #[.slice a (allOf s nd).length c] 22)
  exact ⟨_, Var.new w1 _ _, (sl_of_own ho).ext hE1, hE.trans hE1, hE.size, own_ge ho⟩
end Go.Proofs
namespace Go.Proofs
open Pk
set_option maxRecDepth 10000
def zW : Wt := ((0, 0, 0, 0), 0, 0, 0)
def dropE (s : List Wt) (n : Nm) : Int := if badN n then 2 else if (findN s n).isNone then 5 else 0
def dropV (s : List Wt) (n : Nm) : Wt := if dropE s n = 0 then (findN s n).getD zW else zW
/-- An object of one's own that holds a thing: what is written there. -/
theorem dropped {s : List Wt} {n : Nm} (h : dropE s n = 0) : ∃ x, findN s n = some x := by
  unfold dropE at h
  cases hf : findN s n with
  | some x => exact ⟨x, rfl⟩
  | none => rw [hf] at h; exfalso; simp only [Option.isNone_none, if_true] at h; split at h <;> omega
theorem mod7 (W : World) (b : Nat) (v0 v1 v2 v3 v4 v5 v6 : Value) : Mod (fun k => k = b) W (((((((W.setCell ⟨b, 0, none⟩ v0).setCell ⟨b, 1, none⟩ v1).setCell ⟨b, 2, none⟩ v2).setCell ⟨b, 3, none⟩ v3).setCell ⟨b, 4, none⟩ v4).setCell ⟨b, 5, none⟩ v5).setCell ⟨b, 6, none⟩ v6) :=
  (((((((Mod.refl _ W).setC 0 v0).setC 1 v1).setC 2 v2).setC 3 v3).setC 4 v4).setC 5 v5).setC 6 v6
set_option maxHeartbeats 1000000 in
theorem drop_c {w : World} {l Rq Rw : Nat} {M : MQ} {N : MN} {s : List Wt} {most : Int} (h : LineAt w l Rq Rw M N s most) (hbd : s.length ≤ 1048575) (n : Nm) :
    FN Try.prog 10 [ptr l, nmV n] w fun e w' => e = .returned (.tuple #[wtV (dropV s n), i64 (dropE s n)]) ∧ ∃ M' N', LineAt w' l Rq Rw M' N' (if dropE s n = 0 then mdel s n else s) most ∧ Mod (Foot l Rq Rw M) w w' ∧ ∀ k, Foot l Rq Rw M' k → Foot l Rq Rw M k := by
  refine FN_enter Try.func10 rfl rfl (by kernel_rfl) ?_
  simp
  have hE1 : Ext w ((w.alloc (.cells #[u32 n.1, u32 n.2.1, u64 n.2.2.1, u32 n.2.2.2] 28)).alloc (.cells #[u32 0, u32 0, u64 0, u32 0, u32 0, i64 0, i64 0] 30)) := ((Ext.refl w).alloc _).alloc _
  have hn1 : NmAt ((w.alloc (.cells #[u32 n.1, u32 n.2.1, u64 n.2.2.1, u32 n.2.2.2] 28)).alloc (.cells #[u32 0, u32 0, u64 0, u32 0, u32 0, i64 0, i64 0] 30)) w.heap.size n := (NmAt.new w n 28).ext ((Ext.refl _).alloc _)
  have hob : ((w.alloc (.cells #[u32 n.1, u32 n.2.1, u64 n.2.2.1, u32 n.2.2.2] 28)).alloc (.cells #[u32 0, u32 0, u64 0, u32 0, u32 0, i64 0, i64 0] 30)).heap[w.heap.size + 1]? = some (.cells #[u32 0, u32 0, u64 0, u32 0, u32 0, i64 0, i64 0] 30 (0, 0)) := by
    have := World.alloc_heap_new (w.alloc (.cells #[u32 n.1, u32 n.2.1, u64 n.2.2.1, u32 n.2.2.2] 28)) (.cells #[u32 0, u32 0, u64 0, u32 0, u32 0, i64 0, i64 0] 30 (0, 0))
    simpa using this
  have hsz : ((w.alloc (.cells #[u32 n.1, u32 n.2.1, u64 n.2.2.1, u32 n.2.2.2] 28)).alloc (.cells #[u32 0, u32 0, u64 0, u32 0, u32 0, i64 0, i64 0] 30)).heap.size = w.heap.size + 1 + 1 := by simp
  generalize ((w.alloc (.cells #[u32 n.1, u32 n.2.1, u64 n.2.2.1, u32 n.2.2.2] 28)).alloc (.cells #[u32 0, u32 0, u64 0, u32 0, u32 0, i64 0, i64 0] 30)) = w1 at *
  refine WC_drawC 6 (.F 0 <| .F 2 <| .F 4 <| .F 5 <| .C 1 <| .C 3 <| .Z) (fun _ => false) rfl (by kernel_rfl) fun W hW => ?_
  have hWE : Ext w1 W := hW ▸ Ext.drew _
  have hn2 := hn1.ext hWE
  simp [hn2.c0, hn2.c1, hn2.c2, hn2.c3]
  refine FN.mono (is_c l W) ?_
  rintro _ W1 ⟨rfl, hE2⟩
  simp
  refine KR_ext hE2 ?_
  simp
  refine FN.mono (right_c n W1) ?_
  rintro _ W2 ⟨rb, rfl, hr, hE3⟩
  simp
  refine KR_ext hE3 ?_
  simp
  refine FN.mono (waits_c l n W2) ?_
  rintro _ W3 ⟨b0, b1, rfl, hv0, hnb, hE4⟩
  simp
  have hE41 := ((hWE.trans hE2).trans hE3).trans hE4
  let qs : List Qn := [⟨.func (.func 32) #[ptr l] #[], 1, false⟩, ⟨.func (.func 55) #[] #[ptr rb], 2, badN n⟩, ⟨.func (.func 60) #[] #[ptr b0, ptr b1], 5, (findN s n).isNone⟩]
  have hsl := Sl.made W3 (askCells qs) 73 2 3 rfl
  have hE5 := (Ext.refl W3).alloc (.cells (askCells qs).toArray 73)
  refine asked_go (w0 := W3) qs hsl (by simp [qs]) ?_ hE5 ?_ ?_
  · intro q hq
    simp [qs] at hq
    rcases hq with rfl | rfl | rfl <;> exact ⟨_, _, _, rfl⟩
  · intro i q hq hno w' hw'
    have hx := hE41.trans hw'
    match i, hq with
    | 0, hq =>
      simp [qs] at hq; subst hq
      exact FN.mono (none_c (h.ext (hE1.trans hx))) fun _ _ h => ⟨h.1, h.2 ▸ Ext.refl _⟩
    | 1, hq =>
      simp [qs] at hq; subst hq
      exact rightF_c (hr.ext (hE4.trans hw'))
    | 2, hq =>
      simp [qs] at hq; subst hq
      exact waitsF_c (h.ext (hE1.trans hx)) (hv0.ext hw') (hnb.ext hw')
    | i + 3, hq => simp [qs] at hq
  · intro w4 hw4
    have hX := hE41.trans hw4
    have hE : askE qs = dropE s n := by
      simp [qs, askE, dropE]
    rw [hE]
    have h4 := h.ext (hE1.trans hX)
    have hn4 := hn1.ext hX
    have ho4 := hX.obj hob
    have hlt := h.lt
    by_cases h0 : dropE s n = 0
    · obtain ⟨x, hx⟩ := dropped h0
      simp [h0, hn4.c0, hn4.c1, hn4.c2, hn4.c3]
      refine FN.mono (pull_c h4 hx hbd) ?_
      rintro _ w5 ⟨rfl, M', g1, g2, g3⟩
      have hb1 : ¬ Foot l Rq Rw M (w.heap.size + 1) := fun e => by have := hlt _ e; omega
      have ho5 := g2.obj ho4 hb1
      have y0 : ∀ j u, (#[u32 0, u32 0, u64 0, u32 0, u32 0, i64 0, i64 0] : Array Value)[j]? = some u → w5.cell? ⟨w.heap.size + 1, j, none⟩ = some u := fun j u hj => by simpa [World.cell?, ho5] using hj
      have yf : ∀ j, w5.frozen? ⟨w.heap.size + 1, j, none⟩ = false := fun j => by simp [World.frozen?, ho5]
      simp [y0 0 _ rfl, y0 1 _ rfl, y0 2 _ rfl, y0 3 _ rfl, y0 4 _ rfl, y0 5 _ rfl, y0 6 _ rfl, yf, cell_setCell]
      have hS := mod7 w5 (w.heap.size + 1) (u32 x.1.1) (u32 x.1.2.1) (u64 x.1.2.2.1) (u32 x.1.2.2.2) (u32 x.2.1) (i64 x.2.2.1) (i64 x.2.2.2)
      have hdv : dropV s n = x := by unfold dropV; rw [if_pos h0, hx]; rfl
      rw [hdv]
      refine ⟨by simp, M', ⟨_, g1.mod hS fun k hk e => hb1 (e ▸ g3 k hk)⟩, ((hE1.trans hX).mod.trans g2).trans' hS fun k hk => .inr (by omega), g3⟩
    · have y0 : ∀ j u, (#[u32 0, u32 0, u64 0, u32 0, u32 0, i64 0, i64 0] : Array Value)[j]? = some u → w4.cell? ⟨w.heap.size + 1, j, none⟩ = some u := fun j u hj => by simpa [World.cell?, ho4] using hj
      have yf : ∀ j, w4.frozen? ⟨w.heap.size + 1, j, none⟩ = false := fun j => by simp [World.frozen?, ho4]
      simp [h0, y0 0 _ rfl, y0 1 _ rfl, y0 2 _ rfl, y0 3 _ rfl, y0 4 _ rfl, y0 5 _ rfl, y0 6 _ rfl, yf, cell_setCell]
      have hS := mod7 w4 (w.heap.size + 1) (u32 0) (u32 0) (u64 0) (u32 0) (u32 0) (i64 0) (i64 0)
      have hdv : dropV s n = zW := by unfold dropV; rw [if_neg h0]
      rw [hdv]
      refine ⟨by simp [zW], M, ⟨_, h4.mod hS fun k hk e => by have := hlt k hk; omega⟩, (hE1.trans hX).mod.trans' hS fun k hk => .inr (by omega), fun k hk => hk⟩
def moveE (s : List Wt) (n : Nm) (tn : Int) : Int := if badN n then 2 else if tn = 0 then 2 else if (findN s n).isNone then 5 else 0
def moved (s : List Wt) (n : Nm) (tn : Int) : List Wt := if moveE s n tn = 0 then mdel s n ++ [(n, tn, ((findN s n).getD zW).2.2)] else s
theorem moveE_0 {s : List Wt} {n : Nm} {tn : Int} (h : moveE s n tn = 0) : ∃ x, findN s n = some x := by
  unfold moveE at h
  cases hf : findN s n with
  | some x => exact ⟨x, rfl⟩
  | none =>
    rw [hf] at h; exfalso; simp only [Option.isNone_none, if_true] at h; split at h
    · omega
    · split at h <;> omega
set_option maxHeartbeats 1000000 in
theorem move_c {w : World} {l Rq Rw : Nat} {M : MQ} {N : MN} {s : List Wt} {most : Int} (h : LineAt w l Rq Rw M N s most) (hbd : s.length ≤ 1048575) (n : Nm) (tn : Int) :
    FN Try.prog 20 [ptr l, nmV n, u32 tn] w fun e w' => e = .returned (i64 (moveE s n tn)) ∧ ∃ M' N', LineAt w' l Rq Rw M' N' (moved s n tn) most ∧ Mod (Foot l Rq Rw M) w w' ∧ ∀ k, Foot l Rq Rw M' k → Foot l Rq Rw M k ∨ w.heap.size ≤ k := by
  refine FN_enter Try.func20 rfl rfl (by kernel_rfl) ?_
  simp
  have hE1 : Ext w (w.alloc (.cells #[u32 n.1, u32 n.2.1, u64 n.2.2.1, u32 n.2.2.2] 28)) := (Ext.refl w).alloc _
  have hn1 : NmAt (w.alloc (.cells #[u32 n.1, u32 n.2.1, u64 n.2.2.1, u32 n.2.2.2] 28)) w.heap.size n := NmAt.new w n 28
  generalize (w.alloc (.cells #[u32 n.1, u32 n.2.1, u64 n.2.2.1, u32 n.2.2.2] 28)) = w1 at *
  refine WC_drawC 8 (.F 0 <| .F 2 <| .F 4 <| .F 6 <| .F 7 <| .C 1 <| .C 3 <| .C 5 <| .Z) (fun _ => false) rfl (by kernel_rfl) fun W hW => ?_
  have hWE : Ext w1 W := hW ▸ Ext.drew _
  have hn2 := hn1.ext hWE
  simp [hn2.c0, hn2.c1, hn2.c2, hn2.c3]
  refine FN.mono (is_c l W) ?_
  rintro _ W1 ⟨rfl, hE2⟩
  simp
  refine KR_ext hE2 ?_
  simp
  refine FN.mono (right_c n W1) ?_
  rintro _ W2 ⟨rb, rfl, hr, hE3⟩
  simp
  refine KR_ext hE3 ?_
  simp
  refine FN.mono (node_c tn W2) ?_
  rintro _ W3 ⟨nb, rfl, hnv, hE4⟩
  simp
  refine KR_ext hE4 ?_
  simp
  refine FN.mono (waits_c l n W3) ?_
  rintro _ W4 ⟨b0, b1, rfl, hv0, hnb, hE4'⟩
  simp
  have hE41 := (((hWE.trans hE2).trans hE3).trans hE4).trans hE4'
  let qs : List Qn := [⟨.func (.func 32) #[ptr l] #[], 1, false⟩, ⟨.func (.func 55) #[] #[ptr rb], 2, badN n⟩, ⟨.func (.func 57) #[] #[ptr nb], 2, decide (tn = 0)⟩, ⟨.func (.func 60) #[] #[ptr b0, ptr b1], 5, (findN s n).isNone⟩]
  have hsl := Sl.made W4 (askCells qs) 73 2 4 rfl
  have hE5 := (Ext.refl W4).alloc (.cells (askCells qs).toArray 73)
  refine asked_go (w0 := W4) qs hsl (by simp [qs]) ?_ hE5 ?_ ?_
  · intro q hq
    simp [qs] at hq
    rcases hq with rfl | rfl | rfl | rfl <;> exact ⟨_, _, _, rfl⟩
  · intro i q hq hno w' hw'
    have hx := hE41.trans hw'
    match i, hq with
    | 0, hq =>
      simp [qs] at hq; subst hq
      exact FN.mono (none_c (h.ext (hE1.trans hx))) fun _ _ h => ⟨h.1, h.2 ▸ Ext.refl _⟩
    | 1, hq =>
      simp [qs] at hq; subst hq
      exact rightF_c (hr.ext ((hE4.trans hE4').trans hw'))
    | 2, hq =>
      simp [qs] at hq; subst hq
      exact FN.mono (nodeF_c (hnv.ext (hE4'.trans hw'))) fun _ _ h => ⟨by rw [h.1, beq_dec], h.2 ▸ Ext.refl _⟩
    | 3, hq =>
      simp [qs] at hq; subst hq
      exact waitsF_c (h.ext (hE1.trans hx)) (hv0.ext hw') (hnb.ext hw')
    | i + 4, hq => simp [qs] at hq
  · intro w4 hw4
    have hX := hE41.trans hw4
    have hE : askE qs = moveE s n tn := by
      simp [qs, askE, moveE]
    rw [hE]
    have h4 := h.ext (hE1.trans hX)
    have hn4 := hn1.ext hX
    by_cases h0 : moveE s n tn = 0
    · obtain ⟨x, hx⟩ := moveE_0 h0
      have hxn := (findN_some hx).2
      simp [h0, hn4.c0, hn4.c1, hn4.c2, hn4.c3]
      refine FN.mono (pull_c h4 hx hbd) ?_
      rintro _ w5 ⟨rfl, M', g1, g2, g3⟩
      simp
      have hE6 := (Ext.refl w5).alloc (.cells #[u32 x.1.1, u32 x.1.2.1, u64 x.1.2.2.1, u32 x.1.2.2.2, u32 tn, i64 x.2.2.1, i64 x.2.2.2] 30)
      have hlen : (mdel s n).length ≤ s.length := List.length_filter_le _ _
      have hno : findN (mdel s n) (x.1, tn, x.2.2).1 = none := by rw [findN_drop, hxn, if_pos rfl]
      refine FN.mono (push_c (g1.ext hE6) (x.1, tn, x.2.2) hno (by omega)) ?_
      rintro _ w6 ⟨⟨u, rfl⟩, M6, N6, g4, g5, g6⟩
      simp
      have hmv : moved s n tn = mdel s n ++ [(x.1, tn, x.2.2)] := by unfold moved; rw [if_pos h0, hx, hxn]; rfl
      rw [hmv]
      refine ⟨M6, ⟨_, g4⟩, ((hE1.trans hX).mod.trans g2).trans ((hE6.mod).trans (g5.weaken g3)), fun k hk => ?_⟩
      rcases g6 k hk with h | h
      · exact .inl (g3 k h)
      · have s1 := (hE1.trans hX).size
        have s2 := g2.size
        have s3 := hE6.size
        exact .inr (Nat.le_trans s1 (Nat.le_trans s2 (Nat.le_trans s3 h)))
    · have hmv : moved s n tn = s := by unfold moved; rw [if_neg h0]
      rw [hmv]
      simp [h0]
      exact ⟨M, ⟨N, h4⟩, (hE1.trans hX).mod, fun k hk => .inl hk⟩
def firstE (s : List Wt) (nd : Int) : Int := if nd = 0 then 2 else if allOf s nd = [] then 5 else 0
def firstV (s : List Wt) (nd : Int) : Wt := if firstE s nd = 0 then (allOf s nd).headD zW else zW
theorem first1_c {w : World} {b : Nat} {v : Value} {ls : List Wt} (v1 : Var w b v) (h : WSl w v ls) : FN Try.prog 40 [ptr b] w fun e w' => e = .returned (.bool (decide (ls = []))) ∧ w' = w := by
  refine FN_enter Try.func40 rfl rfl (by kernel_rfl) ?_
  have hlen := fun ty W => h.isLen (P := Try.prog) (t := 22) (by simp) ty W
  obtain ⟨a, c, rfl⟩ := h.isSlice
  simp [v1.cell, hlen]
theorem first_c {w : World} {l Rq Rw : Nat} {M : MQ} {N : MN} {s : List Wt} {most : Int} (h : LineAt w l Rq Rw M N s most) (hbd : s.length ≤ 300000) (nd : Int) :
    FN Try.prog 12 [ptr l, u32 nd] w fun e w' => e = .returned (.tuple #[wtV (firstV s nd), i64 (firstE s nd)]) ∧ Ext w w' := by
  refine FN_enter Try.func12 rfl rfl (by kernel_rfl) ?_
  simp
  have hE1 : Ext w (w.alloc (.cells #[u32 0, u32 0, u64 0, u32 0, u32 0, i64 0, i64 0] 30)) := (Ext.refl w).alloc _
  have hob : (w.alloc (.cells #[u32 0, u32 0, u64 0, u32 0, u32 0, i64 0, i64 0] 30)).heap[w.heap.size]? = some (.cells #[u32 0, u32 0, u64 0, u32 0, u32 0, i64 0, i64 0] 30 (0, 0)) := World.alloc_heap_new w (.cells #[u32 0, u32 0, u64 0, u32 0, u32 0, i64 0, i64 0] 30 (0, 0))
  generalize (w.alloc (.cells #[u32 0, u32 0, u64 0, u32 0, u32 0, i64 0, i64 0] 30)) = w1 at *
  refine FN.mono (list_c (h.ext hE1) hbd nd) ?_
  rintro _ w2 ⟨v, rfl, ho, hE2⟩
  simp
  obtain ⟨a, c, hv⟩ := own_val ho
  subst hv
  simp
  have hE3 : Ext w2 (w2.alloc (.cells #[.slice a (allOf s nd).length c] 22)) := (Ext.refl w2).alloc _
  have v3 := Var.new w2 (.slice a (allOf s nd).length c) 22
  obtain ⟨vb, hvb⟩ : ∃ vb, vb = w2.heap.size := ⟨_, rfl⟩
  rw [← hvb] at v3 ⊢
  have hs3 : WSl (w2.alloc (.cells #[.slice a (allOf s nd).length c] 22)) (.slice a (allOf s nd).length c) (allOf s nd) := (sl_of_own ho).ext hE3
  generalize (w2.alloc (.cells #[.slice a (allOf s nd).length c] 22)) = w3 at *
  refine FN.mono (is_c l w3) ?_
  rintro _ W1 ⟨rfl, hE4⟩
  simp
  refine FN.mono (node_c nd W1) ?_
  rintro _ W2 ⟨nb, rfl, hnv, hE5⟩
  simp
  have hE35 := hE4.trans hE5
  let qs : List Qn := [⟨.func (.func 32) #[ptr l] #[], 1, false⟩, ⟨.func (.func 57) #[] #[ptr nb], 2, decide (nd = 0)⟩, ⟨.func (.func 40) #[] #[ptr vb], 5, decide (allOf s nd = [])⟩]
  have hsl := Sl.made W2 (askCells qs) 73 2 3 rfl
  have hE6 := (Ext.refl W2).alloc (.cells (askCells qs).toArray 73)
  refine asked_go (w0 := W2) qs hsl (by simp [qs]) ?_ hE6 ?_ ?_
  · intro q hq
    simp [qs] at hq
    rcases hq with rfl | rfl | rfl <;> exact ⟨_, _, _, rfl⟩
  · intro i q hq hno w' hw'
    have hx := hE35.trans hw'
    match i, hq with
    | 0, hq =>
      simp [qs] at hq; subst hq
      exact FN.mono (none_c (h.ext (((hE1.trans hE2).trans hE3).trans hx))) fun _ _ h => ⟨h.1, h.2 ▸ Ext.refl _⟩
    | 1, hq =>
      simp [qs] at hq; subst hq
      exact FN.mono (nodeF_c (hnv.ext hw')) fun _ _ h => ⟨by rw [h.1, beq_dec], h.2 ▸ Ext.refl _⟩
    | 2, hq =>
      simp [qs] at hq; subst hq
      exact FN.mono (first1_c (v3.ext hx) (Sl.ext hs3 hx)) fun _ _ h => ⟨h.1, h.2 ▸ Ext.refl _⟩
    | i + 3, hq => simp [qs] at hq
  · intro w4 hw4
    have hX := hE35.trans hw4
    have hE : askE qs = firstE s nd := by
      simp [qs, askE, firstE]
    rw [hE]
    have ho4 := (hE2.trans (hE3.trans hX)).obj hob
    have hEa := ((hE1.trans hE2).trans hE3).trans hX
    have y0 : ∀ j u, (#[u32 0, u32 0, u64 0, u32 0, u32 0, i64 0, i64 0] : Array Value)[j]? = some u → w4.cell? ⟨w.heap.size, j, none⟩ = some u := fun j u hj => by simpa [World.cell?, ho4] using hj
    have yf : ∀ j, w4.frozen? ⟨w.heap.size, j, none⟩ = false := fun j => by simp [World.frozen?, ho4]
    have hlw := hEa.size
    have hS := fun v0 v1 v2 v3 v4 v5 v6 => ((hEa.mod (S := fun _ => False)).trans' (mod7 w4 w.heap.size v0 v1 v2 v3 v4 v5 v6) fun k hk => .inr (by omega)).ext fun _ h => h.elim
    by_cases h0 : firstE s nd = 0
    · have hne : allOf s nd ≠ [] := by
        intro e
        unfold firstE at h0
        rw [e] at h0
        simp only [if_true] at h0
        split at h0 <;> omega
      obtain ⟨x, xs, hxs⟩ := List.exists_cons_of_ne_nil hne
      have hpos : 0 < (allOf s nd).length := List.length_pos_iff.2 hne
      have hr := WSl.row (Sl.ext hs3 hX) (show (allOf s nd)[0]? = some x by rw [hxs]; rfl)
      have ix := WSl.index hs3 0 hpos w4
      have c0 := hr.c0
      have c1 := hr.c1
      have c2 := hr.c2
      have c3 := hr.c3
      have c4 := hr.c4
      have c5 := hr.c5
      have c6 := hr.c6
      simp at ix c0 c1 c2 c3 c4 c5 c6
      simp [h0, (v3.ext hX).cell, ix, c0, c1, c2, c3, c4, c5, c6, y0 0 _ rfl, y0 1 _ rfl, y0 2 _ rfl, y0 3 _ rfl, y0 4 _ rfl, y0 5 _ rfl, y0 6 _ rfl, yf, cell_setCell]
      have hfv : firstV s nd = x := by unfold firstV; rw [if_pos h0, hxs]; rfl
      rw [hfv]
      exact ⟨by simp, hS _ _ _ _ _ _ _⟩
    · have hfv : firstV s nd = zW := by unfold firstV; rw [if_neg h0]
      simp [h0, y0 0 _ rfl, y0 1 _ rfl, y0 2 _ rfl, y0 3 _ rfl, y0 4 _ rfl, y0 5 _ rfl, y0 6 _ rfl, yf, cell_setCell]
      rw [hfv]
      exact ⟨by simp [zW], hS _ _ _ _ _ _ _⟩
end Go.Proofs
namespace Go.Proofs
open Pk
set_option maxRecDepth 10000
theorem mclone_c {w : World} {r : Nat} {N : MN} (h : MapAt nmV quV w r N) : FN Try.prog 33 [.map (some r)] w fun e w' => ∃ r', e = .returned (.map (some r')) ∧ MapAt nmV quV w' r' N ∧ Ext w w' ∧ w.heap.size ≤ r' := by
  refine FN_enter Try.func33 rfl rfl (by kernel_rfl) ?_
  obtain ⟨o, h1, h2, h3⟩ := h.clone (P := Try.prog)
  simp
  refine FN_extern (e := Extern.MapsClone.clone) Try.func59 rfl (by kernel_rfl) (by kernel_rfl) (by kernel_rfl) (h2 68) ?_
  simp [Instr.typeAssert]
  exact ⟨h3, (Ext.refl w).alloc _⟩
theorem seen_fresh {κ ν : Type} [DecidableEq κ] {M : List (κ × ν)} (hn : (M.map (·.1)).Nodup) {idxs : List Nat} {i : Nat} {p : κ × ν} (hp : M[i]? = some p) (hi : i ∉ idxs) : mget (seenOf M idxs) p.1 = none := by
  cases hg : mget (seenOf M idxs) p.1 with
  | none => rfl
  | some z =>
    exfalso
    have hm := kget_mem hg
    unfold seenOf at hm
    obtain ⟨j, hj, hjm⟩ := List.mem_filterMap.1 hm
    have h1 : (M.map (·.1))[i]? = some p.1 := by simp [hp]
    have h2 : (M.map (·.1))[j]? = some p.1 := by simp [hjm]
    obtain ⟨a1, a2⟩ := List.getElem?_eq_some_iff.1 h1
    obtain ⟨b1, b2⟩ := List.getElem?_eq_some_iff.1 h2
    have := (List.getElem_inj (h₀ := a1) (h₁ := b1) hn).1 (a2.trans b2.symm)
    exact hi (this ▸ hj)
theorem seen_nodup {κ ν : Type} [DecidableEq κ] {M : List (κ × ν)} (hn : (M.map (·.1)).Nodup) {idxs : List Nat} (h : idxs.Perm (List.range M.length)) (k : κ) : mget (seenOf M idxs) k = mget M k := by
  have hp := seenOf_all h
  have hn' : ((seenOf M idxs).map (·.1)).Nodup := (hp.map _).nodup_iff.2 hn
  cases hg : mget M k with
  | none =>
    cases hg' : mget (seenOf M idxs) k with
    | none => rfl
    | some v =>
      have := (kget_iff hn).2 (hp.mem_iff.1 (kget_mem hg'))
      rw [hg] at this; cases this
  | some v => exact (kget_iff hn').2 (hp.mem_iff.2 (kget_mem hg))
/-- A copy under way: what has been gone over. -/
structure Cp (w : World) (base c Rq : Nat) (M M' : MQ) (idxs : List Nat) : Prop where
  mq : MapAt quV ewQ w Rq M'
  row : ∀ x ∈ M', WOwn w x.2.1 x.2.2
  nn : ∀ x ∈ M', x.2.2 ≠ []
  blk : (M'.map fun x => slB x.2.1).Nodup
  ge : ∀ x ∈ M', base ≤ slB x.2.1
  qs : ∀ q, (mget M' q).map (·.2) = (mget (seenOf M idxs) q).map (·.2)
theorem Cp.mod {w w' : World} {base c Rq : Nat} {M M' : MQ} {idxs : List Nat} {S : Nat → Prop} (h : Cp w base c Rq M M' idxs) (hM : Mod S w w') (h1 : ¬ S Rq) (h2 : ∀ x ∈ M', ¬ S (slB x.2.1)) : Cp w' base c Rq M M' idxs :=
  ⟨h.mq.mod hM h1, fun x hx => own_keep (h.row x hx) fun _ hlt => hM.blk _ hlt (h2 x hx), h.nn, h.blk, h.ge, h.qs⟩
theorem Cp.ext {w w' : World} {base c Rq : Nat} {M M' : MQ} {idxs : List Nat} (h : Cp w base c Rq M M' idxs) (hE : Ext w w') : Cp w' base c Rq M M' idxs := h.mod (S := fun _ => False) hE.mod id fun _ _ => id
theorem Cp.lt {w : World} {base c Rq : Nat} {M M' : MQ} {idxs : List Nat} (h : Cp w base c Rq M M' idxs) : ∀ x ∈ M', slB x.2.1 < w.heap.size := fun x hx => by
  obtain ⟨c, hc⟩ := own_obj (h.row x hx) (own_nil (h.row x hx) (List.length_pos_iff.2 (h.nn x hx)))
  exact (Array.getElem?_eq_some_iff.1 hc).1
theorem Cp.ne {w : World} {base c Rq : Nat} {M M' : MQ} {idxs : List Nat} (h : Cp w base c Rq M M' idxs) : ∀ x ∈ M', slB x.2.1 ≠ Rq := fun x hx e => by
  obtain ⟨c, hc⟩ := own_obj (h.row x hx) (own_nil (h.row x hx) (List.length_pos_iff.2 (h.nn x hx)))
  obtain ⟨⟨es, c, h1, _⟩, _⟩ := h.mq
  rw [e, h1] at hc; cases hc
theorem Cp.step {w w' : World} {base c Rq : Nat} {M M' : MQ} {idxs : List Nat} {i : Nat} {q : Qu} {v v' : Value} {r : List Wt} (h : Cp w base c Rq M M' idxs) (hn : (M.map (·.1)).Nodup) (hp : M[i]? = some (q, (v, r))) (hi : i ∉ idxs) (hr : r ≠ [])
    (ho : WOwn w v' r) (hb : base ≤ slB v') (hnew : ∀ x ∈ M', slB x.2.1 < slB v') (hm : MapAt quV ewQ w' Rq (mset M' q (v', r))) (hM : Mod (· = Rq) w w') (hv : slB v' ≠ Rq) : Cp w' base c Rq M (mset M' q (v', r)) (idxs ++ [i]) := by
  have hf := seen_fresh hn hp hi
  have hg : mget M' q = none := by
    have := h.qs q
    simp only at hf
    rw [hf] at this
    simpa using this
  refine ⟨hm, ?_, ?_, ?_, ?_, ?_⟩
  · intro x hx
    rcases kset_mem hx with rfl | ⟨hx, _⟩
    · exact own_keep ho fun _ hlt => hM.blk _ hlt hv
    · exact own_keep (h.row x hx) fun _ hlt => hM.blk _ hlt (h.ne x hx)
  · intro x hx
    rcases kset_mem hx with rfl | ⟨hx, _⟩
    · exact hr
    · exact h.nn x hx
  · refine nodup_mset h.mq.nodup _ h.blk _ _ fun x hx _ => ?_
    have := hnew x hx
    simp only; omega
  · intro x hx
    rcases kset_mem hx with rfl | ⟨hx, _⟩
    · exact hb
    · exact h.ge x hx
  · intro z
    rw [kget_mset, seenOf_snoc hp, kget_append _ _ _ _ hf]
    by_cases hz : z = q
    · rw [if_pos hz, if_pos hz]; rfl
    · rw [if_neg hz, if_neg hz]; exact h.qs z
theorem Cp.line {w : World} {base l c Rq Rw Rq' Rw' : Nat} {M M' : MQ} {N : MN} {s : List Wt} {most : Int} {idxs : List Nat} {w0 : World} (h : Cp w base c Rq' M M' idxs) (hl : LineAt w0 l Rq Rw M N s most) (hp : idxs.Perm (List.range M.length))
    (c0 : w.cell? ⟨c, 0, none⟩ = some (i64 most)) (c1 : w.cell? ⟨c, 1, none⟩ = some (.map (some Rq'))) (c2 : w.cell? ⟨c, 2, none⟩ = some (.map (some Rw'))) (hw : MapAt nmV quV w Rw' N) (hc : c < base) (hr : Rw' ≠ Rq') : LineAt w c Rq' Rw' M' N s most := by
  refine ⟨c0, c1, c2, h.mq, hw, h.row, h.nn, h.blk, fun x hx e => ?_, hr, fun q => ?_, hl.ws, hl.nd, hl.len⟩
  · have := h.ge x hx; omega
  · rw [h.qs q, seen_nodup hl.mq.nodup hp]
    exact hl.qs q
set_option maxHeartbeats 1000000 in
theorem copy_c {w : World} {l Rq Rw : Nat} {M : MQ} {N : MN} {s : List Wt} {most : Int} (h : LineAt w l Rq Rw M N s most) (hbd : s.length ≤ 1048575) :
    FN Try.prog 9 [ptr l] w fun e w' => ∃ c Rq' Rw' M', e = .returned (ptr c) ∧ LineAt w' c Rq' Rw' M' N s most ∧ Ext w w' ∧ ∀ k, Foot c Rq' Rw' M' k → w.heap.size ≤ k := by
  refine FN_enter Try.func9 rfl rfl (by kernel_rfl) ?_
  simp
  refine FN.mono (none_c h) ?_
  rintro _ w1 ⟨rfl, hw⟩
  rw [hw]
  simp
  refine with_tail (T := ∀ (σ : Env) (W : World) (c Rq' Rw' ib : Nat), (σ 3 = ptr c ∧ σ 24 = ptr ib) → (W.cell? ⟨c, 0, none⟩ = some (i64 most) ∧ W.cell? ⟨c, 1, none⟩ = some (.map (some Rq')) ∧ W.cell? ⟨c, 2, none⟩ = some (.map (some Rw')) ∧ MapAt nmV quV W Rw' N ∧ MapAt quV ewQ W Rq' ([] : MQ) ∧ MIter quV ewQ W ib Rq M [] ∧
      Ext w W ∧ (w.heap.size ≤ c ∧ w.heap.size ≤ Rq' ∧ w.heap.size ≤ Rw') ∧ Rw' ≠ Rq' ∧ ib ≠ Rq' ∧ ib ≠ Rw' ∧ c ≠ Rq' ∧ c < W.heap.size ∧ w.heap.size ≤ ib ∧ c ≠ ib) → WC Try.prog 38 none ?cA ?QA σ [] W) (fun tail => ?_) ?_
  rotate_left 2
  · refine WC_drawC 10 (.F 0 <| .F 1 <| .F 2 <| .F 3 <| .F 5 <| .F 6 <| .F 7 <| .F 8 <| .E 4 (.C 9 <| .Z) (.E 9 (.C 4 <| .Z) .Z)) (fun _ => false) rfl (by kernel_rfl) fun W hW => ?_
    have hWE : Ext w W := hW ▸ Ext.drew w
    have h1 := h.ext hWE
    simp [h1.c0, h1.c2]
    refine RT_alt ?_ ?_
    · simp
      have hE1 := (Ext.refl W).alloc (.map #[] 0)
      have m1 := MapAt.alloc0 quV ewQ W
      have hWs := hWE.size
      have z1 : (W.alloc (.map #[] 0)).heap.size = W.heap.size + 1 := by simp
      refine KR_ext hE1 ?_
      simp
      generalize (W.alloc (.map #[] 0)) = W1 at *
      refine FN.mono (mclone_c (h1.ext hE1).mw) ?_
      rintro _ W2 ⟨r', rfl, m2, hE2, hr'⟩
      simp
      refine KR_ext hE2 ?_
      have h2 := h1.ext (hE1.trans hE2)
      have hE3 : Ext W2 (W2.alloc (.cells #[i64 most, .map (some W.heap.size), .map (some r')] 70)) := (Ext.refl W2).alloc _
      obtain ⟨o, hr, hi⟩ := (h2.ext hE3).mq.range (P := Try.prog) tmq
      have hE4 := (Ext.refl (W2.alloc (.cells #[i64 most, .map (some W.heap.size), .map (some r')] 70))).alloc o
      have k0 : (W2.alloc (.cells #[i64 most, .map (some W.heap.size), .map (some r')] 70)).cell? ⟨W2.heap.size, 0, none⟩ = some (i64 most) := by simp
      have k1 : (W2.alloc (.cells #[i64 most, .map (some W.heap.size), .map (some r')] 70)).cell? ⟨W2.heap.size, 1, none⟩ = some (.map (some W.heap.size)) := by simp
      have k2 : (W2.alloc (.cells #[i64 most, .map (some W.heap.size), .map (some r')] 70)).cell? ⟨W2.heap.size, 2, none⟩ = some (.map (some r')) := by simp
      have z3 : (W2.alloc (.cells #[i64 most, .map (some W.heap.size), .map (some r')] 70)).heap.size = W2.heap.size + 1 := by simp
      simp [h2.c1, hr]
      generalize (W2.alloc (.cells #[i64 most, .map (some W.heap.size), .map (some r')] 70)) = W3 at *
      have z4 : (W3.alloc o).heap.size = W3.heap.size + 1 := by simp
      rw [z3] at hi
      have hs1 := hE1.size
      have hs2 := hE2.size
      have hrl := m2.lt
      refine tail _ _ W2.heap.size W.heap.size r' (W2.heap.size + 1) ?_ ?_
      · simp
      · exact ⟨hE4.cell_eq k0, hE4.cell_eq k1, hE4.cell_eq k2, m2.ext (hE3.trans hE4), m1.ext (hE2.trans (hE3.trans hE4)), hi, ((hWE.trans (hE1.trans hE2)).trans hE3).trans hE4, ⟨by omega, by omega, by omega⟩, by omega, by omega, by omega, by omega, by omega, by omega, by omega⟩
    · simp
      have hWs := hWE.size
      refine FN.mono (mclone_c h1.mw) ?_
      rintro _ W1 ⟨r', rfl, m2, hE2, hr'⟩
      simp
      refine KR_ext hE2 ?_
      simp
      have hE1 : Ext W1 (W1.alloc (.map #[] 0)) := (Ext.refl W1).alloc _
      have m1 := MapAt.alloc0 quV ewQ W1
      have z1 : (W1.alloc (.map #[] 0)).heap.size = W1.heap.size + 1 := by simp
      have hrl1 := m2.lt
      refine KR_ext hE1 ?_
      obtain ⟨W2, hW2⟩ : ∃ W2, W2 = W1.alloc (.map #[] 0) := ⟨_, rfl⟩
      rw [← hW2] at hE1 m1 z1 ⊢
      have hWE2 := hWE
      have h2 := h1.ext (hE2.trans hE1)
      have hE3 : Ext W2 (W2.alloc (.cells #[i64 most, .map (some W1.heap.size), .map (some r')] 70)) := (Ext.refl W2).alloc _
      obtain ⟨o, hr, hi⟩ := (h2.ext hE3).mq.range (P := Try.prog) tmq
      have hE4 := (Ext.refl (W2.alloc (.cells #[i64 most, .map (some W1.heap.size), .map (some r')] 70))).alloc o
      have k0 : (W2.alloc (.cells #[i64 most, .map (some W1.heap.size), .map (some r')] 70)).cell? ⟨W2.heap.size, 0, none⟩ = some (i64 most) := by simp
      have k1 : (W2.alloc (.cells #[i64 most, .map (some W1.heap.size), .map (some r')] 70)).cell? ⟨W2.heap.size, 1, none⟩ = some (.map (some W1.heap.size)) := by simp
      have k2 : (W2.alloc (.cells #[i64 most, .map (some W1.heap.size), .map (some r')] 70)).cell? ⟨W2.heap.size, 2, none⟩ = some (.map (some r')) := by simp
      have z3 : (W2.alloc (.cells #[i64 most, .map (some W1.heap.size), .map (some r')] 70)).heap.size = W2.heap.size + 1 := by simp
      simp [h2.c1, hr]
      generalize (W2.alloc (.cells #[i64 most, .map (some W1.heap.size), .map (some r')] 70)) = W3 at *
      have z4 : (W3.alloc o).heap.size = W3.heap.size + 1 := by simp
      rw [z3] at hi
      have hs1 := hE1.size
      have hs2 := hE2.size
      have hrl := m2.lt
      refine tail _ _ W2.heap.size W1.heap.size r' (W2.heap.size + 1) ?_ ?_
      · simp
      · exact ⟨hE4.cell_eq k0, hE4.cell_eq k1, hE4.cell_eq k2, m2.ext (hE1.trans (hE3.trans hE4)), m1.ext (hE3.trans hE4), hi, ((hWE.trans (hE2.trans hE1)).trans hE3).trans hE4, ⟨by omega, by omega, by omega⟩, by omega, by omega, by omega, by omega, by omega, by omega, by omega⟩
  · rintro σ W c Rq' Rw' ib ⟨e3, e24⟩ ⟨c0, c1, c2, mw, mq, hi, hE, ⟨g1, g2, g3⟩, hr, n1, n2, n3, hcl, g4, n4⟩
    have hlt := h.lt
    have hlr := hlt Rq (.inr (.inl rfl))
    refine WC_loop (fun k ρ ds w' => ∃ (idxs : List Nat) (M' : MQ), k + idxs.length = M.length ∧ ρ 3 = ptr c ∧ ρ 24 = ptr ib ∧ ds = [] ∧ MIter quV ewQ w' ib Rq M idxs ∧ Cp w' W.heap.size c Rq' M M' idxs ∧ Mod (fun k => k = ib ∨ k = Rq') W w') M.length
      ⟨[], [], by simp, e3, e24, rfl, hi, ⟨mq, by simp, by simp, by simp, by simp, fun q => by simp [seenOf, kget_nil]⟩, Mod.refl _ _⟩ ?_
    rintro k ρ ds w2 ⟨idxs, M', hk, e3, e24, rfl, hI, hC, hM⟩
    have hEw : Ext w w2 := ((hE.mod (S := fun k => w.heap.size ≤ k)).trans (hM.weaken fun k hk => by rcases hk with rfl | rfl <;> assumption)).ext fun _ h => h
    have h2 := h.ext hEw
    have nn : ∀ k, k ≠ ib → k ≠ Rq' → ¬ (k = ib ∨ k = Rq') := fun k a b e => by rcases e with e | e; exact a e; exact b e
    rcases hI.next (P := Try.prog) 0 with ⟨hp, hrun⟩ | ⟨i, p, w3, hpi, hni, hrun, hI3, hM3, hent, hs3⟩
    · simp [e3, e24, hrun]
      have hL := hC.line h2 hp (hM.cell c0 (nn _ n4 n3)) (hM.cell c1 (nn _ n4 n3)) (hM.cell c2 (nn _ n4 n3)) (mw.mod hM (nn _ n2.symm hr)) hcl hr
      refine ⟨_, _, _, hL, hEw, ?_⟩
      rintro k (rfl | rfl | rfl | ⟨x, hx, rfl⟩)
      · exact g1
      · exact g2
      · exact g3
      · exact Nat.le_trans hE.size (hC.ge x hx)
    · obtain ⟨q, v, r⟩ := p
      have hpm := List.mem_of_getElem? hpi
      have hne : r ≠ [] := h.nn _ hpm
      have hle : r.length ≤ s.length := by
        have := (h.hasQ (v := v) (r := r) ((kget_iff h.mq.nodup).2 hpm)).1
        rw [this]; exact qof_len s q
      have hq : quV (q, (v, r)).1 = .agg #[u32 q.1, i64 q.2] := rfl
      simp [ewQ] at hrun hent
      simp [e24, hrun, hent]
      have hb3 : ∀ x ∈ M', ¬ (slB x.2.1 = ib) := fun x hx e => by
        obtain ⟨a, b, c', d, hob⟩ := hI.obj
        obtain ⟨c'', hc''⟩ := own_obj (hC.row x hx) (own_nil (hC.row x hx) (List.length_pos_iff.2 (hC.nn x hx)))
        rw [e, hob] at hc''; cases hc''
      have hC3 := hC.mod hM3 n1.symm hb3
      have hE4 := (Ext.refl w3).alloc (.cells #[u32 q.1, i64 q.2] 80)
      have q0 : (w3.alloc (.cells #[u32 q.1, i64 q.2] 80)).cell? ⟨w3.heap.size, 0, none⟩ = some (u32 q.1) := by simp
      have q1 : (w3.alloc (.cells #[u32 q.1, i64 q.2] 80)).cell? ⟨w3.heap.size, 1, none⟩ = some (i64 q.2) := by simp
      have hM2 := hM.trans (hM3.weaken fun k hk => .inl hk)
      have z4 : (w3.alloc (.cells #[u32 q.1, i64 q.2] 80)).heap.size = w3.heap.size + 1 := by simp
      generalize (w3.alloc (.cells #[u32 q.1, i64 q.2] 80)) = w4 at *
      refine WC_drawC 7 (.F 0 <| .F 1 <| .F 2 <| .F 3 <| .F 4 <| .F 5 <| .C 6 <| .Z) (fun _ => false) rfl (by kernel_rfl) fun W5 hW5 => ?_
      have hWE5 : Ext w4 W5 := hW5 ▸ Ext.drew w4
      have hE45 := hE4.trans hWE5
      have hM5 := hM2.trans hE45.mod
      have k1 := hM5.cell c1 (nn _ n4 n3)
      have hEw5 : Ext w W5 := ((hE.mod (S := fun k => w.heap.size ≤ k)).trans (hM5.weaken fun k hk => by rcases hk with rfl | rfl <;> assumption)).ext fun _ h => h
      have hrow := (h.ext hEw5).row _ hpm
      simp [e3, k1, hWE5.cell_eq q0, hWE5.cell_eq q1]
      refine FN.mono (clone_c (sl_of_own hrow) ((h.ext hEw5).nil _ hpm) hne (by simp only; omega)) ?_
      rintro _ w6 ⟨v', rfl, ho6, hE6, hn6⟩
      simp
      refine KR_ext hE6 ?_
      have hC6 := (hC3.ext hE45).ext hE6
      obtain ⟨w7, hr7, hm7, hM7, hs7⟩ := hC6.mq.update (P := Try.prog) kQueue tmq q (v', r)
      simp [ewQ] at hr7
      simp [hr7, e3, e24]
      have hge := own_ge ho6 hn6
      have hC5l := (hC3.ext hE45).lt
      have hIlt := hI3.lt
      have s1 := hM2.size
      have s2 := hE45.size
      have hC7 := hC6.step h.mq.nodup hpi hni hne (own_lower ho6 (Nat.zero_le _)) (by omega) (fun x hx => by have := hC5l x hx; omega) hm7 hM7 (by have := hC6.mq.lt; have := (hC3.ext hE45).mq.lt; omega)
      have hi7 := (hI3.mod (S := fun _ => False) (hE45.trans hE6).mod id id).mod hM7 (by omega) n1
      have hbd := VIter.bound (v := .map (some Rq)) (.inl ⟨Rq, rfl, hi7⟩)
      simp at hbd
      exact ⟨k - 1, by omega, idxs ++ [i], by simp; omega, hi7, ⟨_, hC7⟩, hM5.trans (hE6.mod.trans (hM7.weaken fun k hk => .inr hk))⟩
end Go.Proofs
namespace Go.Proofs
open Pk
set_option maxRecDepth 10000
theorem nodup_sub_len {α : Type} [DecidableEq α] : ∀ (A B : List α), A.Nodup → (∀ x ∈ A, x ∈ B) → A.length ≤ B.length
  | [], _, _, _ => by simp
  | a :: A, B, hn, h => by
    have ha := h a (by simp)
    obtain ⟨h1, h2⟩ := List.nodup_cons.1 hn
    have := nodup_sub_len A (B.erase a) h2 fun x hx => (List.mem_erase_of_ne (by rintro rfl; exact h1 hx)).2 (h x (by simp [hx]))
    rw [List.length_erase_of_mem ha] at this
    have := List.length_pos_of_mem ha
    simp only [List.length_cons]
    omega
theorem LineAt.keys {w : World} {l Rq Rw : Nat} {M : MQ} {N : MN} {s : List Wt} {most : Int} (h : LineAt w l Rq Rw M N s most) (q : Qu) : q ∈ M.map (·.1) ↔ qof s q ≠ [] := by
  constructor
  · intro hq
    obtain ⟨x, hx, rfl⟩ := List.mem_map.1 hq
    exact (h.hasQ (v := x.2.1) (r := x.2.2) ((kget_iff h.mq.nodup).2 hx)).2
  · intro hq
    obtain ⟨v, hv⟩ := h.get hq
    exact List.mem_map.2 ⟨_, kget_mem hv, rfl⟩
theorem LineAt.len_eq {w w' : World} {l Rq Rw l' Rq' Rw' : Nat} {M M' : MQ} {N N' : MN} {s : List Wt} {most most' : Int} (h : LineAt w l Rq Rw M N s most) (h' : LineAt w' l' Rq' Rw' M' N' s most') : M.length = M'.length := by
  have h1 := nodup_sub_len (M.map (·.1)) (M'.map (·.1)) h.mq.nodup fun x hx => (h'.keys x).2 ((h.keys x).1 hx)
  have h2 := nodup_sub_len (M'.map (·.1)) (M.map (·.1)) h'.mq.nodup fun x hx => (h.keys x).2 ((h'.keys x).1 hx)
  simp at h1 h2
  omega
theorem equalF_c {w : World} {l Rq Rw l' Rq' Rw' : Nat} {M M' : MQ} {N N' : MN} {s : List Wt} {most most' : Int} (h : LineAt w l Rq Rw M N s most) (h' : LineAt w l' Rq' Rw' M' N' s most') (hbd : s.length ≤ 1048575) :
    FN Try.prog 37 [.map (some Rq), .map (some Rq'), .func (.func 38) #[] #[]] w fun e w' => e = .returned (.bool true) ∧ Ext w w' := by
  refine FN_enter Try.func37 rfl rfl (by kernel_rfl) ?_
  have l1 := fun ty => h.mq.len (P := Try.prog) (T := 67) (by simp) ty
  have l2 := fun ty => h'.mq.len (P := Try.prog) (T := 67) (by simp) ty
  rw [← h.len_eq h'] at l2
  obtain ⟨o, hr, hi⟩ := h.mq.range (P := Try.prog) tmq
  simp [l1, l2, hr]
  have hE1 := (Ext.refl w).alloc o
  have z1 : (w.alloc o).heap.size = w.heap.size + 1 := by simp
  have hlt := h.lt
  have hlr := hlt Rq (.inr (.inl rfl))
  have hrl := h'.lt Rq' (.inr (.inl rfl))
  refine WC_loop (fun k ρ ds w' => ∃ (idxs : List Nat), k + idxs.length = M.length ∧ ρ 1 = .map (some Rq') ∧ ρ 2 = .func (.func 38) #[] #[] ∧ ρ 17 = ptr w.heap.size ∧ ds = [] ∧ MIter quV ewQ w' w.heap.size Rq M idxs ∧ Ext w w') M.length
    ⟨[], by simp, by simp, by simp, by simp, rfl, hi, hE1⟩ ?_
  rintro k ρ ds w2 ⟨idxs, hk, e1, e2, e17, rfl, hI, hE⟩
  rcases hI.next (P := Try.prog) 0 with ⟨hp, hrun⟩ | ⟨i, p, w3, hpi, hni, hrun, hI3, hM3, hent, hs3⟩
  · simp [e17, hrun]
    exact hE
  · obtain ⟨q, v, r⟩ := p
    have hpm := List.mem_of_getElem? hpi
    have hE3 : Ext w w3 := ((hE.mod (S := fun k => w.heap.size ≤ k)).trans (hM3.weaken fun k hk => by omega)).ext fun _ h => h
    have hgq := (kget_iff h.mq.nodup).2 hpm
    have hq := h.hasQ (v := v) (r := r) hgq
    obtain ⟨v', hv'⟩ := h'.get hq.2
    have hlk := (h'.ext hE3).mq.lookup kQueue tmq (zSl w3) q true
    rw [hv'] at hlk
    simp [ewQ] at hrun hent hlk
    have hE4 := hE3.alloc (.cells #[u32 q.1, i64 q.2] 80)
    have hlk4 := (h'.ext hE4).mq.lookup kQueue tmq (zSl _) q true
    rw [hv'] at hlk4
    simp [ewQ] at hlk4
    have hi4 := hI3.mod (S := fun _ => False) ((Ext.refl w3).alloc (.cells #[u32 q.1, i64 q.2] 80)).mod id id
    simp [e1, e2, e17, hrun, hent, hlk4]
    have hrow := (h.ext hE4).row _ hpm
    rw [hq.1] at hrow
    have hrow' := (h'.ext hE4).row _ (kget_mem hv')
    have hql := qof_len s q
    refine FN.mono (equal_c (sl_of_own hrow) (sl_of_own hrow') (by simp only; omega) (by simp only; omega)) ?_
    rintro _ w6 ⟨rfl, hE6⟩
    simp [e1, e2, e17]
    have hi6 := hi4.mod (S := fun _ => False) hE6.mod id id
    have hbd := VIter.bound (v := .map (some Rq)) (.inl ⟨Rq, rfl, hi6⟩)
    simp at hbd
    exact ⟨k - 1, by omega, idxs ++ [i], by simp; omega, hi6, hE4.trans hE6⟩
theorem fBound : flatA Try.prog 66 = some [.int .i64] := by kernel_rfl
theorem eqB (a b : Int) (w : World) : (binOp .eql 66 (.agg #[.int .i64 a]) (.agg #[.int .i64 b])).run Try.prog w = .ok (.bool (decide (a = b))) w := by
  have := run_eql_flat w fBound #[.int .i64 a] #[.int .i64 b] rfl rfl
  rw [this]
  simp [eqcs, eqInt]
theorem same_c {w : World} {l Rq Rw l' Rq' Rw' : Nat} {M M' : MQ} {N N' : MN} {s : List Wt} {most : Int} (h : LineAt w l Rq Rw M N s most) (h' : LineAt w l' Rq' Rw' M' N' s most) (hbd : s.length ≤ 1048575) :
    FN Try.prog 11 [ptr l, ptr l'] w fun e w' => e = .returned (.bool true) ∧ Ext w w' := by
  refine FN_enter Try.func11 rfl rfl (by kernel_rfl) ?_
  simp
  refine FN.mono (none_c h) ?_
  rintro _ w1 ⟨rfl, hw⟩
  rw [hw]
  simp
  refine FN.mono (none_c h') ?_
  rintro _ w2 ⟨rfl, hw⟩
  rw [hw]
  simp
  refine WC_drawQ 18 rfl (by kernel_rfl) ?_
  have hd := Ext.drew w
  have g := h.ext hd
  have g' := h'.ext hd
  simp [g.c0, g.c1, g'.c0, g'.c1, eqB]
  refine FN.mono (equalF_c g g' hbd) ?_
  rintro _ w3 ⟨rfl, hE⟩
  simp
  exact hd.trans hE
end Go.Proofs
namespace Go.Proofs
open Pk
set_option maxRecDepth 10000
theorem fld0 (a b : Int) (W : World) : (Instr.field 80 (.agg #[.int .u32 a, .int .i64 b]) 0).run Try.prog W = .ok (u32 a) W := by
  simp [Instr.field]
  have h1 := run_part_flat (P := Try.prog) W (n := 3) (e := 23) (l := [.int .u32]) (by kernel_rfl) (by kernel_rfl) #[.int .u32 a, .int .i64 b] 0 (by simp)
  have h2 : aggT Try.prog 23 = false := by kernel_rfl
  rw [h1]
  simp [mkV, h2]
theorem WtAt.agr {w w' : World} {b : Nat} {x : Wt} {S : Nat → Prop} (h : WtAt w b x) (hA : Agr S w w') (hs : S b) : WtAt w' b x := ⟨hA.cell h.c0 hs, hA.cell h.c1 hs, hA.cell h.c2 hs, hA.cell h.c3 hs, hA.cell h.c4 hs, hA.cell h.c5 hs, hA.cell h.c6 hs⟩
theorem idx_at {pre suf : List Wt} {y : Wt} {n : Nm} (h : noNm pre n) (hy : y.1 = n) : (pre ++ y :: suf).findIdx? (fun z => decide (z.1 = n)) = some pre.length := by
  rw [List.findIdx?_eq_some_iff_getElem]
  refine ⟨by simp, by simp [hy], fun j hj => ?_⟩
  rw [List.getElem_append_left hj]
  simpa using h _ (List.getElem_mem hj)
def getI (s : List Wt) (n : Nm) : Nat := ((allOf s ((findN s n).getD zW).2.1).findIdx? (fun y => decide (y.1 = n))).getD 0
theorem mem_allOf {s : List Wt} {nd : Int} {y : Wt} : y ∈ allOf s nd ↔ y ∈ s ∧ y.2.1 = nd ∧ (y.2.2.1 = 2 ∨ y.2.2.1 = 1 ∨ y.2.2.1 = 0) := by
  simp only [allOf, qof, quOf, List.mem_append, List.mem_filter, decide_eq_true_eq, Prod.mk.injEq]
  constructor
  · rintro ((h | h) | h)
    · exact ⟨h.1, h.2.1, .inl h.2.2⟩
    · exact ⟨h.1, h.2.1, .inr (.inl h.2.2)⟩
    · exact ⟨h.1, h.2.1, .inr (.inr h.2.2)⟩
  · rintro ⟨h1, h2, h | h | h⟩
    · exact .inl (.inl ⟨h1, h2, h⟩)
    · exact .inl (.inr ⟨h1, h2, h⟩)
    · exact .inr ⟨h1, h2, h⟩
def ranked (s : List Wt) : Prop := ∀ y ∈ s, y.2.2.1 = 2 ∨ y.2.2.1 = 1 ∨ y.2.2.1 = 0
theorem setZ7 {W : World} {b : Nat} (h : W.heap[b]? = some (.cells #[u32 0, u32 0, u64 0, u32 0, u32 0, i64 0, i64 0] 30 (0, 0))) : (∀ j u, (#[u32 0, u32 0, u64 0, u32 0, u32 0, i64 0, i64 0] : Array Value)[j]? = some u → W.cell? ⟨b, j, none⟩ = some u) ∧ ∀ j, W.frozen? ⟨b, j, none⟩ = false :=
  ⟨fun j u hj => by simpa [World.cell?, h] using hj, fun j => by simp [World.frozen?, h]⟩
set_option maxHeartbeats 2000000 in
theorem get_c {w : World} {l Rq Rw : Nat} {M : MQ} {N : MN} {s : List Wt} {most : Int} (h : LineAt w l Rq Rw M N s most) (hbd : s.length ≤ 300000) (hrk : ranked s) (n : Nm) :
    FN Try.prog 18 [ptr l, nmV n] w fun e w' => e = .returned (.tuple #[wtV (dropV s n), i64 (if dropE s n = 0 then (getI s n : Int) else 0), i64 (dropE s n)]) ∧ Ext w w' := by
  refine FN_enter Try.func18 rfl rfl (by kernel_rfl) ?_
  simp
  have hE1 : Ext w ((((w.alloc (.cells #[u32 n.1, u32 n.2.1, u64 n.2.2.1, u32 n.2.2.2] 28)).alloc (.cells #[u32 0, u32 0, u64 0, u32 0, u32 0, i64 0, i64 0] 30)).alloc (.cells #[i64 0] 3)).alloc (.cells #[i64 0] 33)) := ((((Ext.refl w).alloc _).alloc _).alloc _).alloc _
  have hn1 : NmAt ((((w.alloc (.cells #[u32 n.1, u32 n.2.1, u64 n.2.2.1, u32 n.2.2.2] 28)).alloc (.cells #[u32 0, u32 0, u64 0, u32 0, u32 0, i64 0, i64 0] 30)).alloc (.cells #[i64 0] 3)).alloc (.cells #[i64 0] 33)) w.heap.size n := (NmAt.new w n 28).ext ((((Ext.refl _).alloc _).alloc _).alloc _)
  have hob : ((((w.alloc (.cells #[u32 n.1, u32 n.2.1, u64 n.2.2.1, u32 n.2.2.2] 28)).alloc (.cells #[u32 0, u32 0, u64 0, u32 0, u32 0, i64 0, i64 0] 30)).alloc (.cells #[i64 0] 3)).alloc (.cells #[i64 0] 33)).heap[w.heap.size + 1]? = some (.cells #[u32 0, u32 0, u64 0, u32 0, u32 0, i64 0, i64 0] 30 (0, 0)) := by
    have := (((Ext.refl _).alloc (.cells #[i64 0] 3)).alloc (.cells #[i64 0] 33)).obj (World.alloc_heap_new (w.alloc (.cells #[u32 n.1, u32 n.2.1, u64 n.2.2.1, u32 n.2.2.2] 28)) (.cells #[u32 0, u32 0, u64 0, u32 0, u32 0, i64 0, i64 0] 30 (0, 0)))
    simpa using this
  have v5 : Var ((((w.alloc (.cells #[u32 n.1, u32 n.2.1, u64 n.2.2.1, u32 n.2.2.2] 28)).alloc (.cells #[u32 0, u32 0, u64 0, u32 0, u32 0, i64 0, i64 0] 30)).alloc (.cells #[i64 0] 3)).alloc (.cells #[i64 0] 33)) (w.heap.size + 1 + 1) (i64 0) := by
    have := (Var.new ((w.alloc (.cells #[u32 n.1, u32 n.2.1, u64 n.2.2.1, u32 n.2.2.2] 28)).alloc (.cells #[u32 0, u32 0, u64 0, u32 0, u32 0, i64 0, i64 0] 30)) (i64 0) 3).ext ((Ext.refl _).alloc (.cells #[i64 0] 33))
    simpa using this
  have v6 : Var ((((w.alloc (.cells #[u32 n.1, u32 n.2.1, u64 n.2.2.1, u32 n.2.2.2] 28)).alloc (.cells #[u32 0, u32 0, u64 0, u32 0, u32 0, i64 0, i64 0] 30)).alloc (.cells #[i64 0] 3)).alloc (.cells #[i64 0] 33)) (w.heap.size + 1 + 1 + 1) (i64 0) := by
    have := Var.new (((w.alloc (.cells #[u32 n.1, u32 n.2.1, u64 n.2.2.1, u32 n.2.2.2] 28)).alloc (.cells #[u32 0, u32 0, u64 0, u32 0, u32 0, i64 0, i64 0] 30)).alloc (.cells #[i64 0] 3)) (i64 0) 33
    simpa using this
  have hsz : ((((w.alloc (.cells #[u32 n.1, u32 n.2.1, u64 n.2.2.1, u32 n.2.2.2] 28)).alloc (.cells #[u32 0, u32 0, u64 0, u32 0, u32 0, i64 0, i64 0] 30)).alloc (.cells #[i64 0] 3)).alloc (.cells #[i64 0] 33)).heap.size = w.heap.size + 1 + 1 + 1 + 1 := by simp
  generalize ((((w.alloc (.cells #[u32 n.1, u32 n.2.1, u64 n.2.2.1, u32 n.2.2.2] 28)).alloc (.cells #[u32 0, u32 0, u64 0, u32 0, u32 0, i64 0, i64 0] 30)).alloc (.cells #[i64 0] 3)).alloc (.cells #[i64 0] 33)) = w1 at *
  refine WC_drawC 6 (.F 0 <| .F 2 <| .F 4 <| .F 5 <| .C 1 <| .C 3 <| .Z) (fun _ => false) rfl (by kernel_rfl) fun W hW => ?_
  have hWE : Ext w1 W := hW ▸ Ext.drew _
  have hn2 := hn1.ext hWE
  simp [hn2.c0, hn2.c1, hn2.c2, hn2.c3]
  refine FN.mono (is_c l W) ?_
  rintro _ W1 ⟨rfl, hE2⟩
  simp
  refine KR_ext hE2 ?_
  simp
  refine FN.mono (right_c n W1) ?_
  rintro _ W2 ⟨rb, rfl, hr, hE3⟩
  simp
  refine KR_ext hE3 ?_
  simp
  refine FN.mono (waits_c l n W2) ?_
  rintro _ W3 ⟨b0, b1, rfl, hv0, hnb, hE4⟩
  simp
  have hE41 := ((hWE.trans hE2).trans hE3).trans hE4
  let qs : List Qn := [⟨.func (.func 32) #[ptr l] #[], 1, false⟩, ⟨.func (.func 55) #[] #[ptr rb], 2, badN n⟩, ⟨.func (.func 60) #[] #[ptr b0, ptr b1], 5, (findN s n).isNone⟩]
  have hsl := Sl.made W3 (askCells qs) 73 2 3 rfl
  have hE5 := (Ext.refl W3).alloc (.cells (askCells qs).toArray 73)
  refine asked_go (w0 := W3) qs hsl (by simp [qs]) ?_ hE5 ?_ ?_
  · intro q hq
    simp [qs] at hq
    rcases hq with rfl | rfl | rfl <;> exact ⟨_, _, _, rfl⟩
  · intro i q hq hno w' hw'
    have hx := hE41.trans hw'
    match i, hq with
    | 0, hq =>
      simp [qs] at hq; subst hq
      exact FN.mono (none_c (h.ext (hE1.trans hx))) fun _ _ h => ⟨h.1, h.2 ▸ Ext.refl _⟩
    | 1, hq =>
      simp [qs] at hq; subst hq
      exact rightF_c (hr.ext (hE4.trans hw'))
    | 2, hq =>
      simp [qs] at hq; subst hq
      exact waitsF_c (h.ext (hE1.trans hx)) (hv0.ext hw') (hnb.ext hw')
    | i + 3, hq => simp [qs] at hq
  · intro w4 hw4
    have hX := hE41.trans hw4
    have hE : askE qs = dropE s n := by
      simp [qs, askE, dropE]
    rw [hE]
    have h4 := h.ext (hE1.trans hX)
    have hn4 := hn1.ext hX
    have ho4 := hX.obj hob
    have v54 := v5.ext hX
    have v64 := v6.ext hX
    have hlt := h.lt
    have hs1 := hX.size
    by_cases h0 : dropE s n = 0
    · obtain ⟨x, hx⟩ := dropped h0
      have hxs := findN_some hx
      simp [h0]
      have hE6 := (Ext.refl w4).alloc (.cells #[i64 0] 3)
      have v8 := Var.new w4 (i64 0) 3
      obtain ⟨b8, hb8⟩ : ∃ b8, b8 = w4.heap.size := ⟨_, rfl⟩
      obtain ⟨w5, hw5⟩ : ∃ w5, w5 = w4.alloc (.cells #[i64 0] 3) := ⟨_, rfl⟩
      have z5 : w5.heap.size = b8 + 1 := by rw [hw5, hb8]; simp
      rw [← hb8, ← hw5] at v8 ⊢
      rw [← hw5] at hE6
      refine WC_drawC 8 (.F 0 <| .F 1 <| .F 2 <| .F 3 <| .F 4 <| .F 5 <| .C 6 <| .F 7 <| .Z) (fun _ => false) rfl (by kernel_rfl) fun W6 hW6 => ?_
      have hWE6 : Ext w5 W6 := hW6 ▸ Ext.drew _
      have hE7 := hE6.trans hWE6
      have h7 := h4.ext hE7
      have hn7 := hn4.ext hE7
      simp [h7.c2, hn7.c0, hn7.c1, hn7.c2, hn7.c3, h7.findW, hx]
      refine KR_same ?_
      simp [fld0]
      have hq : (quOf x).1 = x.2.1 := rfl
      rw [hq]
      refine FN.mono (all_c h7 hbd x.2.1) ?_
      rintro _ w8 ⟨ab, av, rfl, hvA, hsA, hE8, hab, hav⟩
      simp
      have hE9 := hE7.trans hE8
      have hn9 := hn4.ext hE9
      have ho9 := hE9.obj ho4
      have v59 := v54.ext hE9
      have v69 := v64.ext hE9
      have v89 := v8.ext (hWE6.trans hE8)
      have hs9 := hE9.size
      have hEw := (hE1.trans hX).trans hE9
      have hs68 := hWE6.size
      have hxA : x ∈ allOf s x.2.1 := mem_allOf.2 ⟨hxs.1, rfl, hrk x hxs.1⟩
      let O : Nat → Prop := fun k => k = b8 ∨ k = w.heap.size + 1 ∨ k = w.heap.size + 1 + 1 ∨ k = w.heap.size + 1 + 1 + 1
      refine WC_rangeFuncA (gf := 54) (first := #[]) (caps := #[ptr ab]) (enc := fun x => [wtV x]) (by simp) (fun _ _ => callFunc_enter Try.func54 rfl rfl _ _) (all_it hvA hsA (by have := qof_len s (x.2.1, 2); have := qof_len s (x.2.1, 1); have := qof_len s (x.2.1, 0); simp [allOf]; omega)) (fun x => rfl) O
        (fun C pre W => Var W b8 (i64 pre.length) ∧ noNm pre n ∧ (∀ k, C k ↔ O k) ∧ Mod O w8 W ∧ W.heap[w.heap.size + 1]? = some (.cells #[u32 0, u32 0, u64 0, u32 0, u32 0, i64 0, i64 0] 30 (0, 0)) ∧ Var W (w.heap.size + 1 + 1) (i64 0) ∧ Var W (w.heap.size + 1 + 1 + 1) (i64 0))
        (fun c C pre W => c = .ret ∧ ∃ y, pre.getLast? = some y ∧ y.1 = n ∧ noNm pre.dropLast n ∧ WtAt W (w.heap.size + 1) y ∧ Var W (w.heap.size + 1 + 1) (i64 (pre.length - 1 : Nat)) ∧ Var W (w.heap.size + 1 + 1 + 1) (i64 0) ∧ (∀ k, C k ↔ O k) ∧ Mod O w8 W)
        (fun k hk => ?_) (fun k hk => ?_) ?_ ?_ ⟨v89, fun _ h => by simp at h, fun _ => Iff.rfl, Mod.refl _ _, ho9, v59, v69⟩ (fun x B ρ' W' => ∃ b, ρ' 9 = ptr b ∧ B ≤ b ∧ WtAt W' b x ∧ ρ' 3 = ptr w.heap.size ∧ ρ' 4 = ptr (w.heap.size + 1) ∧ ρ' 5 = ptr (w.heap.size + 1 + 1) ∧ ρ' 6 = ptr (w.heap.size + 1 + 1 + 1) ∧ ρ' 8 = ptr b8)
        ?_ ?_ ?_ ?_ ?_
      · have hne : allOf s x.2.1 ≠ [] := List.ne_nil_of_mem hxA
        rcases hk with rfl | ⟨hn, rfl⟩
        · exact ⟨hvA.lt, by rintro (e | e | e | e) <;> omega⟩
        · have h1 := hav hn
          refine ⟨hsA.lt ?_, by rintro (e | e | e | e) <;> omega⟩
          rw [flat_len wtC (s := 7) (fun _ => rfl)]
          have := List.length_pos_iff.2 hne
          omega
      · have := hE8.size
        rcases hk with e | e | e | e <;> omega
      · rintro C pre W W' ⟨h1, h2, h3, h4, h5, h6, h7⟩ hag
        exact ⟨h1.agr hag (.inr ((h3 _).2 (.inl rfl))), h2, h3, h4.agr_old hag, hag.obj h5 (.inr ((h3 _).2 (.inr (.inl rfl)))), h6.agr hag (.inr ((h3 _).2 (.inr (.inr (.inl rfl))))), h7.agr hag (.inr ((h3 _).2 (.inr (.inr (.inr rfl)))))⟩
      · rintro c C pre W W' ⟨h1, y, h2, h3, h4, h5, h6, h7, h8, h9⟩ hag
        exact ⟨h1, y, h2, h3, h4, h5.agr hag (.inr ((h8 _).2 (.inr (.inl rfl)))), h6.agr hag (.inr ((h8 _).2 (.inr (.inr (.inl rfl))))), h7.agr hag (.inr ((h8 _).2 (.inr (.inr (.inr rfl))))), h8, h9.agr_old hag⟩
      · rintro x B ρ' W W' ⟨b, h1, h2, h3, h4⟩ hag
        exact ⟨b, h1, h2, h3.agr hag h2, h4⟩
      · intro l x W
        simp
        exact ⟨(Ext.refl W).alloc _, WtAt.new W x 30⟩
      · rintro lp C pre y B ρ' W hsp ⟨h1, h2, h3, h4, h5, h6, h7⟩ hl1 hl2 - hBW ⟨b, e9, hB, hy, e3, e4, e5, e6, e8⟩
        have hnO : ¬ O w.heap.size := by rintro (e | e | e | e) <;> omega
        have hnW := hn9.mod h4 hnO
        have y0 := (setZ7 h5).1
        have yf := (setZ7 h5).2
        have hbn : b < W.heap.size := hy.lt
        simp [e9, e3, hy.c0, hy.c1, hy.c2, hy.c3, hnW.c0, hnW.c1, hnW.c2, hnW.c3]
        by_cases hyn : y.1 = n
        · simp [nmB_t hyn]
          refine WC_drawC 3 (.F 0 <| .F 1 <| .C 2 <| .Z) (fun k => decide (k = w.heap.size + 1)) rfl (by kernel_rfl) fun Wd hWd => ?_
          have hEd : Ext W Wd := hWd ▸ Ext.drew W
          have hyd := hy.ext hEd
          have z0 := (setZ7 (hEd.obj h5)).1
          have zf := (setZ7 (hEd.obj h5)).2
          have X1 : decide (b = w.heap.size + 1) = false := by simp; omega
          have X2 : decide (b8 = w.heap.size + 1) = false := by simp; omega
          simp [e9, e4, e8, hyd.c0, hyd.c1, hyd.c2, hyd.c3, hyd.c4, hyd.c5, hyd.c6, (h1.ext hEd).cell, X1, X2, z0 0 _ rfl, z0 1 _ rfl, z0 2 _ rfl, z0 3 _ rfl, z0 4 _ rfl, z0 5 _ rfl, z0 6 _ rfl, zf, cell_setCell]
          have hx8 : WtAt (((((((Wd.setCell ⟨(w.heap.size + 1), 0, none⟩ (u32 y.1.1)).setCell ⟨(w.heap.size + 1), 1, none⟩ (u32 y.1.2.1)).setCell ⟨(w.heap.size + 1), 2, none⟩ (u64 y.1.2.2.1)).setCell ⟨(w.heap.size + 1), 3, none⟩ (u32 y.1.2.2.2)).setCell ⟨(w.heap.size + 1), 4, none⟩ (u32 y.2.1)).setCell ⟨(w.heap.size + 1), 5, none⟩ (i64 y.2.2.1)).setCell ⟨(w.heap.size + 1), 6, none⟩ (i64 y.2.2.2)) (w.heap.size + 1) y := by refine ⟨?_, ?_, ?_, ?_, ?_, ?_, ?_⟩ <;> simp [z0 0 _ rfl, z0 1 _ rfl, z0 2 _ rfl, z0 3 _ rfl, z0 4 _ rfl, z0 5 _ rfl, z0 6 _ rfl, cell_setCell]
          have hM7 : Mod (fun k => k = w.heap.size + 1) Wd (((((((Wd.setCell ⟨(w.heap.size + 1), 0, none⟩ (u32 y.1.1)).setCell ⟨(w.heap.size + 1), 1, none⟩ (u32 y.1.2.1)).setCell ⟨(w.heap.size + 1), 2, none⟩ (u64 y.1.2.2.1)).setCell ⟨(w.heap.size + 1), 3, none⟩ (u32 y.1.2.2.2)).setCell ⟨(w.heap.size + 1), 4, none⟩ (u32 y.2.1)).setCell ⟨(w.heap.size + 1), 5, none⟩ (i64 y.2.2.1)).setCell ⟨(w.heap.size + 1), 6, none⟩ (i64 y.2.2.2)) := mod7 Wd (w.heap.size + 1) _ _ _ _ _ _ _
          have v5d := (h6.ext hEd).mod hM7 (by omega)
          have v6d := (h7.ext hEd).mod hM7 (by omega)
          refine KR_mk (hM7.agr fun k hk e => by simp [e] at hk) ?_
          generalize (((((((Wd.setCell ⟨(w.heap.size + 1), 0, none⟩ (u32 y.1.1)).setCell ⟨(w.heap.size + 1), 1, none⟩ (u32 y.1.2.1)).setCell ⟨(w.heap.size + 1), 2, none⟩ (u64 y.1.2.2.1)).setCell ⟨(w.heap.size + 1), 3, none⟩ (u32 y.1.2.2.2)).setCell ⟨(w.heap.size + 1), 4, none⟩ (u32 y.2.1)).setCell ⟨(w.heap.size + 1), 5, none⟩ (i64 y.2.2.1)).setCell ⟨(w.heap.size + 1), 6, none⟩ (i64 y.2.2.2)) = Wf at *
          simp [e5, e6, v5d.cell, v5d.thaw, v6d.cell, v6d.thaw, cell_setCell]
          have m5 := (Mod.refl (fun k => k = w.heap.size + 1 + 1) Wf).setC 0 (i64 pre.length)
          have m6 := (Mod.refl (fun k => k = w.heap.size + 1 + 1 + 1) (Wf.setCell ⟨w.heap.size + 1 + 1, 0, none⟩ (i64 pre.length))).setC 0 (i64 0)
          have mO : Mod O W ((Wf.setCell ⟨w.heap.size + 1 + 1, 0, none⟩ (i64 pre.length)).setCell ⟨w.heap.size + 1 + 1 + 1, 0, none⟩ (i64 0)) :=
            hEd.mod.trans ((hM7.weaken fun k hk => .inr (.inl hk)).trans ((m5.weaken fun k hk => .inr (.inr (.inl hk))).trans (m6.weaken fun k hk => .inr (.inr (.inr hk)))))
          refine ⟨C, ⟨hyn, h2, (hx8.mod m5 (by omega)).mod m6 (by omega), (v5d.set _).mod m6 (by omega), (v6d.mod m5 (by omega)).set _, h3, h4.trans mO⟩, Own.of_mod (mO.weaken fun k hk => (h3 k).2 hk)⟩
        · simp [nmB_f hyn, e8, h1.cell, h1.thaw]
          have hw1 : IntKind.i64.wrap ((pre.length : Int) + 1) = (pre.length : Int) + 1 := by
            obtain ⟨_, suf, hsuf⟩ := hsp
            have hl2 := qof_len s (x.2.1, 2)
            have hl1 := qof_len s (x.2.1, 1)
            have hl0 := qof_len s (x.2.1, 0)
            have := congrArg List.length hsuf
            simp [allOf] at this
            exact wrap64 _ (by omega) (by omega)
          rw [hw1]
          have m8 := (Mod.refl (fun k => k = b8) W).setC 0 (i64 ((pre.length : Int) + 1))
          have mO : Mod O W (W.setCell ⟨b8, 0, none⟩ (i64 ((pre.length : Int) + 1))) := m8.weaken fun k hk => .inl hk
          refine ⟨C, ⟨h1.set _, ?_, h3, h4.trans mO, m8.obj h5 (by omega), h6.mod m8 (by omega), h7.mod m8 (by omega)⟩, Own.of_mod (mO.weaken fun k hk => (h3 k).2 hk)⟩
          intro z hz
          rcases List.mem_append.1 hz with hz | hz
          · exact h2 z hz
          · simp at hz; rw [hz]; exact hyn
      · rintro C xs W rfl ⟨h1, h2, h3, h4, -⟩ hD
        exact absurd hxs.2 (h2 x hxA)
      · rintro c C pre W hsp ⟨rfl, y, h2, h3, h4, h5, h6, h7, h8, h9⟩ hD
        simp
        have hP := Mod.putObj (w := W) w8.heap.size (.deferred none)
        refine LV_mark hD (by simp) ?_
        have h5' := h5.mod hP (by omega)
        have h6' := h6.mod hP (by omega)
        have h7' := h7.mod hP (by omega)
        simp [h5'.c0, h5'.c1, h5'.c2, h5'.c3, h5'.c4, h5'.c5, h5'.c6, h6'.cell, h7'.cell]
        obtain ⟨hne, suf, hsuf⟩ := hsp
        have hpy : pre = pre.dropLast ++ [y] := by
          rw [List.getLast?_eq_some_getLast hne] at h2
          cases h2
          exact (List.dropLast_concat_getLast hne).symm
        have hsplit : allOf s x.2.1 = pre.dropLast ++ y :: suf := by
          rw [hsuf]
          conv => lhs; rw [hpy]
          simp
        have hys : y ∈ s := (mem_allOf.1 (show y ∈ allOf s x.2.1 by rw [hsplit]; simp)).1
        have hyx : y = x := uniqN h.nd hys hxs.1 (h3.trans hxs.2.symm)
        have hdv : dropV s n = x := by unfold dropV; rw [if_pos h0, hx]; rfl
        have hgi : getI s n = pre.length - 1 := by
          unfold getI
          rw [hx]
          simp only [Option.getD_some]
          rw [hsplit, idx_at h4 h3]
          simp
        rw [hdv, hgi, hyx]
        refine ⟨by simp, ?_⟩
        exact (((hEw.mod (S := fun k => w.heap.size ≤ k)).trans (h9.weaken fun k hk => by rcases hk with e | e | e | e <;> omega)).trans (hP.weaken fun k hk => by have := hEw.size; omega)).ext fun _ h => h
    · have y0 := (setZ7 ho4).1
      have yf := (setZ7 ho4).2
      simp [h0, y0 0 _ rfl, y0 1 _ rfl, y0 2 _ rfl, y0 3 _ rfl, y0 4 _ rfl, y0 5 _ rfl, y0 6 _ rfl, yf, v54.cell, v54.thaw, v64.cell, v64.thaw, cell_setCell]
      have hdv : dropV s n = zW := by unfold dropV; rw [if_neg h0]
      rw [hdv]
      have hS := (((mod7 w4 (w.heap.size + 1) (u32 0) (u32 0) (u64 0) (u32 0) (u32 0) (i64 0) (i64 0)).weaken (S' := fun k => w.heap.size ≤ k) fun k hk => by omega).setCell ⟨w.heap.size + 1 + 1, 0, none⟩ (i64 0) (.inl (by simp only; omega))).setCell ⟨w.heap.size + 1 + 1 + 1, 0, none⟩ (i64 (dropE s n)) (.inl (by simp only; omega))
      exact ⟨by simp [zW], (((hE1.trans hX).mod (S := fun k => w.heap.size ≤ k)).trans hS).ext fun _ h => h⟩
end Go.Proofs
