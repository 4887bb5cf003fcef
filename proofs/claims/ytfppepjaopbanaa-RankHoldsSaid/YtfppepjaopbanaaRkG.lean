/-
  Contracts of the functions that the law reaches, step by step.
-/
import Derived.Test.YtfppepjaopbanaaRkF
namespace Go.Proofs
open Pk
set_option maxRecDepth 10000
def zW : Wt := ((0, 0, 0, 0), 0, 0, 0)
def dropE (s : List Wt) (n : Nm) : Int := if badN n then 2 else if (findN s n).isNone then 5 else 0
def dropV (s : List Wt) (n : Nm) : Wt := if dropE s n = 0 then (findN s n).getD zW else zW
/-- An object of one's own that holds a thing: what is written there. -/
theorem dropped {s : List Wt} {n : Nm} (h : dropE s n = 0) : ∃ x, findN s n = some x := by
  unfold dropE at h
  cases hf : findN s n with
  | some x => exact ⟨x, rfl⟩
  | none => rw [hf] at h; exfalso; simp only [Option.isNone_none, if_true] at h; split at h <;> omega
theorem mod7 (W : World) (b : Nat) (v0 v1 v2 v3 v4 v5 v6 : Value) : Mod (fun k => k = b) W (((((((W.setCell ⟨b, 0, none⟩ v0).setCell ⟨b, 1, none⟩ v1).setCell ⟨b, 2, none⟩ v2).setCell ⟨b, 3, none⟩ v3).setCell ⟨b, 4, none⟩ v4).setCell ⟨b, 5, none⟩ v5).setCell ⟨b, 6, none⟩ v6) :=
  (((((((Mod.refl _ W).setC 0 v0).setC 1 v1).setC 2 v2).setC 3 v3).setC 4 v4).setC 5 v5).setC 6 v6
set_option maxHeartbeats 1000000 in
theorem drop_c {w : World} {l Rq Rw : Nat} {M : MQ} {N : MN} {s : List Wt} {most : Int} (h : LineAt w l Rq Rw M N s most) (hbd : s.length ≤ 1048575) (n : Nm) :
    FN Try.prog 10 [ptr l, nmV n] w fun e w' => e = .returned (.tuple #[wtV (dropV s n), i64 (dropE s n)]) ∧ ∃ M' N', LineAt w' l Rq Rw M' N' (if dropE s n = 0 then mdel s n else s) most ∧ Mod (Foot l Rq Rw M) w w' ∧ ∀ k, Foot l Rq Rw M' k → Foot l Rq Rw M k := by
  refine FN_enter Try.func10 rfl rfl (by kernel_rfl) ?_
  simp
  have hE1 : Ext w ((w.alloc (.cells #[u32 n.1, u32 n.2.1, u64 n.2.2.1, u32 n.2.2.2] 28)).alloc (.cells #[u32 0, u32 0, u64 0, u32 0, u32 0, i64 0, i64 0] 30)) := ((Ext.refl w).alloc _).alloc _
  have hn1 : NmAt ((w.alloc (.cells #[u32 n.1, u32 n.2.1, u64 n.2.2.1, u32 n.2.2.2] 28)).alloc (.cells #[u32 0, u32 0, u64 0, u32 0, u32 0, i64 0, i64 0] 30)) w.heap.size n := (NmAt.new w n 28).ext ((Ext.refl _).alloc _)
  have hob : ((w.alloc (.cells #[u32 n.1, u32 n.2.1, u64 n.2.2.1, u32 n.2.2.2] 28)).alloc (.cells #[u32 0, u32 0, u64 0, u32 0, u32 0, i64 0, i64 0] 30)).heap[w.heap.size + 1]? = some (.cells #[u32 0, u32 0, u64 0, u32 0, u32 0, i64 0, i64 0] 30 (0, 0)) := by
    have := World.alloc_heap_new (w.alloc (.cells #[u32 n.1, u32 n.2.1, u64 n.2.2.1, u32 n.2.2.2] 28)) (.cells #[u32 0, u32 0, u64 0, u32 0, u32 0, i64 0, i64 0] 30 (0, 0))
    simpa using this
  have hsz : ((w.alloc (.cells #[u32 n.1, u32 n.2.1, u64 n.2.2.1, u32 n.2.2.2] 28)).alloc (.cells #[u32 0, u32 0, u64 0, u32 0, u32 0, i64 0, i64 0] 30)).heap.size = w.heap.size + 1 + 1 := by simp
  generalize ((w.alloc (.cells #[u32 n.1, u32 n.2.1, u64 n.2.2.1, u32 n.2.2.2] 28)).alloc (.cells #[u32 0, u32 0, u64 0, u32 0, u32 0, i64 0, i64 0] 30)) = w1 at *
  refine WC_drawC 6 (.F 0 <| .F 2 <| .F 4 <| .F 5 <| .C 1 <| .C 3 <| .Z) (fun _ => false) rfl (by kernel_rfl) fun W hW => ?_
  have hWE : Ext w1 W := hW ▸ Ext.drew _
  have hn2 := hn1.ext hWE
  simp [hn2.c0, hn2.c1, hn2.c2, hn2.c3]
  refine FN.mono (is_c l W) ?_
  rintro _ W1 ⟨rfl, hE2⟩
  simp
  refine KR_ext hE2 ?_
  simp
  refine FN.mono (right_c n W1) ?_
  rintro _ W2 ⟨rb, rfl, hr, hE3⟩
  simp
  refine KR_ext hE3 ?_
  simp
  refine FN.mono (waits_c l n W2) ?_
  rintro _ W3 ⟨b0, b1, rfl, hv0, hnb, hE4⟩
  simp
  have hE41 := ((hWE.trans hE2).trans hE3).trans hE4
  let qs : List Qn := [⟨.func (.func 32) #[ptr l] #[], 1, false⟩, ⟨.func (.func 55) #[] #[ptr rb], 2, badN n⟩, ⟨.func (.func 60) #[] #[ptr b0, ptr b1], 5, (findN s n).isNone⟩]
  have hsl := Sl.made W3 (askCells qs) 73 2 3 rfl
  have hE5 := (Ext.refl W3).alloc (.cells (askCells qs).toArray 73)
  refine asked_go (w0 := W3) qs hsl (by simp [qs]) ?_ hE5 ?_ ?_
  · intro q hq
    simp [qs] at hq
    rcases hq with rfl | rfl | rfl <;> exact ⟨_, _, _, rfl⟩
  · intro i q hq hno w' hw'
    have hx := hE41.trans hw'
    match i, hq with
    | 0, hq =>
      simp [qs] at hq; subst hq
      exact FN.mono (none_c (h.ext (hE1.trans hx))) fun _ _ h => ⟨h.1, h.2 ▸ Ext.refl _⟩
    | 1, hq =>
      simp [qs] at hq; subst hq
      exact rightF_c (hr.ext (hE4.trans hw'))
    | 2, hq =>
      simp [qs] at hq; subst hq
      exact waitsF_c (h.ext (hE1.trans hx)) (hv0.ext hw') (hnb.ext hw')
    | i + 3, hq => simp [qs] at hq
  · intro w4 hw4
    have hX := hE41.trans hw4
    have hE : askE qs = dropE s n := by
      simp [qs, askE, dropE]
    rw [hE]
    have h4 := h.ext (hE1.trans hX)
    have hn4 := hn1.ext hX
    have ho4 := hX.obj hob
    have hlt := h.lt
    by_cases h0 : dropE s n = 0
    · obtain ⟨x, hx⟩ := dropped h0
      simp [h0, hn4.c0, hn4.c1, hn4.c2, hn4.c3]
      refine FN.mono (pull_c h4 hx hbd) ?_
      rintro _ w5 ⟨rfl, M', g1, g2, g3⟩
      have hb1 : ¬ Foot l Rq Rw M (w.heap.size + 1) := fun e => by have := hlt _ e; omega
      have ho5 := g2.obj ho4 hb1
      have y0 : ∀ j u, (#[u32 0, u32 0, u64 0, u32 0, u32 0, i64 0, i64 0] : Array Value)[j]? = some u → w5.cell? ⟨w.heap.size + 1, j, none⟩ = some u := fun j u hj => by simpa [World.cell?, ho5] using hj
      have yf : ∀ j, w5.frozen? ⟨w.heap.size + 1, j, none⟩ = false := fun j => by simp [World.frozen?, ho5]
      simp [y0 0 _ rfl, y0 1 _ rfl, y0 2 _ rfl, y0 3 _ rfl, y0 4 _ rfl, y0 5 _ rfl, y0 6 _ rfl, yf, cell_setCell]
      have hS := mod7 w5 (w.heap.size + 1) (u32 x.1.1) (u32 x.1.2.1) (u64 x.1.2.2.1) (u32 x.1.2.2.2) (u32 x.2.1) (i64 x.2.2.1) (i64 x.2.2.2)
      have hdv : dropV s n = x := by unfold dropV; rw [if_pos h0, hx]; rfl
      rw [hdv]
      refine ⟨by simp, M', ⟨_, g1.mod hS fun k hk e => hb1 (e ▸ g3 k hk)⟩, ((hE1.trans hX).mod.trans g2).trans' hS fun k hk => .inr (by omega), g3⟩
    · have y0 : ∀ j u, (#[u32 0, u32 0, u64 0, u32 0, u32 0, i64 0, i64 0] : Array Value)[j]? = some u → w4.cell? ⟨w.heap.size + 1, j, none⟩ = some u := fun j u hj => by simpa [World.cell?, ho4] using hj
      have yf : ∀ j, w4.frozen? ⟨w.heap.size + 1, j, none⟩ = false := fun j => by simp [World.frozen?, ho4]
      simp [h0, y0 0 _ rfl, y0 1 _ rfl, y0 2 _ rfl, y0 3 _ rfl, y0 4 _ rfl, y0 5 _ rfl, y0 6 _ rfl, yf, cell_setCell]
      have hS := mod7 w4 (w.heap.size + 1) (u32 0) (u32 0) (u64 0) (u32 0) (u32 0) (i64 0) (i64 0)
      have hdv : dropV s n = zW := by unfold dropV; rw [if_neg h0]
      rw [hdv]
      refine ⟨by simp [zW], M, ⟨_, h4.mod hS fun k hk e => by have := hlt k hk; omega⟩, (hE1.trans hX).mod.trans' hS fun k hk => .inr (by omega), fun k hk => hk⟩
def moveE (s : List Wt) (n : Nm) (tn : Int) : Int := if badN n then 2 else if tn = 0 then 2 else if (findN s n).isNone then 5 else 0
def moved (s : List Wt) (n : Nm) (tn : Int) : List Wt := if moveE s n tn = 0 then mdel s n ++ [(n, tn, ((findN s n).getD zW).2.2)] else s
theorem moveE_0 {s : List Wt} {n : Nm} {tn : Int} (h : moveE s n tn = 0) : ∃ x, findN s n = some x := by
  unfold moveE at h
  cases hf : findN s n with
  | some x => exact ⟨x, rfl⟩
  | none =>
    rw [hf] at h; exfalso; simp only [Option.isNone_none, if_true] at h; split at h
    · omega
    · split at h <;> omega
set_option maxHeartbeats 1000000 in
theorem move_c {w : World} {l Rq Rw : Nat} {M : MQ} {N : MN} {s : List Wt} {most : Int} (h : LineAt w l Rq Rw M N s most) (hbd : s.length ≤ 1048575) (n : Nm) (tn : Int) :
    FN Try.prog 20 [ptr l, nmV n, u32 tn] w fun e w' => e = .returned (i64 (moveE s n tn)) ∧ ∃ M' N', LineAt w' l Rq Rw M' N' (moved s n tn) most ∧ Mod (Foot l Rq Rw M) w w' ∧ ∀ k, Foot l Rq Rw M' k → Foot l Rq Rw M k ∨ w.heap.size ≤ k := by
  refine FN_enter Try.func20 rfl rfl (by kernel_rfl) ?_
  simp
  have hE1 : Ext w (w.alloc (.cells #[u32 n.1, u32 n.2.1, u64 n.2.2.1, u32 n.2.2.2] 28)) := (Ext.refl w).alloc _
  have hn1 : NmAt (w.alloc (.cells #[u32 n.1, u32 n.2.1, u64 n.2.2.1, u32 n.2.2.2] 28)) w.heap.size n := NmAt.new w n 28
  generalize (w.alloc (.cells #[u32 n.1, u32 n.2.1, u64 n.2.2.1, u32 n.2.2.2] 28)) = w1 at *
  refine WC_drawC 8 (.F 0 <| .F 2 <| .F 4 <| .F 6 <| .F 7 <| .C 1 <| .C 3 <| .C 5 <| .Z) (fun _ => false) rfl (by kernel_rfl) fun W hW => ?_
  have hWE : Ext w1 W := hW ▸ Ext.drew _
  have hn2 := hn1.ext hWE
  simp [hn2.c0, hn2.c1, hn2.c2, hn2.c3]
  refine FN.mono (is_c l W) ?_
  rintro _ W1 ⟨rfl, hE2⟩
  simp
  refine KR_ext hE2 ?_
  simp
  refine FN.mono (right_c n W1) ?_
  rintro _ W2 ⟨rb, rfl, hr, hE3⟩
  simp
  refine KR_ext hE3 ?_
  simp
  refine FN.mono (node_c tn W2) ?_
  rintro _ W3 ⟨nb, rfl, hnv, hE4⟩
  simp
  refine KR_ext hE4 ?_
  simp
  refine FN.mono (waits_c l n W3) ?_
  rintro _ W4 ⟨b0, b1, rfl, hv0, hnb, hE4'⟩
  simp
  have hE41 := (((hWE.trans hE2).trans hE3).trans hE4).trans hE4'
  let qs : List Qn := [⟨.func (.func 32) #[ptr l] #[], 1, false⟩, ⟨.func (.func 55) #[] #[ptr rb], 2, badN n⟩, ⟨.func (.func 57) #[] #[ptr nb], 2, decide (tn = 0)⟩, ⟨.func (.func 60) #[] #[ptr b0, ptr b1], 5, (findN s n).isNone⟩]
  have hsl := Sl.made W4 (askCells qs) 73 2 4 rfl
  have hE5 := (Ext.refl W4).alloc (.cells (askCells qs).toArray 73)
  refine asked_go (w0 := W4) qs hsl (by simp [qs]) ?_ hE5 ?_ ?_
  · intro q hq
    simp [qs] at hq
    rcases hq with rfl | rfl | rfl | rfl <;> exact ⟨_, _, _, rfl⟩
  · intro i q hq hno w' hw'
    have hx := hE41.trans hw'
    match i, hq with
    | 0, hq =>
      simp [qs] at hq; subst hq
      exact FN.mono (none_c (h.ext (hE1.trans hx))) fun _ _ h => ⟨h.1, h.2 ▸ Ext.refl _⟩
    | 1, hq =>
      simp [qs] at hq; subst hq
      exact rightF_c (hr.ext ((hE4.trans hE4').trans hw'))
    | 2, hq =>
      simp [qs] at hq; subst hq
      exact FN.mono (nodeF_c (hnv.ext (hE4'.trans hw'))) fun _ _ h => ⟨by rw [h.1, beq_dec], h.2 ▸ Ext.refl _⟩
    | 3, hq =>
      simp [qs] at hq; subst hq
      exact waitsF_c (h.ext (hE1.trans hx)) (hv0.ext hw') (hnb.ext hw')
    | i + 4, hq => simp [qs] at hq
  · intro w4 hw4
    have hX := hE41.trans hw4
    have hE : askE qs = moveE s n tn := by
      simp [qs, askE, moveE]
    rw [hE]
    have h4 := h.ext (hE1.trans hX)
    have hn4 := hn1.ext hX
    by_cases h0 : moveE s n tn = 0
    · obtain ⟨x, hx⟩ := moveE_0 h0
      have hxn := (findN_some hx).2
      simp [h0, hn4.c0, hn4.c1, hn4.c2, hn4.c3]
      refine FN.mono (pull_c h4 hx hbd) ?_
      rintro _ w5 ⟨rfl, M', g1, g2, g3⟩
      simp
      have hE6 := (Ext.refl w5).alloc (.cells #[u32 x.1.1, u32 x.1.2.1, u64 x.1.2.2.1, u32 x.1.2.2.2, u32 tn, i64 x.2.2.1, i64 x.2.2.2] 30)
      have hlen : (mdel s n).length ≤ s.length := List.length_filter_le _ _
      have hno : findN (mdel s n) (x.1, tn, x.2.2).1 = none := by rw [findN_drop, hxn, if_pos rfl]
      refine FN.mono (push_c (g1.ext hE6) (x.1, tn, x.2.2) hno (by omega)) ?_
      rintro _ w6 ⟨⟨u, rfl⟩, M6, N6, g4, g5, g6⟩
      simp
      have hmv : moved s n tn = mdel s n ++ [(x.1, tn, x.2.2)] := by unfold moved; rw [if_pos h0, hx, hxn]; rfl
      rw [hmv]
      refine ⟨M6, ⟨_, g4⟩, ((hE1.trans hX).mod.trans g2).trans ((hE6.mod).trans (g5.weaken g3)), fun k hk => ?_⟩
      rcases g6 k hk with h | h
      · exact .inl (g3 k h)
      · have s1 := (hE1.trans hX).size
        have s2 := g2.size
        have s3 := hE6.size
        exact .inr (Nat.le_trans s1 (Nat.le_trans s2 (Nat.le_trans s3 h)))
    · have hmv : moved s n tn = s := by unfold moved; rw [if_neg h0]
      rw [hmv]
      simp [h0]
      exact ⟨M, ⟨N, h4⟩, (hE1.trans hX).mod, fun k hk => .inl hk⟩
def firstE (s : List Wt) (nd : Int) : Int := if nd = 0 then 2 else if allOf s nd = [] then 5 else 0
def firstV (s : List Wt) (nd : Int) : Wt := if firstE s nd = 0 then (allOf s nd).headD zW else zW
theorem first1_c {w : World} {b : Nat} {v : Value} {ls : List Wt} (v1 : Var w b v) (h : WSl w v ls) : FN Try.prog 40 [ptr b] w fun e w' => e = .returned (.bool (decide (ls = []))) ∧ w' = w := by
  refine FN_enter Try.func40 rfl rfl (by kernel_rfl) ?_
  have hlen := fun ty W => h.isLen (P := Try.prog) (t := 22) (by simp) ty W
  obtain ⟨a, c, rfl⟩ := h.isSlice
  simp [v1.cell, hlen]
theorem first_c {w : World} {l Rq Rw : Nat} {M : MQ} {N : MN} {s : List Wt} {most : Int} (h : LineAt w l Rq Rw M N s most) (hbd : s.length ≤ 300000) (nd : Int) :
    FN Try.prog 12 [ptr l, u32 nd] w fun e w' => e = .returned (.tuple #[wtV (firstV s nd), i64 (firstE s nd)]) ∧ Ext w w' := by
  refine FN_enter Try.func12 rfl rfl (by kernel_rfl) ?_
  simp
  have hE1 : Ext w (w.alloc (.cells #[u32 0, u32 0, u64 0, u32 0, u32 0, i64 0, i64 0] 30)) := (Ext.refl w).alloc _
  have hob : (w.alloc (.cells #[u32 0, u32 0, u64 0, u32 0, u32 0, i64 0, i64 0] 30)).heap[w.heap.size]? = some (.cells #[u32 0, u32 0, u64 0, u32 0, u32 0, i64 0, i64 0] 30 (0, 0)) := World.alloc_heap_new w (.cells #[u32 0, u32 0, u64 0, u32 0, u32 0, i64 0, i64 0] 30 (0, 0))
  generalize (w.alloc (.cells #[u32 0, u32 0, u64 0, u32 0, u32 0, i64 0, i64 0] 30)) = w1 at *
  refine FN.mono (list_c (h.ext hE1) hbd nd) ?_
  rintro _ w2 ⟨v, rfl, ho, hE2⟩
  simp
  obtain ⟨a, c, hv⟩ := own_val ho
  subst hv
  simp
  have hE3 : Ext w2 (w2.alloc (.cells #[.slice a (allOf s nd).length c] 22)) := (Ext.refl w2).alloc _
  have v3 := Var.new w2 (.slice a (allOf s nd).length c) 22
  obtain ⟨vb, hvb⟩ : ∃ vb, vb = w2.heap.size := ⟨_, rfl⟩
  rw [← hvb] at v3 ⊢
  have hs3 : WSl (w2.alloc (.cells #[.slice a (allOf s nd).length c] 22)) (.slice a (allOf s nd).length c) (allOf s nd) := (sl_of_own ho).ext hE3
  generalize (w2.alloc (.cells #[.slice a (allOf s nd).length c] 22)) = w3 at *
  refine FN.mono (is_c l w3) ?_
  rintro _ W1 ⟨rfl, hE4⟩
  simp
  refine FN.mono (node_c nd W1) ?_
  rintro _ W2 ⟨nb, rfl, hnv, hE5⟩
  simp
  have hE35 := hE4.trans hE5
  let qs : List Qn := [⟨.func (.func 32) #[ptr l] #[], 1, false⟩, ⟨.func (.func 57) #[] #[ptr nb], 2, decide (nd = 0)⟩, ⟨.func (.func 40) #[] #[ptr vb], 5, decide (allOf s nd = [])⟩]
  have hsl := Sl.made W2 (askCells qs) 73 2 3 rfl
  have hE6 := (Ext.refl W2).alloc (.cells (askCells qs).toArray 73)
  refine asked_go (w0 := W2) qs hsl (by simp [qs]) ?_ hE6 ?_ ?_
  · intro q hq
    simp [qs] at hq
    rcases hq with rfl | rfl | rfl <;> exact ⟨_, _, _, rfl⟩
  · intro i q hq hno w' hw'
    have hx := hE35.trans hw'
    match i, hq with
    | 0, hq =>
      simp [qs] at hq; subst hq
      exact FN.mono (none_c (h.ext (((hE1.trans hE2).trans hE3).trans hx))) fun _ _ h => ⟨h.1, h.2 ▸ Ext.refl _⟩
    | 1, hq =>
      simp [qs] at hq; subst hq
      exact FN.mono (nodeF_c (hnv.ext hw')) fun _ _ h => ⟨by rw [h.1, beq_dec], h.2 ▸ Ext.refl _⟩
    | 2, hq =>
      simp [qs] at hq; subst hq
      exact FN.mono (first1_c (v3.ext hx) (Sl.ext hs3 hx)) fun _ _ h => ⟨h.1, h.2 ▸ Ext.refl _⟩
    | i + 3, hq => simp [qs] at hq
  · intro w4 hw4
    have hX := hE35.trans hw4
    have hE : askE qs = firstE s nd := by
      simp [qs, askE, firstE]
    rw [hE]
    have ho4 := (hE2.trans (hE3.trans hX)).obj hob
    have hEa := ((hE1.trans hE2).trans hE3).trans hX
    have y0 : ∀ j u, (#[u32 0, u32 0, u64 0, u32 0, u32 0, i64 0, i64 0] : Array Value)[j]? = some u → w4.cell? ⟨w.heap.size, j, none⟩ = some u := fun j u hj => by simpa [World.cell?, ho4] using hj
    have yf : ∀ j, w4.frozen? ⟨w.heap.size, j, none⟩ = false := fun j => by simp [World.frozen?, ho4]
    have hlw := hEa.size
    have hS := fun v0 v1 v2 v3 v4 v5 v6 => ((hEa.mod (S := fun _ => False)).trans' (mod7 w4 w.heap.size v0 v1 v2 v3 v4 v5 v6) fun k hk => .inr (by omega)).ext fun _ h => h.elim
    by_cases h0 : firstE s nd = 0
    · have hne : allOf s nd ≠ [] := by
        intro e
        unfold firstE at h0
        rw [e] at h0
        simp only [if_true] at h0
        split at h0 <;> omega
      obtain ⟨x, xs, hxs⟩ := List.exists_cons_of_ne_nil hne
      have hpos : 0 < (allOf s nd).length := List.length_pos_iff.2 hne
      have hr := WSl.row (Sl.ext hs3 hX) (show (allOf s nd)[0]? = some x by rw [hxs]; rfl)
      have ix := WSl.index hs3 0 hpos w4
      have c0 := hr.c0
      have c1 := hr.c1
      have c2 := hr.c2
      have c3 := hr.c3
      have c4 := hr.c4
      have c5 := hr.c5
      have c6 := hr.c6
      simp at ix c0 c1 c2 c3 c4 c5 c6
      simp [h0, (v3.ext hX).cell, ix, c0, c1, c2, c3, c4, c5, c6, y0 0 _ rfl, y0 1 _ rfl, y0 2 _ rfl, y0 3 _ rfl, y0 4 _ rfl, y0 5 _ rfl, y0 6 _ rfl, yf, cell_setCell]
      have hfv : firstV s nd = x := by unfold firstV; rw [if_pos h0, hxs]; rfl
      rw [hfv]
      exact ⟨by simp, hS _ _ _ _ _ _ _⟩
    · have hfv : firstV s nd = zW := by unfold firstV; rw [if_neg h0]
      simp [h0, y0 0 _ rfl, y0 1 _ rfl, y0 2 _ rfl, y0 3 _ rfl, y0 4 _ rfl, y0 5 _ rfl, y0 6 _ rfl, yf, cell_setCell]
      rw [hfv]
      exact ⟨by simp [zW], hS _ _ _ _ _ _ _⟩
end Go.Proofs
