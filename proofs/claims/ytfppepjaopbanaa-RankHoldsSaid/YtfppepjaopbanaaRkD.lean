/-
  Contracts of the functions that the law reaches, step by step.
-/
import Derived.Test.YtfppepjaopbanaaRkC
namespace Go.Proofs
open Pk
set_option maxRecDepth 10000
theorem findN_mget (s : List Wt) (n : Nm) : findN s n = (mget s n).map fun r => (n, r) := by
  unfold findN mget
  cases h : s.find? (fun x => decide (x.1 = n)) with
  | none => rfl
  | some x =>
    have := List.find?_some h
    simp at this
    simp [← this]
theorem findN_some {s : List Wt} {n : Nm} {x : Wt} (h : findN s n = some x) : x ∈ s ∧ x.1 = n := by
  unfold findN at h
  have h1 := List.find?_some h
  exact ⟨List.mem_of_find?_eq_some h, by simpa using h1⟩
theorem findN_of {s : List Wt} (hn : (s.map (·.1)).Nodup) {x : Wt} (hx : x ∈ s) : findN s x.1 = some x := by
  rw [findN_mget, (kget_iff hn).2 (show (x.1, x.2) ∈ s from hx)]
  rfl
theorem uniqN {s : List Wt} (hn : (s.map (·.1)).Nodup) {x y : Wt} (hx : x ∈ s) (hy : y ∈ s) (h : x.1 = y.1) : x = y := by
  have h1 := findN_of hn hx
  have h2 := findN_of hn hy
  rw [h, h2] at h1
  exact (Option.some.inj h1).symm
theorem findN_drop (s : List Wt) (n m : Nm) : findN (mdel s n) m = if m = n then none else findN s m := by
  rw [findN_mget, findN_mget, kget_mdel]
  by_cases h : m = n
  · rw [if_pos h, if_pos h]; rfl
  · rw [if_neg h, if_neg h]
theorem qof_drop (s : List Wt) (n : Nm) (q : Qu) : qof (mdel s n) q = (qof s q).filter fun y => decide (y.1 ≠ n) := by
  unfold qof mdel
  rw [List.filter_filter, List.filter_filter]
  congr 1
  funext y
  rw [Bool.and_comm]
theorem qof_drop_ne {s : List Wt} (hn : (s.map (·.1)).Nodup) {n : Nm} {x : Wt} (hx : findN s n = some x) {q : Qu} (hq : q ≠ quOf x) : qof (mdel s n) q = qof s q := by
  rw [qof_drop, List.filter_eq_self]
  intro y hy
  obtain ⟨h1, h2⟩ := List.mem_filter.1 hy
  obtain ⟨h3, h4⟩ := findN_some hx
  simp only [decide_eq_true_eq] at h2 ⊢
  intro e
  have := uniqN hn h1 h3 (e.trans h4.symm)
  exact hq (by rw [← h2, this])
theorem erase_name {r : List Wt} (hn : (r.map (·.1)).Nodup) {n : Nm} {i : Nat} (hi : r.findIdx? (fun x => decide (x.1 = n)) = some i) : r.eraseIdx i = r.filter fun y => decide (y.1 ≠ n) := by
  obtain ⟨hil, hpi, hlt'⟩ := List.findIdx?_eq_some_iff_getElem.1 hi
  have hpk : (r[i]).1 = n := by simpa using hpi
  have hnd := List.pairwise_iff_getElem.1 hn
  rw [List.eraseIdx_eq_take_drop_succ]
  conv => rhs; rw [← List.take_append_drop i r]
  rw [List.filter_append, List.drop_eq_getElem_cons hil, List.filter_cons]
  simp only [hpk, ne_eq, not_true_eq_false, decide_false, Bool.false_eq_true, if_false]
  congr 1
  · symm
    rw [List.filter_eq_self]
    intro p hp
    obtain ⟨j, hj, rfl⟩ := List.mem_iff_getElem.1 hp
    simp only [List.length_take] at hj
    have := hlt' j (by omega)
    simp only [List.getElem_take]
    simpa using this
  · symm
    rw [List.filter_eq_self]
    intro p hp
    obtain ⟨j, hj, rfl⟩ := List.mem_iff_getElem.1 hp
    simp only [List.length_drop] at hj
    simp only [List.getElem_drop, decide_eq_true_eq]
    intro e
    exact hnd i (i + 1 + j) (by simpa using hil) (by simp; omega) (by omega) (by simp [hpk, e])
theorem qof_nodup {s : List Wt} (hn : (s.map (·.1)).Nodup) (q : Qu) : ((qof s q).map (·.1)).Nodup := hn.sublist ((List.filter_sublist).map _)
theorem mdel_mset {κ ν : Type} [DecidableEq κ] (m : List (κ × ν)) (k : κ) (v : ν) : mdel (mset m k v) k = mdel m k := by
  unfold mset
  split
  · unfold mdel
    rw [List.filter_map]
    have : ∀ p : κ × ν, ((fun p => decide (p.1 ≠ k)) ∘ fun p => if p.1 = k then (k, v) else p) p = decide (p.1 ≠ k) := by
      intro p
      by_cases h : p.1 = k <;> simp [h]
    rw [funext this]
    conv => rhs; rw [← List.map_id (m.filter _)]
    apply List.map_congr_left
    intro p hp
    have := (List.mem_filter.1 hp).2
    simp only [decide_eq_true_eq] at this
    rw [if_neg this]; rfl
  · unfold mdel
    rw [List.filter_append]
    simp
theorem LineAt.drop {w w' : World} {l Rq Rw : Nat} {M M' : MQ} {N : MN} {s : List Wt} {most : Int} (h : LineAt w l Rq Rw M N s most) {n : Nm} {x : Wt} (hx : findN s n = some x) {v v' : Value} {r : List Wt} (hg : mget M (quOf x) = some (v, r))
    (hM' : M' = if qof (mdel s n) (quOf x) = [] then mdel M (quOf x) else mset M (quOf x) (v', qof (mdel s n) (quOf x)))
    (hmq : MapAt quV ewQ w' Rq M') (hmw : MapAt nmV quV w' Rw (mdel N n)) (ho : WOwn w' v' (qof (mdel s n) (quOf x))) (hb : slB v' = slB v) (hM : Mod (fun k => k = Rq ∨ k = Rw ∨ k = slB v) w w') :
    LineAt w' l Rq Rw M' (mdel N n) (mdel s n) most ∧ Mod (Foot l Rq Rw M) w w' ∧ ∀ k, Foot l Rq Rw M' k → Foot l Rq Rw M k := by
  obtain ⟨m1, m2, m3⟩ := h.maps
  have hm := kget_mem hg
  have hF : ∀ k, (k = Rq ∨ k = Rw ∨ k = slB v) → Foot l Rq Rw M k := by
    rintro k (rfl | rfl | rfl)
    · exact .inr (.inl rfl)
    · exact .inr (.inr (.inl rfl))
    · exact .inr (.inr (.inr ⟨_, hm, rfl⟩))
  have hfoot : ∀ y ∈ M, y.1 ≠ quOf x → ¬ (slB y.2.1 = Rq ∨ slB y.2.1 = Rw ∨ slB y.2.1 = slB v) := by
    rintro y hy hne (e | e | e)
    · exact (m3 y hy).1 e
    · exact (m3 y hy).2 e
    · exact blk_uniq h.mq.nodup h.blk hg y hy hne e
  have hlS : ¬ (l = Rq ∨ l = Rw ∨ l = slB v) := by
    rintro (e | e | e)
    · exact m1 e.symm
    · exact m2 e.symm
    · exact h.lb _ hm e.symm
  have hmem : ∀ y ∈ M', (y = (quOf x, (v', qof (mdel s n) (quOf x))) ∧ qof (mdel s n) (quOf x) ≠ []) ∨ (y ∈ M ∧ y.1 ≠ quOf x) := by
    intro y hy
    rw [hM'] at hy
    split at hy
    · exact .inr (kdel_mem.1 hy)
    · rename_i hne
      rcases kset_mem hy with h1 | h1
      · exact .inl ⟨h1, hne⟩
      · exact .inr h1
  have hnds : ((mdel s n).map (·.1)).Nodup := kdel_nodup h.nd n
  refine ⟨⟨hM.cell h.c0 hlS, hM.cell h.c1 hlS, hM.cell h.c2 hlS, hmq, hmw, ?_, ?_, ?_, ?_, h.rq, ?_, ?_, hnds, ?_⟩, hM.weaken hF, ?_⟩
  · intro y hy
    rcases hmem y hy with ⟨rfl, _⟩ | ⟨hy, hne⟩
    · exact ho
    · exact own_keep (h.row y hy) fun _ hlt => hM.blk _ hlt (hfoot y hy hne)
  · intro y hy
    rcases hmem y hy with ⟨rfl, hn⟩ | ⟨hy, hne⟩
    · exact hn
    · exact h.nn y hy
  · rw [hM']
    split
    · exact h.blk.sublist ((List.filter_sublist).map _)
    · refine nodup_mset h.mq.nodup _ h.blk _ _ fun y hy hne => ?_
      simp only
      rw [hb]
      exact blk_uniq h.mq.nodup h.blk hg y hy hne
  · intro y hy
    rcases hmem y hy with ⟨rfl, _⟩ | ⟨hy, hne⟩
    · simp only
      rw [hb]
      exact h.lb _ hm
    · exact h.lb y hy
  · intro q
    by_cases hq : q = quOf x
    · subst hq
      rw [hM']
      split
      · rename_i h0
        rw [kget_mdel, if_pos rfl, h0]; rfl
      · rw [kget_mset, if_pos rfl]; rfl
    · rw [qof_drop_ne h.nd hx hq, ← h.qs q, hM']
      split
      · rw [kget_mdel, if_neg hq]
      · rw [kget_mset, if_neg hq]
  · intro m
    rw [kget_mdel, findN_drop]
    by_cases hmn : m = n
    · rw [if_pos hmn, if_pos hmn]; rfl
    · rw [if_neg hmn, if_neg hmn]; exact h.ws m
  · have h1 := kdel_len h.mw.nodup n
    have h2 := kdel_len h.nd n
    have h3 : (mget N n).isSome = true := by rw [h.ws, hx]; rfl
    have h4 : (mget s n).isSome = true := by
      rw [findN_mget] at hx
      cases hh : mget s n with
      | none => rw [hh] at hx; cases hx
      | some _ => rfl
    have h5 := h.len
    rw [if_pos h3] at h1
    rw [if_pos h4] at h2
    omega
  · rintro k (e | e | e | ⟨y, hy, e⟩)
    · exact .inl e
    · exact .inr (.inl e)
    · exact .inr (.inr (.inl e))
    · rcases hmem y hy with ⟨rfl, _⟩ | ⟨hy, hne⟩
      · refine hF k (.inr (.inr ?_)); rw [e]; exact hb
      · exact .inr (.inr (.inr ⟨y, hy, e⟩))
set_option maxHeartbeats 1000000 in
theorem pull_c {w : World} {l Rq Rw : Nat} {M : MQ} {N : MN} {s : List Wt} {most : Int} (h : LineAt w l Rq Rw M N s most) {n : Nm} {x : Wt} (hx : findN s n = some x) (hbd : s.length ≤ 1048575) :
    FN Try.prog 36 [ptr l, nmV n] w fun e w' => e = .returned (wtV x) ∧ ∃ M', LineAt w' l Rq Rw M' (mdel N n) (mdel s n) most ∧ Mod (Foot l Rq Rw M) w w' ∧ ∀ k, Foot l Rq Rw M' k → Foot l Rq Rw M k := by
  refine FN_enter Try.func36 rfl rfl (by kernel_rfl) ?_
  obtain ⟨hxs, hxn⟩ := findN_some hx
  have hq0 : x ∈ qof s (quOf x) := List.mem_filter.2 ⟨hxs, by simp⟩
  obtain ⟨v, hg⟩ := h.get (q := quOf x) (List.ne_nil_of_mem hq0)
  have hrv : rowV M (quOf x) = v := by simp [rowV, hg, ewQ]
  have hm := kget_mem hg
  obtain ⟨m1, m2, m3⟩ := h.maps
  have hlt := h.lt
  have hll := hlt l (.inl rfl)
  have hlq := hlt Rq (.inr (.inl rfl))
  have hlw := hlt Rw (.inr (.inr (.inl rfl)))
  have hlv := hlt _ (.inr (.inr (.inr ⟨_, hm, rfl⟩)))
  simp at hlv
  have hE1 : Ext w ((w.alloc (.cells #[u32 n.1, u32 n.2.1, u64 n.2.2.1, u32 n.2.2.2] 28)).alloc (.cells #[u32 0, u32 0, u64 0, u32 0, u32 0, i64 0, i64 0] 30)) := ((Ext.refl w).alloc _).alloc _
  have hn1 : NmAt ((w.alloc (.cells #[u32 n.1, u32 n.2.1, u64 n.2.2.1, u32 n.2.2.2] 28)).alloc (.cells #[u32 0, u32 0, u64 0, u32 0, u32 0, i64 0, i64 0] 30)) w.heap.size n := (NmAt.new w n 28).ext ((Ext.refl _).alloc _)
  have hob : ((w.alloc (.cells #[u32 n.1, u32 n.2.1, u64 n.2.2.1, u32 n.2.2.2] 28)).alloc (.cells #[u32 0, u32 0, u64 0, u32 0, u32 0, i64 0, i64 0] 30)).heap[w.heap.size + 1]? = some (.cells #[u32 0, u32 0, u64 0, u32 0, u32 0, i64 0, i64 0] 30 (0, 0)) := by
    have := World.alloc_heap_new (w.alloc (.cells #[u32 n.1, u32 n.2.1, u64 n.2.2.1, u32 n.2.2.2] 28)) (.cells #[u32 0, u32 0, u64 0, u32 0, u32 0, i64 0, i64 0] 30 (0, 0))
    simpa using this
  have hsz : ((w.alloc (.cells #[u32 n.1, u32 n.2.1, u64 n.2.2.1, u32 n.2.2.2] 28)).alloc (.cells #[u32 0, u32 0, u64 0, u32 0, u32 0, i64 0, i64 0] 30)).heap.size = w.heap.size + 1 + 1 := by simp
  simp
  generalize ((w.alloc (.cells #[u32 n.1, u32 n.2.1, u64 n.2.2.1, u32 n.2.2.2] 28)).alloc (.cells #[u32 0, u32 0, u64 0, u32 0, u32 0, i64 0, i64 0] 30)) = w1 at *
  have h1 := h.ext hE1
  refine WC_drawL 7 (.F 0 <| .F 1 <| .F 2 <| .F 3 <| .F 4 <| .D 6 <| .L 5 <| .W 6 <| .Z) (fun _ => false) (fun _ => false) (fun _ u W => ∃ b, u = ptr b ∧ W.heap[b]? = some (.cells #[u32 0, i64 0] 80 (0, 0)) ∧ w1.heap.size ≤ b) rfl (by kernel_rfl) (fun _ h => h)
    (fun _ _ _ _ ⟨b, h1, h2, h3⟩ h4 => ⟨b, h1, (agr_ext h4).obj h2, h3⟩) fun W hW => ?_
  have hWE : Ext w1 W := hW ▸ Ext.drew w1
  have h0 := h1.ext hWE
  have hn0 := hn1.ext hWE
  simp [h0.c2, hn0.c0, hn0.c1, hn0.c2, hn0.c3]
  refine RL_float (fun W1 h1 => ?_) ?_
  · simp
    have hs := (hWE.trans (agr_ext h1)).size
    exact ⟨(Ext.refl _).alloc _, by omega⟩
  simp
  refine RL_loose fun W1 hx1 => ?_
  simp [(h0.ext hx1).findW, hx]
  refine KR_same ?_
  simp
  refine RL_wait fun _ W3 hx3 ⟨b, hb, ho4, hlb⟩ => ?_
  subst hb
  have hE3 : Ext w1 W3 := hWE.trans (hx1.trans hx3)
  have z0 : W3.cell? ⟨b, 0, none⟩ = some (u32 0) := by simp [World.cell?, ho4]
  have z1 : W3.cell? ⟨b, 1, none⟩ = some (i64 0) := by simp [World.cell?, ho4]
  have zf : ∀ j, W3.frozen? ⟨b, j, none⟩ = false := fun j => by simp [World.frozen?, ho4]
  simp [z0, z1, zf, cell_setCell]
  have hE4 : Ext w1 ((W3.setCell ⟨b, 0, none⟩ (u32 (quOf x).1)).setCell ⟨b, 1, none⟩ (i64 (quOf x).2)) := (hE3.setCell ⟨b, 0, none⟩ _ hlb).setCell ⟨b, 1, none⟩ _ hlb
  have q0 : ((W3.setCell ⟨b, 0, none⟩ (u32 (quOf x).1)).setCell ⟨b, 1, none⟩ (i64 (quOf x).2)).cell? ⟨b, 0, none⟩ = some (u32 (quOf x).1) := by simp [cell_setCell, z0]
  have q1 : ((W3.setCell ⟨b, 0, none⟩ (u32 (quOf x).1)).setCell ⟨b, 1, none⟩ (i64 (quOf x).2)).cell? ⟨b, 1, none⟩ = some (i64 (quOf x).2) := by simp [cell_setCell, z1]
  generalize ((W3.setCell ⟨b, 0, none⟩ (u32 (quOf x).1)).setCell ⟨b, 1, none⟩ (i64 (quOf x).2)) = w2 at *
  refine WC_drawC 7 (.F 0 <| .F 1 <| .F 2 <| .F 3 <| .F 4 <| .F 6 <| .C 5 <| .Z) (fun _ => false) rfl (by kernel_rfl) fun W hW => ?_
  have hWE2 : Ext w2 W := hW ▸ Ext.drew w2
  have hE5 := hE4.trans hWE2
  have h5 := h1.ext hE5
  have hn5 := hn1.ext hE5
  have hrow5 : WSl W v (qof s (quOf x)) := by have := h5.sl (quOf x); rwa [hrv] at this
  have hlenq : (qof s (quOf x)).length ≤ s.length := List.length_filter_le _ _
  obtain ⟨i, hi⟩ : ∃ i, (qof s (quOf x)).findIdx? (fun y => decide (y.1 = n)) = some i := by
    cases hf : (qof s (quOf x)).findIdx? (fun y => decide (y.1 = n)) with
    | some i => exact ⟨i, rfl⟩
    | none =>
      rw [List.findIdx?_eq_none_iff] at hf
      have := hf x hq0
      simp [hxn] at this
  obtain ⟨hil, hpi, -⟩ := List.findIdx?_eq_some_iff_getElem.1 hi
  have hix : (qof s (quOf x))[i] = x := uniqN h.nd (List.mem_filter.1 (List.getElem_mem hil)).1 hxs (by rw [hxn]; simpa using hpi)
  simp [h5.c1, hWE2.cell_eq q0, hWE2.cell_eq q1, h5.findQ, hrv]
  refine KR_same ?_
  simp
  refine FN.mono (indexF_c hrow5 hn5 (by omega)) ?_
  rintro _ w3 ⟨rfl, hE6⟩
  rw [hi]
  simp
  have hE36 := hE5.trans hE6
  have hE26 := hWE2.trans hE6
  have h6 := h1.ext hE36
  have hrow6 := WSl.row (Sl.ext hrow5 hE6) (List.getElem?_eq_getElem hil)
  rw [hix] at hrow6
  refine WC_drawL 10 (.F 0 <| .F 1 <| .F 2 <| .F 3 <| .F 4 <| .F 6 <| .D 9 <| .L 5 <| .F 7 <| .F 8 <| .W 9 <| .Z) (fun _ => false) (fun _ => false) (fun _ u W => ∃ b, u = ptr b ∧ W.heap[b]? = some (.cells #[u32 0, u32 0, u64 0, u32 0, u32 0, i64 0, i64 0] 30 (0, 0)) ∧ w3.heap.size ≤ b) rfl (by kernel_rfl) (fun _ h => h)
    (fun _ _ _ _ ⟨b, h1, h2, h3⟩ h4 => ⟨b, h1, (agr_ext h4).obj h2, h3⟩) fun W' hW' => ?_
  have hWE3 : Ext w3 W' := hW' ▸ Ext.drew w3
  have h7 := h6.ext hWE3
  simp [h7.c1, hWE3.cell_eq (hE26.cell_eq q0), hWE3.cell_eq (hE26.cell_eq q1)]
  refine RL_float (fun W1 h1 => ?_) ?_
  · simp
    have hs := (hWE3.trans (agr_ext h1)).size
    exact ⟨(Ext.refl _).alloc _, by omega⟩
  simp
  refine RL_loose fun W1 hx1 => ?_
  have h8 := h7.ext hx1
  have r8 := hrow6.ext (hWE3.trans hx1)
  simp [h8.findQ, hrv]
  refine KR_same ?_
  have ix := WSl.index hrow5 i hil W1
  simp [ix, r8.c0, r8.c1, r8.c2, r8.c3, r8.c4, r8.c5, r8.c6]
  refine RL_wait fun _ W4 hx4 ⟨b2, hb2, ho5, hlb2⟩ => ?_
  subst hb2
  have hE7 : Ext w3 W4 := hWE3.trans (hx1.trans hx4)
  have z0 : W4.cell? ⟨b2, 0, none⟩ = some (u32 0) := by simp [World.cell?, ho5]
  have z1 : W4.cell? ⟨b2, 1, none⟩ = some (u32 0) := by simp [World.cell?, ho5]
  have z2 : W4.cell? ⟨b2, 2, none⟩ = some (u64 0) := by simp [World.cell?, ho5]
  have z3 : W4.cell? ⟨b2, 3, none⟩ = some (u32 0) := by simp [World.cell?, ho5]
  have z4 : W4.cell? ⟨b2, 4, none⟩ = some (u32 0) := by simp [World.cell?, ho5]
  have z5 : W4.cell? ⟨b2, 5, none⟩ = some (i64 0) := by simp [World.cell?, ho5]
  have z6 : W4.cell? ⟨b2, 6, none⟩ = some (i64 0) := by simp [World.cell?, ho5]
  have zf : ∀ j, W4.frozen? ⟨b2, j, none⟩ = false := fun j => by simp [World.frozen?, ho5]
  simp [z0, z1, z2, z3, z4, z5, z6, zf, cell_setCell]
  have hE8 : Ext w3 (((((((W4.setCell ⟨b2, 0, none⟩ (u32 x.1.1)).setCell ⟨b2, 1, none⟩ (u32 x.1.2.1)).setCell ⟨b2, 2, none⟩ (u64 x.1.2.2.1)).setCell ⟨b2, 3, none⟩ (u32 x.1.2.2.2)).setCell ⟨b2, 4, none⟩ (u32 x.2.1)).setCell ⟨b2, 5, none⟩ (i64 x.2.2.1)).setCell ⟨b2, 6, none⟩ (i64 x.2.2.2)) := ((((((hE7.setCell ⟨b2, 0, none⟩ _ hlb2).setCell ⟨b2, 1, none⟩ _ hlb2).setCell ⟨b2, 2, none⟩ _ hlb2).setCell ⟨b2, 3, none⟩ _ hlb2).setCell ⟨b2, 4, none⟩ _ hlb2).setCell ⟨b2, 5, none⟩ _ hlb2).setCell ⟨b2, 6, none⟩ _ hlb2
  have hx8 : WtAt (((((((W4.setCell ⟨b2, 0, none⟩ (u32 x.1.1)).setCell ⟨b2, 1, none⟩ (u32 x.1.2.1)).setCell ⟨b2, 2, none⟩ (u64 x.1.2.2.1)).setCell ⟨b2, 3, none⟩ (u32 x.1.2.2.2)).setCell ⟨b2, 4, none⟩ (u32 x.2.1)).setCell ⟨b2, 5, none⟩ (i64 x.2.2.1)).setCell ⟨b2, 6, none⟩ (i64 x.2.2.2)) b2 x := by refine ⟨?_, ?_, ?_, ?_, ?_, ?_, ?_⟩ <;> simp [z0, z1, z2, z3, z4, z5, z6, cell_setCell]
  generalize (((((((W4.setCell ⟨b2, 0, none⟩ (u32 x.1.1)).setCell ⟨b2, 1, none⟩ (u32 x.1.2.1)).setCell ⟨b2, 2, none⟩ (u64 x.1.2.2.1)).setCell ⟨b2, 3, none⟩ (u32 x.1.2.2.2)).setCell ⟨b2, 4, none⟩ (u32 x.2.1)).setCell ⟨b2, 5, none⟩ (i64 x.2.2.1)).setCell ⟨b2, 6, none⟩ (i64 x.2.2.2)) = w4 at *
  have hE9 := hE36.trans hE8
  have h9 := h1.ext hE9
  have q09 := (hE26.trans hE8).cell_eq q0
  have q19 := (hE26.trans hE8).cell_eq q1
  have hs1 := hE1.size
  have Xl : decide (l = slB v) = false := by simpa using fun e : l = slB v => h.lb _ hm e.symm
  have Xb : decide (b = slB v) = false := by simp; omega
  have Xq' : slB v ≠ Rq := (m3 _ hm).1
  have Xw' : slB v ≠ Rw := (m3 _ hm).2
  refine WC_drawC 15 (.F 0 <| .F 1 <| .F 2 <| .F 3 <| .F 4 <| .F 5 <| .F 6 <| .F 7 <| .F 8 <| .F 9 <| .F 11 <| .F 12 <| .F 13 <| .C 10 <| .C 14 <| .Z) (fun k => decide (k = slB v)) rfl (by kernel_rfl) fun W5 hW5 => ?_
  have hWE5 : Ext w4 W5 := hW5 ▸ Ext.drew w4
  have h10 := h9.ext hWE5
  have hw1 : IntKind.i64.wrap ((i : Int) + 1) = (i : Int) + 1 := wrap64 _ (by omega) (by omega)
  simp [h10.c1, hWE5.cell_eq q09, hWE5.cell_eq q19, Xl, Xb, hw1, h10.findQ, hrv]
  refine KR_same ?_
  simp
  have ho10 : WOwn W5 v (qof s (quOf x)) := h10.row _ hm
  refine FN.mono (delete_c ho10 i hil (by omega)) ?_
  rintro _ w5 ⟨v', rfl, ho11, hn11, hb11, hM11⟩
  simp
  refine KR_mk (hM11.agr fun k hk e => by simp at hk; exact hk e) ?_
  have hr' : (qof s (quOf x)).eraseIdx i = qof (mdel s n) (quOf x) := by rw [qof_drop]; exact erase_name (qof_nodup h.nd _) hi
  rw [hr'] at ho11
  have hm11 := h10.mq.mod hM11 Xq'.symm
  obtain ⟨w6, hr12, hm12, hM12, hs12⟩ := hm11.update (P := Try.prog) kQueue tmq (quOf x) (v', qof (mdel s n) (quOf x))
  simp [ewQ] at hr12
  simp [hr12]
  have hM46 : Mod (fun k => k = Rq ∨ k = slB v) w4 w6 := hWE5.mod.trans ((hM11.weaken fun k hk => .inr hk).trans (hM12.weaken fun k hk => .inl hk))
  have hx3s := hE36.size
  have hw1s : w1.heap.size ≤ w3.heap.size := hE36.size
  have nl : ¬ (l = Rq ∨ l = slB v) := fun e => by rcases e with e | e; exact m1 e.symm; exact h.lb _ hm e.symm
  have nw : ¬ (Rw = Rq ∨ Rw = slB v) := fun e => by rcases e with e | e; exact h.rq e; exact Xw' e.symm
  have nb : ∀ k, w.heap.size ≤ k → ¬ (k = Rq ∨ k = slB v) := fun k hk e => by rcases e with e | e <;> omega
  have ho12 : WOwn w6 v' (qof (mdel s n) (quOf x)) := own_keep ho11 fun _ hlt => hM12.blk _ hlt (by rw [hb11]; exact Xq')
  have q06 := hM46.cell q09 (nb _ (by simp only; omega))
  have q16 := hM46.cell q19 (nb _ (by simp only; omega))
  have lk12 := fun W (hW : Ext w6 W) => (hm12.ext hW).lookup (P := Try.prog) kQueue tmq (zSl _) (quOf x) false
  have hgm : ((mget (mset M (quOf x) (v', qof (mdel s n) (quOf x))) (quOf x)).map ewQ).getD (.slice none 0 0) = v' := by rw [kget_mset, if_pos rfl]; rfl
  rw [hgm] at lk12
  have lkd := lk12 w6.drew (Ext.drew _)
  simp at lkd
  have hlen12 := fun ty W => (sl_of_own ho12).isLen (P := Try.prog) (t := 22) (by simp) ty W
  refine WC_drawQ 5 rfl (by kernel_rfl) ?_
  refine with_tail (T := ∀ (σ : Env) (W : World) (M' : MQ), (σ 0 = ptr l ∧ σ 3 = ptr w.heap.size ∧ σ 4 = ptr (w.heap.size + 1) ∧ σ 7 = ptr b2) → (MapAt quV ewQ W Rq M' ∧ (M' = if qof (mdel s n) (quOf x) = [] then mdel M (quOf x) else mset M (quOf x) (v', qof (mdel s n) (quOf x))) ∧ Mod (fun k => k = Rq ∨ k = slB v) w4 W ∧ WOwn W v' (qof (mdel s n) (quOf x))) →
    WC Try.prog 65 none ?cA ?QA σ [] W) (fun tail => ?_) ?_
  rotate_left 2
  · have cl6 := (hM46.cell h9.c1 nl)
    by_cases h0 : qof (mdel s n) (quOf x) = []
    · rw [h0] at hlen12
      simp [cl6, q06, q16, lkd, hlen12]
      refine WC_drawQ 5 rfl (by kernel_rfl) ?_
      obtain ⟨w7, hr13, hm13, hM13, hs13⟩ := (hm12.ext ((Ext.drew w6).trans (Ext.drew _))).delete (P := Try.prog) kQueue tmq (quOf x) 80 0
      rw [mdel_mset] at hm13
      simp [cl6, q06, q16, hr13]
      have hdd := (Ext.drew w6).trans (Ext.drew _)
      refine tail _ _ (mdel M (quOf x)) ?_ ?_
      · simp
      · exact ⟨hm13, by rw [if_pos h0], hM46.trans (hdd.mod.trans (hM13.weaken fun k hk => .inl hk)), own_keep (own_ext ho12 hdd) fun _ hlt => hM13.blk _ hlt (by rw [hb11]; exact Xq')⟩
    · simp [cl6, q06, q16, lkd, hlen12, h0]
      refine tail _ _ _ ?_ ⟨hm12.ext (Ext.drew _), by rw [if_neg h0], hM46.trans (Ext.drew w6).mod, own_ext ho12 (Ext.drew _)⟩
      simp
  · rintro σ W M' ⟨e0, e3, e4, e7⟩ ⟨hmM, hM'e, hMW, hoW⟩
    have nbW : ∀ k, w.heap.size ≤ k → ¬ (k = Rq ∨ k = slB v) := nb
    have hd := Ext.drew W
    have c2W := hd.cell_eq (hMW.cell h9.c2 nl)
    have hnW := ((hn1.ext hE9).mod hMW (nb _ (Nat.le_refl _))).ext hd
    have hxW := (hx8.mod hMW (nb _ (by omega))).ext hd
    have hoW' := hd.obj (hMW.obj (hE9.obj hob) (nb _ (by omega)))
    have hwW := (h9.mw.mod hMW nw).ext hd
    refine WC_drawQ 5 rfl (by kernel_rfl) ?_
    obtain ⟨w8, hr14, hm14, hM14, hs14⟩ := hwW.delete (P := Try.prog) kName tmw n 28 0
    simp [e0, e3, e7, c2W, hnW.c0, hnW.c1, hnW.c2, hnW.c3, hr14]
    have nb8 : ∀ k, w.heap.size ≤ k → ¬ k = Rw := fun k hk e => by omega
    have hx8' := hxW.mod hM14 (nb8 _ (by omega))
    have ho8 := hM14.obj hoW' (nb8 _ (by omega))
    have y0 : ∀ j u, (#[u32 0, u32 0, u64 0, u32 0, u32 0, i64 0, i64 0] : Array Value)[j]? = some u → w8.cell? ⟨w.heap.size + 1, j, none⟩ = some u := fun j u hj => by simpa [World.cell?, ho8] using hj
    have yf : ∀ j, w8.frozen? ⟨w.heap.size + 1, j, none⟩ = false := fun j => by simp [World.frozen?, ho8]
    simp [e4, hx8'.c0, hx8'.c1, hx8'.c2, hx8'.c3, hx8'.c4, hx8'.c5, hx8'.c6, y0 0 _ rfl, y0 1 _ rfl, y0 2 _ rfl, y0 3 _ rfl, y0 4 _ rfl, y0 5 _ rfl, y0 6 _ rfl, yf, cell_setCell]
    have hM18 : Mod (fun k => k = Rq ∨ k = Rw ∨ k = slB v) w w8 := (hE1.trans hE9).mod.trans ((hMW.weaken fun k hk => by rcases hk with hk | hk; exact .inl hk; exact .inr (.inr hk)).trans (hd.mod.trans (hM14.weaken fun k hk => .inr (.inl hk))))
    have hmq8 := (hmM.ext hd).mod hM14 (fun e => h.rq e.symm)
    have ho8' : WOwn w8 v' (qof (mdel s n) (quOf x)) := own_keep (own_ext hoW hd) fun _ hlt => hM14.blk _ hlt (by rw [hb11]; exact Xw')
    obtain ⟨g1, g2, g3⟩ := h.drop hx hg hM'e hmq8 hm14 ho8' hb11 hM18
    have hS : Mod (fun k => k = w.heap.size + 1) w8 (((((((w8.setCell ⟨(w.heap.size + 1), 0, none⟩ (u32 x.1.1)).setCell ⟨(w.heap.size + 1), 1, none⟩ (u32 x.1.2.1)).setCell ⟨(w.heap.size + 1), 2, none⟩ (u64 x.1.2.2.1)).setCell ⟨(w.heap.size + 1), 3, none⟩ (u32 x.1.2.2.2)).setCell ⟨(w.heap.size + 1), 4, none⟩ (u32 x.2.1)).setCell ⟨(w.heap.size + 1), 5, none⟩ (i64 x.2.2.1)).setCell ⟨(w.heap.size + 1), 6, none⟩ (i64 x.2.2.2)) := (((((((Mod.refl _ w8).setC 0 (u32 x.1.1)).setC 1 (u32 x.1.2.1)).setC 2 (u64 x.1.2.2.1)).setC 3 (u32 x.1.2.2.2)).setC 4 (u32 x.2.1)).setC 5 (i64 x.2.2.1)).setC 6 (i64 x.2.2.2)
    refine ⟨M', g1.mod hS fun k hk e => ?_, g2.trans' hS fun k hk => .inr (by omega), g3⟩
    have := hlt k (g3 k hk)
    omega
end Go.Proofs
