/-
  Contracts of the functions that the law reaches, step by step.
-/
import Derived.Test.YtfppepjaopbanaaRkG
namespace Go.Proofs
open Pk
set_option maxRecDepth 10000
theorem mclone_c {w : World} {r : Nat} {N : MN} (h : MapAt nmV quV w r N) : FN Try.prog 33 [.map (some r)] w fun e w' => ∃ r', e = .returned (.map (some r')) ∧ MapAt nmV quV w' r' N ∧ Ext w w' ∧ w.heap.size ≤ r' := by
  refine FN_enter Try.func33 rfl rfl (by kernel_rfl) ?_
  obtain ⟨o, h1, h2, h3⟩ := h.clone (P := Try.prog)
  simp
  refine FN_extern (e := Extern.MapsClone.clone) Try.func59 rfl (by kernel_rfl) (by kernel_rfl) (by kernel_rfl) (h2 68) ?_
  simp [Instr.typeAssert]
  exact ⟨h3, (Ext.refl w).alloc _⟩
theorem seen_fresh {κ ν : Type} [DecidableEq κ] {M : List (κ × ν)} (hn : (M.map (·.1)).Nodup) {idxs : List Nat} {i : Nat} {p : κ × ν} (hp : M[i]? = some p) (hi : i ∉ idxs) : mget (seenOf M idxs) p.1 = none := by
  cases hg : mget (seenOf M idxs) p.1 with
  | none => rfl
  | some z =>
    exfalso
    have hm := kget_mem hg
    unfold seenOf at hm
    obtain ⟨j, hj, hjm⟩ := List.mem_filterMap.1 hm
    have h1 : (M.map (·.1))[i]? = some p.1 := by simp [hp]
    have h2 : (M.map (·.1))[j]? = some p.1 := by simp [hjm]
    obtain ⟨a1, a2⟩ := List.getElem?_eq_some_iff.1 h1
    obtain ⟨b1, b2⟩ := List.getElem?_eq_some_iff.1 h2
    have := (List.getElem_inj (h₀ := a1) (h₁ := b1) hn).1 (a2.trans b2.symm)
    exact hi (this ▸ hj)
theorem seen_nodup {κ ν : Type} [DecidableEq κ] {M : List (κ × ν)} (hn : (M.map (·.1)).Nodup) {idxs : List Nat} (h : idxs.Perm (List.range M.length)) (k : κ) : mget (seenOf M idxs) k = mget M k := by
  have hp := seenOf_all h
  have hn' : ((seenOf M idxs).map (·.1)).Nodup := (hp.map _).nodup_iff.2 hn
  cases hg : mget M k with
  | none =>
    cases hg' : mget (seenOf M idxs) k with
    | none => rfl
    | some v =>
      have := (kget_iff hn).2 (hp.mem_iff.1 (kget_mem hg'))
      rw [hg] at this; cases this
  | some v => exact (kget_iff hn').2 (hp.mem_iff.2 (kget_mem hg))
/-- A copy under way: what has been gone over. -/
structure Cp (w : World) (base c Rq : Nat) (M M' : MQ) (idxs : List Nat) : Prop where
  mq : MapAt quV ewQ w Rq M'
  row : ∀ x ∈ M', WOwn w x.2.1 x.2.2
  nn : ∀ x ∈ M', x.2.2 ≠ []
  blk : (M'.map fun x => slB x.2.1).Nodup
  ge : ∀ x ∈ M', base ≤ slB x.2.1
  qs : ∀ q, (mget M' q).map (·.2) = (mget (seenOf M idxs) q).map (·.2)
theorem Cp.mod {w w' : World} {base c Rq : Nat} {M M' : MQ} {idxs : List Nat} {S : Nat → Prop} (h : Cp w base c Rq M M' idxs) (hM : Mod S w w') (h1 : ¬ S Rq) (h2 : ∀ x ∈ M', ¬ S (slB x.2.1)) : Cp w' base c Rq M M' idxs :=
  ⟨h.mq.mod hM h1, fun x hx => own_keep (h.row x hx) fun _ hlt => hM.blk _ hlt (h2 x hx), h.nn, h.blk, h.ge, h.qs⟩
theorem Cp.ext {w w' : World} {base c Rq : Nat} {M M' : MQ} {idxs : List Nat} (h : Cp w base c Rq M M' idxs) (hE : Ext w w') : Cp w' base c Rq M M' idxs := h.mod (S := fun _ => False) hE.mod id fun _ _ => id
theorem Cp.lt {w : World} {base c Rq : Nat} {M M' : MQ} {idxs : List Nat} (h : Cp w base c Rq M M' idxs) : ∀ x ∈ M', slB x.2.1 < w.heap.size := fun x hx => by
  obtain ⟨c, hc⟩ := own_obj (h.row x hx) (own_nil (h.row x hx) (List.length_pos_iff.2 (h.nn x hx)))
  exact (Array.getElem?_eq_some_iff.1 hc).1
theorem Cp.ne {w : World} {base c Rq : Nat} {M M' : MQ} {idxs : List Nat} (h : Cp w base c Rq M M' idxs) : ∀ x ∈ M', slB x.2.1 ≠ Rq := fun x hx e => by
  obtain ⟨c, hc⟩ := own_obj (h.row x hx) (own_nil (h.row x hx) (List.length_pos_iff.2 (h.nn x hx)))
  obtain ⟨⟨es, c, h1, _⟩, _⟩ := h.mq
  rw [e, h1] at hc; cases hc
theorem Cp.step {w w' : World} {base c Rq : Nat} {M M' : MQ} {idxs : List Nat} {i : Nat} {q : Qu} {v v' : Value} {r : List Wt} (h : Cp w base c Rq M M' idxs) (hn : (M.map (·.1)).Nodup) (hp : M[i]? = some (q, (v, r))) (hi : i ∉ idxs) (hr : r ≠ [])
    (ho : WOwn w v' r) (hb : base ≤ slB v') (hnew : ∀ x ∈ M', slB x.2.1 < slB v') (hm : MapAt quV ewQ w' Rq (mset M' q (v', r))) (hM : Mod (· = Rq) w w') (hv : slB v' ≠ Rq) : Cp w' base c Rq M (mset M' q (v', r)) (idxs ++ [i]) := by
  have hf := seen_fresh hn hp hi
  have hg : mget M' q = none := by
    have := h.qs q
    simp only at hf
    rw [hf] at this
    simpa using this
  refine ⟨hm, ?_, ?_, ?_, ?_, ?_⟩
  · intro x hx
    rcases kset_mem hx with rfl | ⟨hx, _⟩
    · exact own_keep ho fun _ hlt => hM.blk _ hlt hv
    · exact own_keep (h.row x hx) fun _ hlt => hM.blk _ hlt (h.ne x hx)
  · intro x hx
    rcases kset_mem hx with rfl | ⟨hx, _⟩
    · exact hr
    · exact h.nn x hx
  · refine nodup_mset h.mq.nodup _ h.blk _ _ fun x hx _ => ?_
    have := hnew x hx
    simp only; omega
  · intro x hx
    rcases kset_mem hx with rfl | ⟨hx, _⟩
    · exact hb
    · exact h.ge x hx
  · intro z
    rw [kget_mset, seenOf_snoc hp, kget_append _ _ _ _ hf]
    by_cases hz : z = q
    · rw [if_pos hz, if_pos hz]; rfl
    · rw [if_neg hz, if_neg hz]; exact h.qs z
theorem Cp.line {w : World} {base l c Rq Rw Rq' Rw' : Nat} {M M' : MQ} {N : MN} {s : List Wt} {most : Int} {idxs : List Nat} {w0 : World} (h : Cp w base c Rq' M M' idxs) (hl : LineAt w0 l Rq Rw M N s most) (hp : idxs.Perm (List.range M.length))
    (c0 : w.cell? ⟨c, 0, none⟩ = some (i64 most)) (c1 : w.cell? ⟨c, 1, none⟩ = some (.map (some Rq'))) (c2 : w.cell? ⟨c, 2, none⟩ = some (.map (some Rw'))) (hw : MapAt nmV quV w Rw' N) (hc : c < base) (hr : Rw' ≠ Rq') : LineAt w c Rq' Rw' M' N s most := by
  refine ⟨c0, c1, c2, h.mq, hw, h.row, h.nn, h.blk, fun x hx e => ?_, hr, fun q => ?_, hl.ws, hl.nd, hl.len⟩
  · have := h.ge x hx; omega
  · rw [h.qs q, seen_nodup hl.mq.nodup hp]
    exact hl.qs q
set_option maxHeartbeats 1000000 in
theorem copy_c {w : World} {l Rq Rw : Nat} {M : MQ} {N : MN} {s : List Wt} {most : Int} (h : LineAt w l Rq Rw M N s most) (hbd : s.length ≤ 1048575) :
    FN Try.prog 9 [ptr l] w fun e w' => ∃ c Rq' Rw' M', e = .returned (ptr c) ∧ LineAt w' c Rq' Rw' M' N s most ∧ Ext w w' ∧ ∀ k, Foot c Rq' Rw' M' k → w.heap.size ≤ k := by
  refine FN_enter Try.func9 rfl rfl (by kernel_rfl) ?_
  simp
  refine FN.mono (none_c h) ?_
  rintro _ w1 ⟨rfl, hw⟩
  rw [hw]
  simp
  refine with_tail (T := ∀ (σ : Env) (W : World) (c Rq' Rw' ib : Nat), (σ 3 = ptr c ∧ σ 24 = ptr ib) → (W.cell? ⟨c, 0, none⟩ = some (i64 most) ∧ W.cell? ⟨c, 1, none⟩ = some (.map (some Rq')) ∧ W.cell? ⟨c, 2, none⟩ = some (.map (some Rw')) ∧ MapAt nmV quV W Rw' N ∧ MapAt quV ewQ W Rq' ([] : MQ) ∧ MIter quV ewQ W ib Rq M [] ∧
      Ext w W ∧ (w.heap.size ≤ c ∧ w.heap.size ≤ Rq' ∧ w.heap.size ≤ Rw') ∧ Rw' ≠ Rq' ∧ ib ≠ Rq' ∧ ib ≠ Rw' ∧ c ≠ Rq' ∧ c < W.heap.size ∧ w.heap.size ≤ ib ∧ c ≠ ib) → WC Try.prog 38 none ?cA ?QA σ [] W) (fun tail => ?_) ?_
  rotate_left 2
  · refine WC_drawC 10 (.F 0 <| .F 1 <| .F 2 <| .F 3 <| .F 5 <| .F 6 <| .F 7 <| .F 8 <| .E 4 (.C 9 <| .Z) (.E 9 (.C 4 <| .Z) .Z)) (fun _ => false) rfl (by kernel_rfl) fun W hW => ?_
    have hWE : Ext w W := hW ▸ Ext.drew w
    have h1 := h.ext hWE
    simp [h1.c0, h1.c2]
    refine RT_alt ?_ ?_
    · simp
      have hE1 := (Ext.refl W).alloc (.map #[] 0)
      have m1 := MapAt.alloc0 quV ewQ W
      have hWs := hWE.size
      have z1 : (W.alloc (.map #[] 0)).heap.size = W.heap.size + 1 := by simp
      refine KR_ext hE1 ?_
      simp
      generalize (W.alloc (.map #[] 0)) = W1 at *
      refine FN.mono (mclone_c (h1.ext hE1).mw) ?_
      rintro _ W2 ⟨r', rfl, m2, hE2, hr'⟩
      simp
      refine KR_ext hE2 ?_
      have h2 := h1.ext (hE1.trans hE2)
      have hE3 : Ext W2 (W2.alloc (.cells #[i64 most, .map (some W.heap.size), .map (some r')] 70)) := (Ext.refl W2).alloc _
      obtain ⟨o, hr, hi⟩ := (h2.ext hE3).mq.range (P := Try.prog) tmq
      have hE4 := (Ext.refl (W2.alloc (.cells #[i64 most, .map (some W.heap.size), .map (some r')] 70))).alloc o
      have k0 : (W2.alloc (.cells #[i64 most, .map (some W.heap.size), .map (some r')] 70)).cell? ⟨W2.heap.size, 0, none⟩ = some (i64 most) := by simp
      have k1 : (W2.alloc (.cells #[i64 most, .map (some W.heap.size), .map (some r')] 70)).cell? ⟨W2.heap.size, 1, none⟩ = some (.map (some W.heap.size)) := by simp
      have k2 : (W2.alloc (.cells #[i64 most, .map (some W.heap.size), .map (some r')] 70)).cell? ⟨W2.heap.size, 2, none⟩ = some (.map (some r')) := by simp
      have z3 : (W2.alloc (.cells #[i64 most, .map (some W.heap.size), .map (some r')] 70)).heap.size = W2.heap.size + 1 := by simp
      simp [h2.c1, hr]
      generalize (W2.alloc (.cells #[i64 most, .map (some W.heap.size), .map (some r')] 70)) = W3 at *
      have z4 : (W3.alloc o).heap.size = W3.heap.size + 1 := by simp
      rw [z3] at hi
      have hs1 := hE1.size
      have hs2 := hE2.size
      have hrl := m2.lt
      refine tail _ _ W2.heap.size W.heap.size r' (W2.heap.size + 1) ?_ ?_
      · simp
      · exact ⟨hE4.cell_eq k0, hE4.cell_eq k1, hE4.cell_eq k2, m2.ext (hE3.trans hE4), m1.ext (hE2.trans (hE3.trans hE4)), hi, ((hWE.trans (hE1.trans hE2)).trans hE3).trans hE4, ⟨by omega, by omega, by omega⟩, by omega, by omega, by omega, by omega, by omega, by omega, by omega⟩
    · simp
      have hWs := hWE.size
      refine FN.mono (mclone_c h1.mw) ?_
      rintro _ W1 ⟨r', rfl, m2, hE2, hr'⟩
      simp
      refine KR_ext hE2 ?_
      simp
      have hE1 : Ext W1 (W1.alloc (.map #[] 0)) := (Ext.refl W1).alloc _
      have m1 := MapAt.alloc0 quV ewQ W1
      have z1 : (W1.alloc (.map #[] 0)).heap.size = W1.heap.size + 1 := by simp
      have hrl1 := m2.lt
      refine KR_ext hE1 ?_
      obtain ⟨W2, hW2⟩ : ∃ W2, W2 = W1.alloc (.map #[] 0) := ⟨_, rfl⟩
      rw [← hW2] at hE1 m1 z1 ⊢
      have hWE2 := hWE
      have h2 := h1.ext (hE2.trans hE1)
      have hE3 : Ext W2 (W2.alloc (.cells #[i64 most, .map (some W1.heap.size), .map (some r')] 70)) := (Ext.refl W2).alloc _
      obtain ⟨o, hr, hi⟩ := (h2.ext hE3).mq.range (P := Try.prog) tmq
      have hE4 := (Ext.refl (W2.alloc (.cells #[i64 most, .map (some W1.heap.size), .map (some r')] 70))).alloc o
      have k0 : (W2.alloc (.cells #[i64 most, .map (some W1.heap.size), .map (some r')] 70)).cell? ⟨W2.heap.size, 0, none⟩ = some (i64 most) := by simp
      have k1 : (W2.alloc (.cells #[i64 most, .map (some W1.heap.size), .map (some r')] 70)).cell? ⟨W2.heap.size, 1, none⟩ = some (.map (some W1.heap.size)) := by simp
      have k2 : (W2.alloc (.cells #[i64 most, .map (some W1.heap.size), .map (some r')] 70)).cell? ⟨W2.heap.size, 2, none⟩ = some (.map (some r')) := by simp
      have z3 : (W2.alloc (.cells #[i64 most, .map (some W1.heap.size), .map (some r')] 70)).heap.size = W2.heap.size + 1 := by simp
      simp [h2.c1, hr]
      generalize (W2.alloc (.cells #[i64 most, .map (some W1.heap.size), .map (some r')] 70)) = W3 at *
      have z4 : (W3.alloc o).heap.size = W3.heap.size + 1 := by simp
      rw [z3] at hi
      have hs1 := hE1.size
      have hs2 := hE2.size
      have hrl := m2.lt
      refine tail _ _ W2.heap.size W1.heap.size r' (W2.heap.size + 1) ?_ ?_
      · simp
      · exact ⟨hE4.cell_eq k0, hE4.cell_eq k1, hE4.cell_eq k2, m2.ext (hE1.trans (hE3.trans hE4)), m1.ext (hE3.trans hE4), hi, ((hWE.trans (hE2.trans hE1)).trans hE3).trans hE4, ⟨by omega, by omega, by omega⟩, by omega, by omega, by omega, by omega, by omega, by omega, by omega⟩
  · rintro σ W c Rq' Rw' ib ⟨e3, e24⟩ ⟨c0, c1, c2, mw, mq, hi, hE, ⟨g1, g2, g3⟩, hr, n1, n2, n3, hcl, g4, n4⟩
    have hlt := h.lt
    have hlr := hlt Rq (.inr (.inl rfl))
    refine WC_loop (fun k ρ ds w' => ∃ (idxs : List Nat) (M' : MQ), k + idxs.length = M.length ∧ ρ 3 = ptr c ∧ ρ 24 = ptr ib ∧ ds = [] ∧ MIter quV ewQ w' ib Rq M idxs ∧ Cp w' W.heap.size c Rq' M M' idxs ∧ Mod (fun k => k = ib ∨ k = Rq') W w') M.length
      ⟨[], [], by simp, e3, e24, rfl, hi, ⟨mq, by simp, by simp, by simp, by simp, fun q => by simp [seenOf, kget_nil]⟩, Mod.refl _ _⟩ ?_
    rintro k ρ ds w2 ⟨idxs, M', hk, e3, e24, rfl, hI, hC, hM⟩
    have hEw : Ext w w2 := ((hE.mod (S := fun k => w.heap.size ≤ k)).trans (hM.weaken fun k hk => by rcases hk with rfl | rfl <;> assumption)).ext fun _ h => h
    have h2 := h.ext hEw
    have nn : ∀ k, k ≠ ib → k ≠ Rq' → ¬ (k = ib ∨ k = Rq') := fun k a b e => by rcases e with e | e; exact a e; exact b e
    rcases hI.next (P := Try.prog) 0 with ⟨hp, hrun⟩ | ⟨i, p, w3, hpi, hni, hrun, hI3, hM3, hent, hs3⟩
    · simp [e3, e24, hrun]
      have hL := hC.line h2 hp (hM.cell c0 (nn _ n4 n3)) (hM.cell c1 (nn _ n4 n3)) (hM.cell c2 (nn _ n4 n3)) (mw.mod hM (nn _ n2.symm hr)) hcl hr
      refine ⟨_, _, _, hL, hEw, ?_⟩
      rintro k (rfl | rfl | rfl | ⟨x, hx, rfl⟩)
      · exact g1
      · exact g2
      · exact g3
      · exact Nat.le_trans hE.size (hC.ge x hx)
    · obtain ⟨q, v, r⟩ := p
      have hpm := List.mem_of_getElem? hpi
      have hne : r ≠ [] := h.nn _ hpm
      have hle : r.length ≤ s.length := by
        have := (h.hasQ (v := v) (r := r) ((kget_iff h.mq.nodup).2 hpm)).1
        rw [this]; exact qof_len s q
      have hq : quV (q, (v, r)).1 = .agg #[u32 q.1, i64 q.2] := rfl
      simp [ewQ] at hrun hent
      simp [e24, hrun, hent]
      have hb3 : ∀ x ∈ M', ¬ (slB x.2.1 = ib) := fun x hx e => by
        obtain ⟨a, b, c', d, hob⟩ := hI.obj
        obtain ⟨c'', hc''⟩ := own_obj (hC.row x hx) (own_nil (hC.row x hx) (List.length_pos_iff.2 (hC.nn x hx)))
        rw [e, hob] at hc''; cases hc''
      have hC3 := hC.mod hM3 n1.symm hb3
      have hE4 := (Ext.refl w3).alloc (.cells #[u32 q.1, i64 q.2] 80)
      have q0 : (w3.alloc (.cells #[u32 q.1, i64 q.2] 80)).cell? ⟨w3.heap.size, 0, none⟩ = some (u32 q.1) := by simp
      have q1 : (w3.alloc (.cells #[u32 q.1, i64 q.2] 80)).cell? ⟨w3.heap.size, 1, none⟩ = some (i64 q.2) := by simp
      have hM2 := hM.trans (hM3.weaken fun k hk => .inl hk)
      have z4 : (w3.alloc (.cells #[u32 q.1, i64 q.2] 80)).heap.size = w3.heap.size + 1 := by simp
      generalize (w3.alloc (.cells #[u32 q.1, i64 q.2] 80)) = w4 at *
      refine WC_drawC 7 (.F 0 <| .F 1 <| .F 2 <| .F 3 <| .F 4 <| .F 5 <| .C 6 <| .Z) (fun _ => false) rfl (by kernel_rfl) fun W5 hW5 => ?_
      have hWE5 : Ext w4 W5 := hW5 ▸ Ext.drew w4
      have hE45 := hE4.trans hWE5
      have hM5 := hM2.trans hE45.mod
      have k1 := hM5.cell c1 (nn _ n4 n3)
      have hEw5 : Ext w W5 := ((hE.mod (S := fun k => w.heap.size ≤ k)).trans (hM5.weaken fun k hk => by rcases hk with rfl | rfl <;> assumption)).ext fun _ h => h
      have hrow := (h.ext hEw5).row _ hpm
      simp [e3, k1, hWE5.cell_eq q0, hWE5.cell_eq q1]
      refine FN.mono (clone_c (sl_of_own hrow) ((h.ext hEw5).nil _ hpm) hne (by simp only; omega)) ?_
      rintro _ w6 ⟨v', rfl, ho6, hE6, hn6⟩
      simp
      refine KR_ext hE6 ?_
      have hC6 := (hC3.ext hE45).ext hE6
      obtain ⟨w7, hr7, hm7, hM7, hs7⟩ := hC6.mq.update (P := Try.prog) kQueue tmq q (v', r)
      simp [ewQ] at hr7
      simp [hr7, e3, e24]
      have hge := own_ge ho6 hn6
      have hC5l := (hC3.ext hE45).lt
      have hIlt := hI3.lt
      have s1 := hM2.size
      have s2 := hE45.size
      have hC7 := hC6.step h.mq.nodup hpi hni hne (own_lower ho6 (Nat.zero_le _)) (by omega) (fun x hx => by have := hC5l x hx; omega) hm7 hM7 (by have := hC6.mq.lt; have := (hC3.ext hE45).mq.lt; omega)
      have hi7 := (hI3.mod (S := fun _ => False) (hE45.trans hE6).mod id id).mod hM7 (by omega) n1
      have hbd := VIter.bound (v := .map (some Rq)) (.inl ⟨Rq, rfl, hi7⟩)
      simp at hbd
      exact ⟨k - 1, by omega, idxs ++ [i], by simp; omega, hi7, ⟨_, hC7⟩, hM5.trans (hE6.mod.trans (hM7.weaken fun k hk => .inr hk))⟩
end Go.Proofs
