/-
  Contracts of the functions that the law reaches, step by step.
-/
import Derived.Test.YtfppepjaopbanaaRkH
namespace Go.Proofs
open Pk
set_option maxRecDepth 10000
theorem nodup_sub_len {α : Type} [DecidableEq α] : ∀ (A B : List α), A.Nodup → (∀ x ∈ A, x ∈ B) → A.length ≤ B.length
  | [], _, _, _ => by simp
  | a :: A, B, hn, h => by
    have ha := h a (by simp)
    obtain ⟨h1, h2⟩ := List.nodup_cons.1 hn
    have := nodup_sub_len A (B.erase a) h2 fun x hx => (List.mem_erase_of_ne (by rintro rfl; exact h1 hx)).2 (h x (by simp [hx]))
    rw [List.length_erase_of_mem ha] at this
    have := List.length_pos_of_mem ha
    simp only [List.length_cons]
    omega
theorem LineAt.keys {w : World} {l Rq Rw : Nat} {M : MQ} {N : MN} {s : List Wt} {most : Int} (h : LineAt w l Rq Rw M N s most) (q : Qu) : q ∈ M.map (·.1) ↔ qof s q ≠ [] := by
  constructor
  · intro hq
    obtain ⟨x, hx, rfl⟩ := List.mem_map.1 hq
    exact (h.hasQ (v := x.2.1) (r := x.2.2) ((kget_iff h.mq.nodup).2 hx)).2
  · intro hq
    obtain ⟨v, hv⟩ := h.get hq
    exact List.mem_map.2 ⟨_, kget_mem hv, rfl⟩
theorem LineAt.len_eq {w w' : World} {l Rq Rw l' Rq' Rw' : Nat} {M M' : MQ} {N N' : MN} {s : List Wt} {most most' : Int} (h : LineAt w l Rq Rw M N s most) (h' : LineAt w' l' Rq' Rw' M' N' s most') : M.length = M'.length := by
  have h1 := nodup_sub_len (M.map (·.1)) (M'.map (·.1)) h.mq.nodup fun x hx => (h'.keys x).2 ((h.keys x).1 hx)
  have h2 := nodup_sub_len (M'.map (·.1)) (M.map (·.1)) h'.mq.nodup fun x hx => (h.keys x).2 ((h'.keys x).1 hx)
  simp at h1 h2
  omega
theorem equalF_c {w : World} {l Rq Rw l' Rq' Rw' : Nat} {M M' : MQ} {N N' : MN} {s : List Wt} {most most' : Int} (h : LineAt w l Rq Rw M N s most) (h' : LineAt w l' Rq' Rw' M' N' s most') (hbd : s.length ≤ 1048575) :
    FN Try.prog 37 [.map (some Rq), .map (some Rq'), .func (.func 38) #[] #[]] w fun e w' => e = .returned (.bool true) ∧ Ext w w' := by
  refine FN_enter Try.func37 rfl rfl (by kernel_rfl) ?_
  have l1 := fun ty => h.mq.len (P := Try.prog) (T := 67) (by simp) ty
  have l2 := fun ty => h'.mq.len (P := Try.prog) (T := 67) (by simp) ty
  rw [← h.len_eq h'] at l2
  obtain ⟨o, hr, hi⟩ := h.mq.range (P := Try.prog) tmq
  simp [l1, l2, hr]
  have hE1 := (Ext.refl w).alloc o
  have z1 : (w.alloc o).heap.size = w.heap.size + 1 := by simp
  have hlt := h.lt
  have hlr := hlt Rq (.inr (.inl rfl))
  have hrl := h'.lt Rq' (.inr (.inl rfl))
  refine WC_loop (fun k ρ ds w' => ∃ (idxs : List Nat), k + idxs.length = M.length ∧ ρ 1 = .map (some Rq') ∧ ρ 2 = .func (.func 38) #[] #[] ∧ ρ 17 = ptr w.heap.size ∧ ds = [] ∧ MIter quV ewQ w' w.heap.size Rq M idxs ∧ Ext w w') M.length
    ⟨[], by simp, by simp, by simp, by simp, rfl, hi, hE1⟩ ?_
  rintro k ρ ds w2 ⟨idxs, hk, e1, e2, e17, rfl, hI, hE⟩
  rcases hI.next (P := Try.prog) 0 with ⟨hp, hrun⟩ | ⟨i, p, w3, hpi, hni, hrun, hI3, hM3, hent, hs3⟩
  · simp [e17, hrun]
    exact hE
  · obtain ⟨q, v, r⟩ := p
    have hpm := List.mem_of_getElem? hpi
    have hE3 : Ext w w3 := ((hE.mod (S := fun k => w.heap.size ≤ k)).trans (hM3.weaken fun k hk => by omega)).ext fun _ h => h
    have hgq := (kget_iff h.mq.nodup).2 hpm
    have hq := h.hasQ (v := v) (r := r) hgq
    obtain ⟨v', hv'⟩ := h'.get hq.2
    have hlk := (h'.ext hE3).mq.lookup kQueue tmq (zSl w3) q true
    rw [hv'] at hlk
    simp [ewQ] at hrun hent hlk
    have hE4 := hE3.alloc (.cells #[u32 q.1, i64 q.2] 80)
    have hlk4 := (h'.ext hE4).mq.lookup kQueue tmq (zSl _) q true
    rw [hv'] at hlk4
    simp [ewQ] at hlk4
    have hi4 := hI3.mod (S := fun _ => False) ((Ext.refl w3).alloc (.cells #[u32 q.1, i64 q.2] 80)).mod id id
    simp [e1, e2, e17, hrun, hent, hlk4]
    have hrow := (h.ext hE4).row _ hpm
    rw [hq.1] at hrow
    have hrow' := (h'.ext hE4).row _ (kget_mem hv')
    have hql := qof_len s q
    refine FN.mono (equal_c (sl_of_own hrow) (sl_of_own hrow') (by simp only; omega) (by simp only; omega)) ?_
    rintro _ w6 ⟨rfl, hE6⟩
    simp [e1, e2, e17]
    have hi6 := hi4.mod (S := fun _ => False) hE6.mod id id
    have hbd := VIter.bound (v := .map (some Rq)) (.inl ⟨Rq, rfl, hi6⟩)
    simp at hbd
    exact ⟨k - 1, by omega, idxs ++ [i], by simp; omega, hi6, hE4.trans hE6⟩
theorem fBound : flatA Try.prog 66 = some [.int .i64] := by kernel_rfl
theorem eqB (a b : Int) (w : World) : (binOp .eql 66 (.agg #[.int .i64 a]) (.agg #[.int .i64 b])).run Try.prog w = .ok (.bool (decide (a = b))) w := by
  have := run_eql_flat w fBound #[.int .i64 a] #[.int .i64 b] rfl rfl
  rw [this]
  simp [eqcs, eqInt]
theorem same_c {w : World} {l Rq Rw l' Rq' Rw' : Nat} {M M' : MQ} {N N' : MN} {s : List Wt} {most : Int} (h : LineAt w l Rq Rw M N s most) (h' : LineAt w l' Rq' Rw' M' N' s most) (hbd : s.length ≤ 1048575) :
    FN Try.prog 11 [ptr l, ptr l'] w fun e w' => e = .returned (.bool true) ∧ Ext w w' := by
  refine FN_enter Try.func11 rfl rfl (by kernel_rfl) ?_
  simp
  refine FN.mono (none_c h) ?_
  rintro _ w1 ⟨rfl, hw⟩
  rw [hw]
  simp
  refine FN.mono (none_c h') ?_
  rintro _ w2 ⟨rfl, hw⟩
  rw [hw]
  simp
  refine WC_drawQ 18 rfl (by kernel_rfl) ?_
  have hd := Ext.drew w
  have g := h.ext hd
  have g' := h'.ext hd
  simp [g.c0, g.c1, g'.c0, g'.c1, eqB]
  refine FN.mono (equalF_c g g' hbd) ?_
  rintro _ w3 ⟨rfl, hE⟩
  simp
  exact hd.trans hE
end Go.Proofs
