/-
  Contracts of the functions that the law reaches, step by step.
-/
import Derived.Test.YtfppepjaopbanaaRkP
namespace Go.Proofs
open Pk
set_option maxRecDepth 10000
/-- What has been put, and the row of it: apart. -/
structure Putting (wb W : World) (l : Nat) (pv : Value) (s : List Wt) (most : Int) : Prop where
  ex : ∃ Rq Rw M N, LineAt W l Rq Rw M N s most ∧ (∀ k, Foot l Rq Rw M k → wb.heap.size ≤ k) ∧ (slN pv = false → ¬ Foot l Rq Rw M (slB pv))
  row : W.ownsRow wb.heap.size 30 7 pv s.length (s.flatMap wtC)
  ext : Ext wb W
theorem Putting.ext' {wb W W' : World} {l : Nat} {pv : Value} {s : List Wt} {most : Int} (h : Putting wb W l pv s most) (hE : Ext W W') : Putting wb W' l pv s most := by
  obtain ⟨⟨Rq, Rw, M, N, h1, h2, h3⟩, h4, h5⟩ := h
  exact ⟨⟨Rq, Rw, M, N, h1.ext hE, h2, h3⟩, own_ext h4 hE, h5.trans hE⟩
/-- Putting, ahead of the row. -/
structure PutMid (wb W : World) (l : Nat) (pv : Value) (s t : List Wt) (most : Int) : Prop where
  ex : ∃ Rq Rw M N, LineAt W l Rq Rw M N t most ∧ (∀ k, Foot l Rq Rw M k → wb.heap.size ≤ k) ∧ (slN pv = false → ¬ Foot l Rq Rw M (slB pv))
  row : W.ownsRow wb.heap.size 30 7 pv s.length (s.flatMap wtC)
  ext : Ext wb W
theorem PutMid.ext' {wb W W' : World} {l : Nat} {pv : Value} {s t : List Wt} {most : Int} (h : PutMid wb W l pv s t most) (hE : Ext W W') : PutMid wb W' l pv s t most := by
  obtain ⟨⟨Rq, Rw, M, N, h1, h2, h3⟩, h4, h5⟩ := h
  exact ⟨⟨Rq, Rw, M, N, h1.ext hE, h2, h3⟩, own_ext h4 hE, h5.trans hE⟩
theorem Putting.put {wb W0 W : World} {l : Nat} {pv : Value} {s : List Wt} {most : Int} (h0 : Putting wb W0 l pv s most) (hE : Ext W0 W) (hbd : s.length ≤ 1048575) (x : Wt) :
    FN Try.prog 8 [ptr l, wtV x] W fun e W' => e = .returned (i64 (putE s most x)) ∧ PutMid wb W' l pv s (if putE s most x = 0 then s ++ [x] else s) most ∧ Mod (fun k => k < W0.heap.size) W W' := by
  obtain ⟨⟨Rq, Rw, M, N, h1, h2, h3⟩, h4, h5⟩ := h0
  have hl0 := h1.lt
  replace h1 := h1.ext hE
  replace h4 := own_ext h4 hE
  replace h5 := h5.trans hE
  refine FN.mono (put_c h1 hbd x) ?_
  rintro _ W' ⟨rfl, M', N', g1, g2, g3⟩
  have hlt : slN pv = false → slB pv < W.heap.size := fun hn => by
    obtain ⟨c, hc⟩ := own_obj h4 hn
    exact (Array.getElem?_eq_some_iff.1 hc).1
  refine ⟨rfl, ⟨⟨Rq, Rw, M', N', g1, fun k hk => (g3 k hk).elim (h2 k) fun hk => Nat.le_trans h5.size hk, fun hn hk => ?_⟩, own_keep h4 fun hn hl => g2.blk _ hl (h3 hn), ((h5.mod (S := fun k => wb.heap.size ≤ k)).trans (g2.weaken h2)).ext fun _ h => h⟩, g2.weaken hl0⟩
  rcases g3 _ hk with hk | hk
  · exact h3 hn hk
  · have := hlt hn; omega
theorem PutMid.app {wb W : World} {l : Nat} {pv v2 : Value} {s : List Wt} {x : Wt} {most : Int} (h : PutMid wb W l pv s (s ++ [x]) most) (hbd : s.length ≤ 1000) (h2 : WSl W v2 [x]) :
    ∃ v' W', (Builtin.append_ #[22, 22] 22 #[pv, v2]).run Try.prog W = .ok v' W' ∧ Putting wb W' l v' (s ++ [x]) most := by
  obtain ⟨⟨Rq, Rw, M, N, h1, g2, h3⟩, h4, h5⟩ := h
  obtain ⟨v', W', hr, ho, hM, hb⟩ := append_own (P := Try.prog) (t := 22) (ty := 22) (e := 30) (s := 7) (by simp) (by simp) (by kernel_rfl) h4 h2 (wone _) (by simp; omega) h5.size
  refine ⟨v', W', hr, ⟨Rq, Rw, M, N, h1.mod hM fun k hk ⟨hn, e⟩ => h3 hn (e ▸ hk), g2, fun hn hk => ?_⟩, ?_, ((h5.mod (S := fun k => wb.heap.size ≤ k)).trans (hM.weaken fun k hk => by have := own_ge h4 hk.1; omega)).ext fun _ h => h⟩
  · rcases hb hn with ⟨e1, e2⟩ | hb
    · exact h3 e1 (e2 ▸ hk)
    · have := h1.lt _ hk; omega
  · rw [List.length_append, List.flatMap_append]; exact ho
theorem PutMid.same {wb W : World} {l : Nat} {pv : Value} {s : List Wt} {most : Int} (h : PutMid wb W l pv s s most) : Putting wb W l pv s most := ⟨h.ex, h.row, h.ext⟩
theorem LineP.dropX {Pd : Nat → Prop} {wb W0 W : World} {l : Nat} {s : List Wt} {most : Int} (h : LineP Pd wb W0 l s most) (hE : Ext W0 W) (hbd : s.length ≤ 1048575) (n : Nm) :
    FN Try.prog 10 [ptr l, nmV n] W fun e W' => e = .returned (.tuple #[wtV (dropV s n), i64 (dropE s n)]) ∧ LineP Pd wb W' l (if dropE s n = 0 then mdel s n else s) most ∧ Mod (fun k => k < W0.heap.size) W W' := by
  obtain ⟨⟨Rq, Rw, M, N, h1, h2⟩, h3⟩ := h
  refine FN.mono (drop_c (h1.ext hE) hbd n) ?_
  rintro _ W' ⟨rfl, M', N', g1, g2, g3⟩
  exact ⟨rfl, ⟨⟨Rq, Rw, M', N', g1, fun k hk => h2 k (g3 k hk)⟩, (h3.trans hE.mod).trans (g2.weaken h2)⟩, g2.weaken h1.lt⟩
set_option maxHeartbeats 2000000 in
theorem RankHolds_c {w : World} {v : Value} {l : List Wt} (hl : WSlA w v l) (more : Wt) : FN Try.prog 3 [v, wtV more] w fun e w' => e = .returned (.bool true) ∧ Ext w w' := by
  refine FN_enter Try.func3 rfl rfl (by kernel_rfl) ?_
  have hE1 : Ext w (w.alloc (.cells #[u32 more.1.1, u32 more.1.2.1, u64 more.1.2.2.1, u32 more.1.2.2.2, u32 more.2.1, i64 more.2.2.1, i64 more.2.2.2] 30)) := (Ext.refl w).alloc _
  have hm1 : WtAt (w.alloc (.cells #[u32 more.1.1, u32 more.1.2.1, u64 more.1.2.2.1, u32 more.1.2.2.2, u32 more.2.1, i64 more.2.2.1, i64 more.2.2.2] 30)) w.heap.size more := WtAt.new w more 30
  have hsz : (w.alloc (.cells #[u32 more.1.1, u32 more.1.2.1, u64 more.1.2.2.1, u32 more.1.2.2.2, u32 more.2.1, i64 more.2.2.1, i64 more.2.2.2] 30)).heap.size = w.heap.size + 1 := by simp
  have hlen := fun ty W => hl.isLen (P := Try.prog) (t := 22) (by simp) ty W
  by_cases h40 : 40 < l.length
  · have hb : decide ((40 : Int) < (l.length : Int)) = true := by simp; omega
    simp [hlen, hb]
    generalize (w.alloc (.cells #[u32 more.1.1, u32 more.1.2.1, u64 more.1.2.2.1, u32 more.1.2.2.2, u32 more.2.1, i64 more.2.2.1, i64 more.2.2.2] 30)) = w1 at *
    refine FN.mono (works_c w1) ?_
    rintro _ w2 ⟨rfl, hE⟩
    simp
    exact hE1.trans hE
  · have hb : decide ((40 : Int) < (l.length : Int)) = false := by simp; omega
    simp [hlen, hb]
    generalize (w.alloc (.cells #[u32 more.1.1, u32 more.1.2.1, u64 more.1.2.2.1, u32 more.1.2.2.2, u32 more.2.1, i64 more.2.2.1, i64 more.2.2.2] 30)) = w1 at *
    have hl1 : WSlA w1 v l := SlA.ext hl hE1
    refine FN.mono (new_c 50 (by omega) (by omega) w1) ?_
    rintro _ w2 ⟨ln, Rq0, Rw0, rfl, ht, hE2, g1, g2, g3⟩
    have gF : ∀ k, Foot ln Rq0 Rw0 [] k → w1.heap.size ≤ k := by
      rintro k (rfl | rfl | rfl | ⟨x, hx, _⟩)
      · exact g1
      · exact g2
      · exact g3
      · cases hx
    have p2 : Putting w1 w2 ln (.slice none 0 0) [] 50 := ⟨⟨Rq0, Rw0, [], [], ht, gF, fun h => by cases h⟩, World.ownsRow_nil _ _ _ _, hE2⟩
    simp
    refine WC_loop (fun k ρ ds w' => ∃ (i : Nat) (pv : Value) (s : List Wt), k = l.length - i ∧ i ≤ l.length ∧ ρ 0 = v ∧ ρ 3 = ptr w.heap.size ∧ ρ 5 = ptr ln ∧ ρ 6 = i64 0 ∧ ρ 7 = pv ∧ ρ 8 = i64 i ∧ ds = [] ∧ Putting w1 w' ln pv s 50 ∧ Good s ∧ s.length ≤ i) l.length
      ⟨0, .slice none 0 0, [], by simp, by simp, by simp, by simp, by simp, by simp, by simp, by simp, rfl, p2, ⟨fun _ h => (by cases h), fun _ h => (by cases h), fun _ h => (by cases h)⟩, by simp⟩ ?_
    rintro k ρ ds w3 ⟨i, pv, s, rfl, hi, e0, e3, e5, e6, e7, e8, rfl, p3, hg, hsi⟩
    by_cases hli : i < l.length
    · have hq := List.getElem?_eq_getElem hli
      have r := RowAt.ext (WSlA.row hl1 hq) p3.ext
      have ix := WSlA.index hl1 i hli w3
      obtain ⟨y, hy⟩ : ∃ y, y = l[i] := ⟨_, rfl⟩
      rw [← hy] at r hq
      simp [e0, e5, e8, hlen, hli, ix, r.c0, r.c1, r.c2, r.c3, r.c4, r.c5, r.c6]
      have a3 : Ext w3 (w3.alloc (.cells #[u32 (y.1, 7, y.2.2).1.1, u32 (y.1, 7, y.2.2).1.2.1, u64 (y.1, 7, y.2.2).1.2.2.1, u32 (y.1, 7, y.2.2).1.2.2.2, u32 (y.1, 7, y.2.2).2.1, i64 (y.1, 7, y.2.2).2.2.1, i64 (y.1, 7, y.2.2).2.2.2] 30)) := (Ext.refl w3).alloc _
      have x3 : WtAt (w3.alloc (.cells #[u32 (y.1, 7, y.2.2).1.1, u32 (y.1, 7, y.2.2).1.2.1, u64 (y.1, 7, y.2.2).1.2.2.1, u32 (y.1, 7, y.2.2).1.2.2.2, u32 (y.1, 7, y.2.2).2.1, i64 (y.1, 7, y.2.2).2.2.1, i64 (y.1, 7, y.2.2).2.2.2] 30)) w3.heap.size (y.1, 7, y.2.2) := WtAt.new w3 (y.1, 7, y.2.2) 30
      simp only [] at a3 x3
      generalize (w3.alloc (.cells #[u32 (y.1, 7, y.2.2).1.1, u32 (y.1, 7, y.2.2).1.2.1, u64 (y.1, 7, y.2.2).1.2.2.1, u32 (y.1, 7, y.2.2).1.2.2.2, u32 (y.1, 7, y.2.2).2.1, i64 (y.1, 7, y.2.2).2.2.1, i64 (y.1, 7, y.2.2).2.2.2] 30)) = w4 at *
      refine FN.mono (Putting.put p3 a3 (by omega) (y.1, 7, y.2.2)) ?_
      rintro _ w5 ⟨rfl, p5, hM5⟩
      have x5 := x3.mod hM5 (by omega)
      simp
      refine FN.mono (num_c (putE s 50 (y.1, 7, y.2.2)) w5) ?_
      rintro _ _ ⟨rfl, hw⟩
      subst hw
      rename_i w5
      by_cases hp : putE s 50 (y.1, 7, y.2.2) = 0
      · rw [if_pos hp] at p5
        simp [hp, e7, x5.c0, x5.c1, x5.c2, x5.c3, x5.c4, x5.c5, x5.c6]
        have a5 : Ext w5 (w5.alloc (.cells #[u32 (y.1, 7, y.2.2).1.1, u32 (y.1, 7, y.2.2).1.2.1, u64 (y.1, 7, y.2.2).1.2.2.1, u32 (y.1, 7, y.2.2).1.2.2.2, u32 (y.1, 7, y.2.2).2.1, i64 (y.1, 7, y.2.2).2.2.1, i64 (y.1, 7, y.2.2).2.2.2] 30)) := (Ext.refl w5).alloc _
        have hsl : WSl (w5.alloc (.cells #[u32 (y.1, 7, y.2.2).1.1, u32 (y.1, 7, y.2.2).1.2.1, u64 (y.1, 7, y.2.2).1.2.2.1, u32 (y.1, 7, y.2.2).1.2.2.2, u32 (y.1, 7, y.2.2).2.1, i64 (y.1, 7, y.2.2).2.2.1, i64 (y.1, 7, y.2.2).2.2.2] 30)) (.slice (some ⟨w5.heap.size, 0, none⟩) 1 1) [(y.1, 7, y.2.2)] := Sl.made w5 (wtC (y.1, 7, y.2.2)) 30 7 1 rfl
        simp only [] at a5 hsl
        generalize (w5.alloc (.cells #[u32 (y.1, 7, y.2.2).1.1, u32 (y.1, 7, y.2.2).1.2.1, u64 (y.1, 7, y.2.2).1.2.2.1, u32 (y.1, 7, y.2.2).1.2.2.2, u32 (y.1, 7, y.2.2).2.1, i64 (y.1, 7, y.2.2).2.2.1, i64 (y.1, 7, y.2.2).2.2.2] 30)) = w6 at *
        obtain ⟨v', w7, hr, p7⟩ := (p5.ext' a5).app (by omega) hsl
        simp [hr, e0, e3, e5, e6, e8]
        exact ⟨l.length - (i + 1), by omega, i + 1, rfl, by omega, by rw [wrap64 _ (by omega) (by omega)]; rfl, _, p7, hg.put rfl hp, by simp; omega⟩
      · rw [if_neg hp] at p5
        simp [hp, e0, e3, e5, e6, e7, e8]
        exact ⟨l.length - (i + 1), by omega, i + 1, rfl, by omega, by rw [wrap64 _ (by omega) (by omega)]; rfl, _, p5.same, hg, by omega⟩
    · simp [e0, e5, e8, hlen, hli]
      obtain ⟨⟨Rq, Rw, M, N, h3, hF, hFp⟩, row3, ext3⟩ := p3
      refine FN.mono (copy_c h3 (by omega)) ?_
      rintro _ w4 ⟨c, Rq', Rw', M', rfl, hc, hE4, hFc⟩
      have L4 : LineP (fun k => (w1.heap.size ≤ k ∧ (slN pv = false → k ≠ slB pv)) ∧ k < w3.heap.size ∨ w4.heap.size ≤ k) w4 w4 ln s 50 :=
        ⟨⟨Rq, Rw, M, N, h3.ext hE4, fun k hk => .inl ⟨⟨hF k hk, fun hn e => hFp hn (e ▸ hk)⟩, h3.lt k hk⟩⟩, Mod.refl _ _⟩
      obtain ⟨Pd, hPd⟩ : ∃ Pd : Nat → Prop, Pd = fun k => (w1.heap.size ≤ k ∧ (slN pv = false → k ≠ slB pv)) ∧ k < w3.heap.size ∨ w4.heap.size ≤ k := ⟨_, rfl⟩
      have hPn : ∀ k, w4.heap.size ≤ k → Pd k := fun k hk => by rw [hPd]; exact .inr hk
      have hPw : ∀ k, Pd k → w1.heap.size ≤ k := fun k hk => by
        rw [hPd] at hk
        have := ext3.size
        have := hE4.size
        rcases hk with hk | hk
        · exact hk.1.1
        · omega
      have hPp : slN pv = false → ¬ Pd (slB pv) := fun hn hk => by
        rw [hPd] at hk
        obtain ⟨cc, hcc⟩ := own_obj row3 hn
        have h1 := (Array.getElem?_eq_some_iff.1 hcc).1
        have := hE4.size
        rcases hk with hk | hk
        · exact hk.1.2 hn rfl
        · omega
      have hPc : ∀ k, Foot c Rq' Rw' M' k → ¬ Pd k := fun k hf hk => by
        rw [hPd] at hk
        have h1 := hFc k hf
        have h2 := hc.lt k hf
        rcases hk with hk | hk <;> omega
      rw [← hPd] at L4
      have row4 := own_ext row3 hE4
      have ext4 := ext3.trans hE4
      have hm4 := hm1.ext ext4
      have hPm : ¬ Pd w.heap.size := fun h => by have := hPw _ h; omega
      simp [e3, e5, hm4.c0, hm4.c1, hm4.c2, hm4.c3, hm4.c4, hm4.c5, hm4.c6]
      refine FN.mono (LineP.put hPn L4 (by omega) more) ?_
      rintro _ w5 ⟨rfl, L5⟩
      simp
      refine FN.mono (num_c (putE s 50 more) w5) ?_
      rintro _ _ ⟨rfl, hw⟩
      subst hw
      rename_i w5
      have tail0 : ∀ W, LineP Pd w4 W ln s 50 → True := fun _ _ => trivial
      refine with_tail (T := ∀ (σ : Env) (W : World), (σ 3 = ptr w.heap.size ∧ σ 5 = ptr ln ∧ σ 6 = i64 0 ∧ σ 7 = pv ∧ σ 10 = ptr c) → LineP Pd w4 W ln s 50 → FNt Try.prog 7 [i64 0] W (RC ?dA ?KA ?QA σ []) Tok.mk) (fun tail => ?br) ?jn
      case br =>
        by_cases hp : putE s 50 more = 0
        · rw [if_pos hp] at L5
          have hm5 := hm4.mod L5.mod hPm
          obtain ⟨Rq5, Rw5, M5, N5, l5, -⟩ := L5.ex
          obtain ⟨q1, q2, q3⟩ := drop_more l5.nd (putE_0 hp).1
          simp [hp, e3, e5, hm5.c0, hm5.c1, hm5.c2, hm5.c3]
          refine FN.mono (LineP.drop L5 (by simp; omega) more.1) ?_
          rintro _ w6 ⟨rfl, L6⟩
          rw [q1, q2]
          rw [q1, if_pos rfl, q3] at L6
          have hm6 := hm4.mod L6.mod hPm
          have hwt : wtB more more = true := wtB_t rfl
          simp [e3, hm6.c0, hm6.c1, hm6.c2, hm6.c3, hm6.c4, hm6.c5, hm6.c6, hwt]
          have a6 : Ext w6 (w6.alloc (.cells #[u32 more.1.1, u32 more.1.2.1, u64 more.1.2.2.1, u32 more.1.2.2.2, u32 more.2.1, i64 more.2.2.1, i64 more.2.2.2] 30)) := (Ext.refl w6).alloc _
          have L7 := L6.ext a6
          generalize (w6.alloc (.cells #[u32 more.1.1, u32 more.1.2.1, u64 more.1.2.2.1, u32 more.1.2.2.2, u32 more.2.1, i64 more.2.2.1, i64 more.2.2.2] 30)) = w7 at *
          refine FN.mono (num_c 0 w7) ?_
          rintro _ _ ⟨rfl, hw⟩
          subst hw
          rename_i w7
          simp [e6]
          refine tail _ _ ?_ ?_
          · simp [e3, e5, e6, e7]
          · exact L7
        · simp [hp, e6]
          refine tail _ _ ?_ ?_
          · simp [e3, e5, e6, e7]
          · rw [if_neg hp] at L5; exact L5
      case jn =>
        rintro σ W ⟨e3, e5, e6, e7, e10⟩ LW
        refine FN.mono (num_c 0 W) ?_
        rintro _ _ ⟨rfl, hw⟩
        subst hw
        rename_i W
        obtain ⟨Rq7, Rw7, M7, N7, l7, -⟩ := LW.ex
        simp [e5, e10]
        have hcW := hc.mod LW.mod hPc
        refine FN.mono (same_c l7 hcW (by omega)) ?_
        rintro _ W2 ⟨rfl, hEs⟩
        have L8 := LW.ext hEs
        simp
        have hlenp := fun ty W => (sl_of_own row4).isLen (P := Try.prog) (t := 22) (by simp) ty W
        have hrow : ∀ {W : World} {t : List Wt}, LineP Pd w4 W ln t 50 → WSl W pv s := fun h => sl_of_own (own_keep row4 fun hn hl => h.mod.blk _ hl (hPp hn))
        rw [← left_all hg.rank] at L8
        refine WC_loop (fun k ρ ds w' => ∃ j : Nat, k = 3 - j ∧ j ≤ 3 ∧ ρ 5 = ptr ln ∧ ρ 7 = pv ∧ ρ 13 = i64 (2 - j) ∧ ds = [] ∧ LineP Pd w4 w' ln (left s (2 - j) 0) 50) 3
          ⟨0, by simp, by simp, by simp [e5], by simp [e7], by simp, rfl, by simpa using L8⟩ ?_
        rintro k ρ ds W3 ⟨j, rfl, hj, e5, e7, e13, rfl, L9⟩
        by_cases hj3 : j < 3
        · have hj2 : (j : Int) ≤ 2 := by omega
          simp [e13, hj2]
          refine WC_loop (fun k ρ ds w' => ∃ i : Nat, k = s.length - i ∧ i ≤ s.length ∧ ρ 5 = ptr ln ∧ ρ 7 = pv ∧ ρ 13 = i64 (2 - j) ∧ ρ 14 = i64 i ∧ ds = [] ∧ LineP Pd w4 w' ln (left s (2 - j) i) 50) s.length
            ⟨0, by simp, by simp, by simp [e5], by simp [e7], by simp [e13], by simp, rfl, L9⟩ ?_
          rintro k ρ ds W4 ⟨i, rfl, hi, e5, e7, e13, e14, rfl, L10⟩
          by_cases his : i < s.length
          · have hq := List.getElem?_eq_getElem his
            have hrw := hrow L10
            have r := WSl.row hrw hq
            have ix := WSl.index hrw i his W4
            by_cases hr : s[i].2.2.1 = 2 - (j : Int)
            · have hbd := left_len s (2 - j) i
              obtain ⟨Rqa, Rwa, Ma, Na, la, -⟩ := L10.ex
              obtain ⟨f1, f2⟩ := first_left hg (by omega) his hr
              obtain ⟨q1, q2, q3⟩ := drop_left hg la.nd his hr
              simp [e5, e7, e13, e14, hlenp, his, ix, r.c5, hr]
              refine FN.mono (first_c la (by omega) 7) ?_
              rintro _ W5 ⟨rfl, hE5⟩
              rw [f1, f2]
              obtain ⟨y, hy⟩ : ∃ y, y = s[i] := ⟨_, rfl⟩
              rw [← hy] at q1 q2 q3 hr r hq ⊢
              have a5 : Ext W5 (W5.alloc (.cells #[u32 y.1.1, u32 y.1.2.1, u64 y.1.2.2.1, u32 y.1.2.2.2, u32 y.2.1, i64 y.2.2.1, i64 y.2.2.2] 30)) := (Ext.refl W5).alloc _
              have x5 : WtAt (W5.alloc (.cells #[u32 y.1.1, u32 y.1.2.1, u64 y.1.2.2.1, u32 y.1.2.2.2, u32 y.2.1, i64 y.2.2.1, i64 y.2.2.2] 30)) W5.heap.size y := WtAt.new W5 y 30
              have z5 := hE5.size
              simp [e5]
              generalize (W5.alloc (.cells #[u32 y.1.1, u32 y.1.2.1, u64 y.1.2.2.1, u32 y.1.2.2.2, u32 y.2.1, i64 y.2.2.1, i64 y.2.2.2] 30)) = W6 at *
              refine FN.mono (LineP.dropX L10 (hE5.trans a5) (by omega) y.1) ?_
              rintro _ W7 ⟨rfl, L11, hM7⟩
              rw [q1, q2]
              rw [q1, if_pos rfl, q3] at L11
              have x7 := x5.mod hM7 (by omega)
              have a7 : Ext W7 (W7.alloc (.cells #[u32 y.1.1, u32 y.1.2.1, u64 y.1.2.2.1, u32 y.1.2.2.2, u32 y.2.1, i64 y.2.2.1, i64 y.2.2.2] 30)) := (Ext.refl W7).alloc _
              have u7 : WtAt (W7.alloc (.cells #[u32 y.1.1, u32 y.1.2.1, u64 y.1.2.2.1, u32 y.1.2.2.2, u32 y.2.1, i64 y.2.2.1, i64 y.2.2.2] 30)) W7.heap.size y := WtAt.new W7 y 30
              have x8 := x7.ext a7
              have L12 := L11.ext a7
              simp
              generalize (W7.alloc (.cells #[u32 y.1.1, u32 y.1.2.1, u64 y.1.2.2.1, u32 y.1.2.2.2, u32 y.2.1, i64 y.2.2.1, i64 y.2.2.2] 30)) = W8 at *
              have hw8 := hrow L12
              refine WC_drawC 17 (.F 0 <| .F 2 <| .C 1 <| .C 3 <| .F 4 <| .F 5 <| .F 6 <| .F 7 <| .F 8 <| .F 9 <| .F 10 <| .F 11 <| .C 12 <| .F 13 <| .F 14 <| .F 15 <| .C 16 <| .Z) (fun _ => false) rfl (by kernel_rfl) fun W9 hW9 => ?_
              have hE9 : Ext W8 W9 := hW9 ▸ Ext.drew _
              simp
              refine FN.mono (num_c 0 W9) ?_
              rintro _ W10 ⟨rfl, hw10⟩
              simp
              refine KR_ext (hw10 ▸ Ext.refl _) ?_
              simp
              refine FN.mono (num_c 0 W10) ?_
              rintro _ W11 ⟨rfl, hw11⟩
              simp
              refine KR_ext (hw11 ▸ Ext.refl _) ?_
              have hE11 : Ext W8 W11 := hw11 ▸ hw10 ▸ hE9
              have x11 := x8.ext hE11
              have u11 := u7.ext hE11
              have r11 := WSl.row (Sl.ext hw8 hE11) hq
              have ix11 := WSl.index hw8 i his W11
              have z0 : IntKind.i64.wrap 0 = 0 := by decide
              have hyy : wtB y y = true := wtB_t rfl
              simp [z0, e7, e14, ix11, x11.c0, x11.c1, x11.c2, x11.c3, x11.c4, x11.c5, x11.c6, r11.c0, r11.c1, r11.c2, r11.c3, r11.c4, r11.c5, r11.c6, hyy]
              refine KR_same ?_
              simp [e7, e14, x11.c0, x11.c1, x11.c2, x11.c3, x11.c4, x11.c5, x11.c6, u11.c0, u11.c1, u11.c2, u11.c3, u11.c4, u11.c5, u11.c6]
              refine KR_same ?_
              simp [e5, e7, e13, e14, hyy]
              exact ⟨s.length - (i + 1), by omega, i + 1, rfl, by omega, by rw [wrap64 _ (by omega) (by omega)]; rfl, L12.ext hE11⟩
            · simp [e5, e7, e13, e14, hlenp, his, ix, r.c5, hr]
              rw [← left_skip his hr] at L10
              exact ⟨s.length - (i + 1), by omega, i + 1, rfl, by omega, by rw [wrap64 _ (by omega) (by omega)]; rfl, L10⟩
          · have : i = s.length := by omega
            subst this
            simp [e5, e7, e13, e14, hlenp]
            rw [left_next, show (2 : Int) - j - 1 = 2 - (j + 1 : Nat) from by omega] at L10
            exact ⟨3 - (j + 1), by omega, j + 1, rfl, by omega, by rw [wrap64 _ (by omega) (by omega)]; omega, L10⟩
        · have : j = 3 := by omega
          subst this
          simp [e5, e13]
          rw [show (2 : Int) - (3 : Nat) = -1 from rfl, left_end hg.rank] at L9
          obtain ⟨Rqb, Rwb, Mb, Nb, lb, -⟩ := L9.ex
          refine FN.mono (first_c lb (by simp) 7) ?_
          rintro _ W5 ⟨rfl, hE5⟩
          have f1 : firstE [] 7 = 5 := by decide
          have f2 : firstV [] 7 = zW := by decide
          rw [f1, f2]
          have a5 : Ext W5 (W5.alloc (.cells #[u32 0, u32 0, u64 0, u32 0, u32 0, i64 0, i64 0] 30)) := (Ext.refl W5).alloc _
          simp [zW]
          generalize (W5.alloc (.cells #[u32 0, u32 0, u64 0, u32 0, u32 0, i64 0, i64 0] 30)) = W6 at *
          refine FN.mono (num_c 5 W6) ?_
          rintro _ _ ⟨rfl, hw⟩
          subst hw
          rename_i W6
          simp
          refine FN.mono (works_c W6) ?_
          rintro _ W7 ⟨rfl, hE7⟩
          simp
          have n1 := hE1.size
          exact ((hE1.trans ext4).mod (S := fun k => w.heap.size ≤ k) |>.trans (L9.mod.weaken fun k hk => by have := hPw k hk; omega) |>.trans ((hE5.trans a5).trans hE7).mod).ext fun _ h => h
end Go.Proofs
