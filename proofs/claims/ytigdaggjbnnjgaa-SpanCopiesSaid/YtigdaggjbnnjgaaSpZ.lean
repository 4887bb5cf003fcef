/-
  Contracts of the functions that the law reaches, step by step.
-/
import Derived.Test.YtigdaggjbnnjgaaSpY
namespace Go.Proofs
open Pk
set_option maxRecDepth 10000
set_option maxHeartbeats 2000000 in
theorem is_c {w : World} {t R : Nat} {M : ME} {v : Value} {l : List St} (hT : TabAt w t R M) (hrow : TRw w v l) (hR : RelT M l) (s : St) (z : Int) (hb : l.length ≤ 200) :
    FN Try.prog 18 [ptr t, .agg #[v], stV s, i64 z] w fun e w' => e = .returned (.bool true) ∧ Ext w w' := by
  refine FN_enter Try.func18 rfl rfl (by kernel_rfl) ?_
  obtain ⟨va, vc, hv⟩ := hrow.isSlice
  subst hv
  simp
  obtain ⟨B, hB⟩ : ∃ B, B = w.heap.size := ⟨_, rfl⟩
  have hE1 : Ext w ((((w.alloc (.cells #[.slice va l.length vc] 51)).alloc (.cells #[u32 s.f, u32 s.t, u64 s.a, u64 s.k] 35)).alloc (.cells #[i64 z] 3)).alloc (.cells #[.bool false] 4)) := ((((Ext.refl w).alloc _).alloc _).alloc _).alloc _
  have o5 : Blk ((((w.alloc (.cells #[.slice va l.length vc] 51)).alloc (.cells #[u32 s.f, u32 s.t, u64 s.a, u64 s.k] 35)).alloc (.cells #[i64 z] 3)).alloc (.cells #[.bool false] 4)) w.heap.size [.slice va l.length vc] := (Blk.new w _ _).ext ((((Ext.refl _).alloc _).alloc _).alloc _)
  have o6 : Blk ((((w.alloc (.cells #[.slice va l.length vc] 51)).alloc (.cells #[u32 s.f, u32 s.t, u64 s.a, u64 s.k] 35)).alloc (.cells #[i64 z] 3)).alloc (.cells #[.bool false] 4)) (w.heap.size + 1) [u32 s.f, u32 s.t, u64 s.a, u64 s.k] := by
    have := (Blk.new (w.alloc (.cells #[.slice va l.length vc] 51)) [u32 s.f, u32 s.t, u64 s.a, u64 s.k] 35).ext (((Ext.refl _).alloc (.cells #[i64 z] 3)).alloc (.cells #[.bool false] 4))
    simpa using this
  have o7 : Blk ((((w.alloc (.cells #[.slice va l.length vc] 51)).alloc (.cells #[u32 s.f, u32 s.t, u64 s.a, u64 s.k] 35)).alloc (.cells #[i64 z] 3)).alloc (.cells #[.bool false] 4)) (w.heap.size + 1 + 1) [i64 z] := by
    have := (Blk.new ((w.alloc (.cells #[.slice va l.length vc] 51)).alloc (.cells #[u32 s.f, u32 s.t, u64 s.a, u64 s.k] 35)) [i64 z] 3).ext ((Ext.refl _).alloc (.cells #[.bool false] 4))
    simpa using this
  have o8 : Blk ((((w.alloc (.cells #[.slice va l.length vc] 51)).alloc (.cells #[u32 s.f, u32 s.t, u64 s.a, u64 s.k] 35)).alloc (.cells #[i64 z] 3)).alloc (.cells #[.bool false] 4)) (w.heap.size + 1 + 1 + 1) [.bool false] := by
    have := Blk.new (((w.alloc (.cells #[.slice va l.length vc] 51)).alloc (.cells #[u32 s.f, u32 s.t, u64 s.a, u64 s.k] 35)).alloc (.cells #[i64 z] 3)) [.bool false] 4
    simpa using this
  have z1 : ((((w.alloc (.cells #[.slice va l.length vc] 51)).alloc (.cells #[u32 s.f, u32 s.t, u64 s.a, u64 s.k] 35)).alloc (.cells #[i64 z] 3)).alloc (.cells #[.bool false] 4)).heap.size = w.heap.size + 1 + 1 + 1 + 1 := by simp
  generalize ((((w.alloc (.cells #[.slice va l.length vc] 51)).alloc (.cells #[u32 s.f, u32 s.t, u64 s.a, u64 s.k] 35)).alloc (.cells #[i64 z] 3)).alloc (.cells #[.bool false] 4)) = w1 at *
  rw [← hB] at o5 o6 o7 o8 z1 ⊢
  refine FN.mono (rsteps_c (hrow.ext hE1) s.f s.t (by omega)) ?_
  rintro _ w2 ⟨u, rs, rfl, hrs, hu, hE2⟩
  obtain ⟨ua, uc, hua⟩ := own_val hu
  subst hua
  have p6 := o6.ext hE2
  have v9 : Var (w2.alloc (.cells #[.slice ua rs.length uc] 22)) w2.heap.size (.slice ua rs.length uc) := Var.new w2 _ _
  have hE3 : Ext w2 (w2.alloc (.cells #[.slice ua rs.length uc] 22)) := (Ext.refl _).alloc _
  have z3 : (w2.alloc (.cells #[.slice ua rs.length uc] 22)).heap.size = w2.heap.size + 1 := by simp
  simp [p6.cell 0 _ rfl, p6.cell 1 _ rfl]
  generalize (w2.alloc (.cells #[.slice ua rs.length uc] 22)) = w3 at *
  have hE13 := hE2.trans hE3
  refine FN.mono (steps_c (hT.ext (hE1.trans hE13)) s.f s.t) ?_
  rintro _ w4 ⟨bS, oS, rfl, vS, mS, hE4, hbS, hoS⟩
  obtain ⟨ys, hys⟩ := isKeys_ex (sps M (s.f, s.t))
  have hsl := sps_len hT (s.f, s.t)
  rw [hR.cnt] at hsl
  obtain ⟨hra, hrk⟩ := hR.steps hT hys hrs
  have hrl : rs.length = ys.length := by rw [← hra]; simp
  have hyl : ys.length ≤ 200 := by have := hys.1.length_eq; simp at this; omega
  have hit0 := steps_it vS mS (by omega) hys
  have hcap0 : ∀ k, (k = bS ∨ Value.map oS = .map (some k)) → k < w4.heap.size := fun k hk => by
    rcases hk with rfl | hk
    · exact vS.lt
    · exact mS.lt hk
  have hE24 := hE3.trans hE4
  have hE14 := hE2.trans hE24
  have hrow4 : TRw w4 (.slice ua rs.length uc) rs := (sl_of_own hu).ext hE24
  have v5 := o5.var.ext hE14
  have v7 := o7.var.ext hE14
  have v8 := o8.var.ext hE14
  have v9' := v9.ext hE4
  have hEw4 := hE1.trans hE14
  have s12 := hE1.size
  have s2 := hE2.size
  have s4 := hE4.size
  obtain ⟨b9, hb9⟩ : ∃ b9, b9 = w2.heap.size := ⟨_, rfl⟩
  rw [← hb9] at v9' z3 ⊢
  have vt : Var (w4.alloc (.cells #[i64 0] 3)) w4.heap.size (i64 0) := Var.new w4 _ _
  have hE5 : Ext w4 (w4.alloc (.cells #[i64 0] 3)) := (Ext.refl _).alloc _
  have z5 : (w4.alloc (.cells #[i64 0] 3)).heap.size = w4.heap.size + 1 := by simp
  simp
  obtain ⟨b11, hb11⟩ : ∃ b, b = w4.heap.size := ⟨_, rfl⟩
  rw [← hb11] at vt z5 ⊢
  obtain ⟨gv, hgv⟩ : ∃ gv : Value, gv = .func (.func 32) #[] #[ptr bS] := ⟨_, rfl⟩
  generalize (w4.alloc (.cells #[i64 0] 3)) = w5 at *
  refine WC_loop (fun k ρ ds w' => ∃ (turn b : Nat) (Ds : List Nat), k = 2 - turn ∧ turn ≤ 2 ∧ ρ 0 = ptr t ∧ ρ 5 = ptr B ∧ ρ 7 = ptr (B + 1 + 1) ∧ ρ 8 = ptr (B + 1 + 1 + 1) ∧ ρ 9 = ptr b9 ∧ ρ 10 = .func (.func 32) #[] #[ptr bS] ∧ ρ 11 = ptr b ∧ ds = Ds.map dmark ∧ Ds.Nodup ∧ (∀ D ∈ Ds, w4.heap.size ≤ D ∧ w'.heap[D]? = some (.deferred (some []))) ∧
    Var w' b (i64 turn) ∧ w4.heap.size ≤ b ∧ Ext w4 w') 2 ⟨0, b11, [], rfl, by omega, by simp, by simp, by simp, by simp, by simp, by simp, by simp, rfl, by simp, by simp, vt, by omega, hE5⟩ ?_
  clear vt hE5 z5 w5
  rintro k ρ ds w1' ⟨turn, b7, Ds, rfl, ht2, e0, e5, e7, e8, e9, e10, e11, rfl, hDn, hDs, vt, hb7, hE⟩
  have u5 := v5.ext hE
  have u7 := v7.ext hE
  have u8 := v8.ext hE
  have u9 := v9'.ext hE
  have sE := hE.size
  by_cases ht : turn < 2
  · have htb : (turn : Int) < 2 := by omega
    simp [e11, vt.cell, htb]
    have eA : Ext w1' (w1'.alloc (.cells #[i64 0] 3)) := (Ext.refl _).alloc _
    have vn : Var (w1'.alloc (.cells #[i64 0] 3)) w1'.heap.size (i64 0) := Var.new _ _ _
    have sA : (w1'.alloc (.cells #[i64 0] 3)).heap.size = w1'.heap.size + 1 := by simp
    obtain ⟨b8, hb8⟩ : ∃ b8, b8 = w1'.heap.size := ⟨_, rfl⟩
    rw [← hb8] at vn sA ⊢
    have ltb := vt.lt
    simp [e10]
    generalize (w1'.alloc (.cells #[i64 0] 3)) = w2' at *
    have hE2' := hE.trans eA
    have hit2 := hit0.ext hE2' hcap0
    have fin : ∀ (W : World) (q : Int), Ext w1' W → W.heap[w2'.heap.size]? = some (.deferred (some [])) → ∃ x : List Nat, ({ target := .collected w2'.heap.size, args := #[] } :: Ds.map dmark : List Deferred) = x.map dmark ∧ x.Nodup ∧
        (∀ D ∈ x, w4.heap.size ≤ D ∧ W.heap[D]? = some (.deferred (some []))) ∧ Var (W.alloc (.cells #[i64 q] 3)) W.heap.size (i64 q) ∧ w4.heap.size ≤ W.heap.size ∧ Ext w4 (W.alloc (.cells #[i64 q] 3)) := by
      intro W q hx hD
      have hy := hx.trans ((Ext.refl W).alloc (.cells #[i64 q] 3))
      have hsz := hx.size
      refine ⟨w2'.heap.size :: Ds, rfl, List.nodup_cons.2 ⟨fun hm => ?_, hDn⟩, ?_, Var.new _ _ _, by omega, hE.trans hy⟩
      · have := (hDs _ hm).2
        have := (Array.getElem?_eq_some_iff.1 this).1
        omega
      · intro D hm
        rcases List.mem_cons.1 hm with rfl | hm
        · exact ⟨by omega, hD⟩
        · exact ⟨(hDs D hm).1, hx.obj (hDs D hm).2⟩
    have q1 : IntKind.i64.wrap 1 = 1 := by decide
    have q2 : IntKind.i64.wrap 2 = 2 := by decide
    refine WC_rangeFunc (gf := 32) (first := #[]) (caps := #[ptr bS]) (enc := stC (sps M (s.f, s.t))) (by simp) (fun _ _ => callFunc_enter Try.func32 rfl rfl _ _) hit2 (fun x => rfl) (fun k => k = b8)
      (fun C pre W => Var W b8 (.int .i64 pre.length) ∧ (∀ k, C k ↔ k = b8) ∧ Ext w1' W ∧ (turn = 0 → pre ≠ [] → (pre.length : Int) < z))
      (fun cd C pre W => cd = .exit 2 ∧ turn = 0 ∧ Var W b8 (.int .i64 pre.length) ∧ Ext w1' W ∧ z ≤ pre.length ∧ ((pre.length : Int) - 1 < z ∨ pre.length = 1) ∧ (∀ k, C k ↔ k = b8))
      (fun k hk => ⟨?_, ?_⟩) (fun k hk => by omega) ?_ ?_ ⟨by simpa using vn, fun _ => Iff.rfl, eA, fun _ h => (h rfl).elim⟩ ?ρ ?ha ?_ ?_ ?_
    case ha =>
      intro l x W
      simp [stC]
      exact rfl
    · have := hcap0 k hk; omega
    · have := hcap0 k hk; omega
    · rintro C pre W W' ⟨h1, h5, h6, h7⟩ hag
      refine ⟨h1.agr hag (.inr ((h5 _).2 rfl)), h5, ?_, h7⟩
      exact ⟨hag.os.trans h6.os, hag.tape.trans h6.tape, hag.out.trans h6.out, Nat.le_trans h6.size hag.size, fun i hi => (hag.blk i (Nat.lt_of_lt_of_le hi h6.size) (.inl (by omega))).trans (h6.blk i hi)⟩
    · rintro cd C pre W W' ⟨h0, ht0, h1, h6, h7, h8, h5⟩ hag
      refine ⟨h0, ht0, h1.agr hag (.inr ((h5 _).2 rfl)), ?_, h7, h8, h5⟩
      exact ⟨hag.os.trans h6.os, hag.tape.trans h6.tape, hag.out.trans h6.out, Nat.le_trans h6.size hag.size, fun i hi => (hag.blk i (Nat.lt_of_lt_of_le hi h6.size) (.inl (by omega))).trans (h6.blk i hi)⟩
    · rintro lp C pre x W hsp ⟨h1, h5, h6, h7⟩ - - -
      obtain ⟨_, suf, hsuf⟩ := hsp
      have hql : pre.length < rs.length := by rw [hrl, hsuf]; simp
      have hxq : ys[pre.length]? = some x := by rw [hsuf]; simp
      have hxa : rs[pre.length].a = x := by
        have : (rs.map (·.a))[pre.length]? = some x := by rw [hra]; exact hxq
        simpa [hql] using this
      have hxk : (mget (sps M (s.f, s.t)) x).getD 0 = rs[pre.length].k := by
        rw [← hxa, hrk _ (List.getElem_mem hql)]
        rfl
      have x5 := u5.ext h6
      have x7 := u7.ext h6
      have x9 := u9.ext h6
      have xt := vt.ext h6
      have hrW := hrow4.ext (hE.trans h6)
      have rr := TRw.row hrW (List.getElem?_eq_getElem hql)
      have ix := fun W => TRw.index hrW pre.length hql W
      have lenr := fun ty W' => hrW.isLen (P := Try.prog) (t := 22) (by simp) ty W'
      have wq : IntKind.i64.wrap ((pre.length : Int) + 1) = (pre.length : Int) + 1 := wrap64 _ (by omega) (by omega)
      have hnl : ¬ rs.length ≤ pre.length := by omega
      have hset := h1.set (.int .i64 ((pre.length : Int) + 1))
      simp [h1.cell, h1.thaw, x9.cell, hnl, lenr, ix, rr.c2, rr.c3, e9, hxa, hxk, wq]
      obtain ⟨W3, hW3⟩ : ∃ W3, W3 = W.setCell ⟨b8, 0, none⟩ (.int .i64 ((pre.length : Int) + 1)) := ⟨_, rfl⟩
      rw [← hW3] at hset ⊢
      have hk3 : ∀ b', b' ≠ b8 → W3.heap[b']? = W.heap[b']? := fun b' hb' => by rw [hW3]; exact Go.RowKit.Below.heap_setCell _ _ _ _ hb'
      have yt := xt.keep (hk3 b7 (by omega))
      have y7 := x7.keep (hk3 (B + 1 + 1) (by omega))
      have hM3 : Mod C W W3 := by rw [hW3]; exact Mod.setCell (Mod.refl _ W) _ _ (.inl ((h5 _).2 rfl))
      have hE3' : Ext w1' W3 := by rw [hW3]; exact h6.setCell _ _ (by simp only; omega)
      have hset' : Var W3 b8 (.int .i64 (((pre ++ [x]).length : Nat) : Int)) := by simpa using hset
      by_cases ht0 : turn = 0
      · subst ht0
        by_cases hz : z ≤ (pre.length : Int) + 1
        · simp [e7, e11, yt.cell, hset.cell, y7.cell, hz]
          refine ⟨fun k => k = b8, ⟨by simpa using hset, hE3', ?_⟩, ⟨hM3, fun k hk => .inl ((h5 k).2 hk)⟩⟩
          refine ⟨?_, fun _ => Iff.rfl⟩
          by_cases hp : pre = []
          · right; exact hp
          · left; exact h7 rfl hp
        · simp [e7, e11, yt.cell, hset.cell, y7.cell, hz]
          exact ⟨fun k => k = b8, ⟨by simpa using hset, fun _ => Iff.rfl, hE3', by omega⟩, ⟨hM3, fun k hk => .inl ((h5 k).2 hk)⟩⟩
      · have htn : ((turn : Int) == 0) = false := by simp; omega
        simp [e11, yt.cell, htn]
        exact ⟨fun k => k = b8, ⟨by simpa using hset, fun _ => Iff.rfl, hE3', fun h => (ht0 h).elim⟩, ⟨hM3, fun k hk => .inl ((h5 k).2 hk)⟩⟩
    · rintro C xs W rfl ⟨h1, h5, h6, h7⟩ hD
      have x7 := u7.ext h6
      have x9 := u9.ext h6
      have xt := vt.ext h6
      have hrW := hrow4.ext (hE.trans h6)
      have lenr := fun ty W' => hrW.isLen (P := Try.prog) (t := 22) (by simp) ty W'
      by_cases ht0 : turn = 0
      · subst ht0
        have hmn : ((xs.length : Int) != min (rs.length : Int) (max 1 z)) = false := by
          have : (xs.length : Int) = min (rs.length : Int) (max 1 z) := by
            rw [hrl]
            by_cases h0 : xs = []
            · subst h0; simp; omega
            · have := h7 rfl h0; omega
          rw [← this]; simp
        simp [e7, e9, e11, xt.cell, h1.cell, x9.cell, x7.cell, lenr, hmn, q1]
        obtain ⟨x, f1, f2, f3, f4, f5, f6⟩ := fin W 1 h6 hD
        exact ⟨1, by omega, 1, rfl, by omega, e0, e5, e8, e10, x, f1, f2, f3, f4, f5, f6⟩
      · obtain rfl : turn = 1 := by omega
        simp [hrl, e7, e9, e11, xt.cell, h1.cell, x9.cell, q2]
        obtain ⟨x, f1, f2, f3, f4, f5, f6⟩ := fin W 2 h6 hD
        exact ⟨2, by omega, by omega, e0, e5, e8, e10, x, f1, f2, f3, f4, f5, f6⟩
    · rintro cd C pre W hsp ⟨rfl, ht0, h1, h6, h7, h8, h5⟩ hD
      have x7 := u7.ext h6
      have x9 := u9.ext h6
      have xt := vt.ext h6
      have hrW := hrow4.ext (hE.trans h6)
      have lenr := fun ty W' => hrW.isLen (P := Try.prog) (t := 22) (by simp) ty W'
      subst ht0
      obtain ⟨hne, suf, hsuf⟩ := hsp
      have hql : pre.length ≤ ys.length := by rw [hsuf]; simp
      have hq0 : 0 < pre.length := List.length_pos_iff.2 hne
      have hmn : ((pre.length : Int) != min (rs.length : Int) (max 1 z)) = false := by
        have : (pre.length : Int) = min (rs.length : Int) (max 1 z) := by rw [hrl]; omega
        rw [← this]; simp
      simp [e7, e9, e11, xt.cell, h1.cell, x9.cell, x7.cell, lenr, hmn, q1]
      obtain ⟨x, f1, f2, f3, f4, f5, f6⟩ := fin W 1 h6 hD
      exact ⟨1, by omega, 1, rfl, by omega, e0, e5, e8, e10, x, f1, f2, f3, f4, f5, f6⟩
  · have : turn = 2 := by omega
    subst this
    simp [e11, vt.cell]
    refine WC_drawC 5 (.F 0 <| .F 2 <| .F 3 <| .F 4 <| .C 1 <| .Z) (fun _ => false) rfl (by kernel_rfl) fun W hW => ?_
    have hWE : Ext w1' W := hW ▸ Ext.drew _
    have hlen := fun ty W => hrow.isLen (P := Try.prog) (t := 22) (by simp) ty W
    simp [e0, e5, (u5.ext hWE).cell, hlen]
    have hEW := hEw4.trans (hE.trans hWE)
    refine FN.mono (len_c (hT.ext hEW)) ?_
    rintro _ W2 ⟨rfl, h2⟩
    subst h2
    simp
    refine KR_same ?_
    have y8 := u8.ext hWE
    simp [e8, hR.cnt, y8.cell, y8.thaw]
    have hM : Mod (fun k => k = B + 1 + 1 + 1) W2 (W2.setCell ⟨B + 1 + 1 + 1, 0, none⟩ (.bool true)) := (Mod.refl _ _).setC _ _
    have y8' := y8.set (.bool true)
    have sW := hWE.size
    generalize (W2.setCell ⟨B + 1 + 1 + 1, 0, none⟩ (.bool true)) = w5 at hM y8' ⊢
    refine LV_marks Ds w5 hDn (fun D hD => ?_) fun w' hM' => ?_
    · have := hDs D hD
      exact hM.obj (hWE.obj this.2) (by omega)
    · have y9 := y8'.mod hM' (fun h => by have := (hDs _ h).1; omega)
      simp [y9.cell, e8]
      exact (((hEW.mod (S := fun k => w.heap.size ≤ k)).trans (hM.weaken fun k hk => by omega)).trans (hM'.weaken fun k hk => by have := (hDs _ hk).1; omega)).ext fun _ h => h
end Go.Proofs
