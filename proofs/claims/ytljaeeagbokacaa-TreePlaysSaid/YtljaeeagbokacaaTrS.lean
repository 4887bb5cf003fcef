/-
  Contracts of the functions that the law reaches, step by step.
-/
import Derived.Test.YtljaeeagbokacaaTrR
namespace Go.Proofs
open Pk
set_option maxRecDepth 10000
def mark (D : Nat) : Deferred := { target := .collected D, args := #[] }
/-- Marks behind ranges over functions: they are taken up at the return. -/
theorem LV_marks {P : Program} {rs : Array ResultVar} {R : Ending → World → Prop} {ρ : Env} : ∀ (Ds : List Nat) (w : World), Ds.Nodup → (∀ D ∈ Ds, w.heap[D]? = some (.deferred (some []))) → (∀ w', Mod (· ∈ Ds) w w' → LV P rs R ρ [] .returning w') →
    LV P rs R ρ (Ds.map mark) .returning w
  | [], w, _, _, hk => hk w (Mod.refl _ _)
  | D :: Ds, w, hn, hm, hk => by
    obtain ⟨h1, h2⟩ := List.nodup_cons.1 hn
    refine LV_mark (hm D (by simp)) (by simp) ?_
    refine LV_marks Ds _ h2 (fun E hE => ?_) fun w' hM => ?_
    · rw [World.putObj_heap_other (fun e => h1 (by rw [← e]; exact hE))]
      exact hm E (by simp [hE])
    · refine hk w' ?_
      exact ((Mod.putObj D _).weaken fun i hi => by simp [hi]).trans (hM.weaken fun i hi => by simp [hi])
set_option maxHeartbeats 1000000 in
theorem goes_c {w : World} {g : FuncId} {first caps : Array Value} {v : Value} {xs : List Int} {z : Int} {Cap : Nat → Prop} (hent : ∀ l w, (callFunc g l).run Try.prog w = .ok (.enter g l) w)
    (hit : Iter Try.prog (.func (.func g) first caps) (fun x => [u32 x]) (· = xs) (seg xs) Cap w) (hcap : ∀ k, Cap k → k < w.heap.size) (hv : Sl w 1 v xs.length (xs.map u32)) (hb : xs.length ≤ 1000) :
    FN Try.prog 44 [.func (.func g) first caps, v, .int .i64 z] w fun e w' => e = .returned (.bool true) ∧ Ext w w' := by
  refine FN_enter Try.func44 rfl rfl (by kernel_rfl) ?_
  obtain ⟨c, p, rfl⟩ := hv.isSlice
  obtain ⟨B, hB⟩ : ∃ B, B = w.heap.size := ⟨_, rfl⟩
  obtain ⟨w1, hw1⟩ : ∃ w1, w1 = (((w.alloc (.cells #[.slice c xs.length p] 30)).alloc (.cells #[.int .i64 z] 3)).alloc (.cells #[.bool false] 4)).alloc (.cells #[.int .i64 0] 3) := ⟨_, rfl⟩
  have hE : Ext w w1 := by rw [hw1]; exact ((((Ext.refl w).alloc _).alloc _).alloc _).alloc _
  have hs1 : w1.heap.size = B + 4 := by rw [hw1, hB]; simp
  have v4 : Var w1 B (.slice c xs.length p) := by rw [hw1, hB]; exact (Var.new w (.slice c xs.length p) 30).ext ((((Ext.refl _).alloc _).alloc _).alloc _)
  have v5 : Var w1 (B + 1) (.int .i64 z) := by
    have := (Var.new (w.alloc (.cells #[.slice c xs.length p] 30)) (.int .i64 z) 3).ext (((Ext.refl _).alloc (.cells #[.bool false] 4)).alloc (.cells #[.int .i64 0] 3))
    rw [World.size_alloc, ← hB] at this
    rw [hw1]; exact this
  have v6 : Var w1 (B + 2) (.bool false) := by
    have := (Var.new ((w.alloc (.cells #[.slice c xs.length p] 30)).alloc (.cells #[.int .i64 z] 3)) (.bool false) 4).ext ((Ext.refl _).alloc (.cells #[.int .i64 0] 3))
    simp only [World.size_alloc, ← hB] at this
    rw [hw1]; exact this
  have v7 : Var w1 (B + 3) (.int .i64 0) := by
    have := (Var.new (((w.alloc (.cells #[.slice c xs.length p] 30)).alloc (.cells #[.int .i64 z] 3)).alloc (.cells #[.bool false] 4)) (.int .i64 0) 3)
    simp only [World.size_alloc, ← hB] at this
    rw [hw1]; exact this
  simp [Nat.add_assoc]
  refine WC_loop (fun k ρ ds w' => ∃ (turn b7 : Nat) (Ds : List Nat), k = 2 - turn ∧ turn ≤ 2 ∧ ρ 0 = .func (.func g) first caps ∧ ρ 4 = ptr B ∧ ρ 5 = ptr (B + 1) ∧ ρ 6 = ptr (B + 2) ∧ ρ 7 = ptr b7 ∧ ds = Ds.map mark ∧ Ds.Nodup ∧ (∀ D ∈ Ds, B + 4 ≤ D ∧ w'.heap[D]? = some (.deferred (some []))) ∧
    Var w' b7 (.int .i64 turn) ∧ B + 3 ≤ b7 ∧ Ext w w' ∧ Var w' B (.slice c xs.length p) ∧ Var w' (B + 1) (.int .i64 z) ∧ Var w' (B + 2) (.bool false)) 2 ?_ ?_
  · refine ⟨0, B + 3, [], rfl, by omega, ?_⟩
    simp [← hB]
    rw [← hw1]
    exact ⟨v7, hE, v4, v5, v6⟩
  clear v4 v5 v6 v7 hE hs1 hw1 w1
  rintro k ρ ds w1 ⟨turn, b7, Ds, rfl, ht2, e0, e4, e5, e6, e7, rfl, hDn, hDs, v7, hb7, hE, v4, v5, v6⟩
  by_cases ht : turn < 2
  · have htb : (turn : Int) < 2 := by omega
    simp [e7, v7.cell, htb]
    have eA := (Ext.refl w1).alloc (.cells #[.int .i64 0] 3)
    obtain ⟨w2, hw2⟩ : ∃ w2, w2 = w1.alloc (.cells #[.int .i64 0] 3) := ⟨_, rfl⟩
    obtain ⟨b8, hb8⟩ : ∃ b8, b8 = w1.heap.size := ⟨_, rfl⟩
    have v8 : Var w2 b8 (.int .i64 0) := by rw [hw2, hb8]; exact Var.new w1 _ _
    have hs2 : w2.heap.size = b8 + 1 := by rw [hw2, hb8]; simp
    rw [← hw2] at eA
    rw [← hw2, ← hb8]
    have hE2 := hE.trans eA
    have hBw : B ≤ b8 := by have := hE.size; omega
    have w7 := v7.ext eA
    have w4 := v4.ext eA
    have w5 := v5.ext eA
    have w6 := v6.ext eA
    have l7 := v7.lt
    have l4 := v4.lt
    have l5 := v5.lt
    have l6 := v6.lt
    simp [e0]
    have hit2 := hit.ext hE2 hcap
    have fin : ∀ (W : World) (q : Int), Ext w1 W → W.heap[w2.heap.size]? = some (.deferred (some [])) → ∃ x : List Nat, ({ target := .collected w2.heap.size, args := #[] } :: Ds.map mark : List Deferred) = x.map mark ∧ x.Nodup ∧
        (∀ D ∈ x, B + 4 ≤ D ∧ W.heap[D]? = some (.deferred (some []))) ∧ Var (W.alloc (.cells #[.int .i64 q] 3)) W.heap.size (.int .i64 q) ∧ B + 3 ≤ W.heap.size ∧ Ext w (W.alloc (.cells #[.int .i64 q] 3)) ∧
        Var (W.alloc (.cells #[.int .i64 q] 3)) B (.slice c xs.length p) ∧ Var (W.alloc (.cells #[.int .i64 q] 3)) (B + 1) (.int .i64 z) ∧ Var (W.alloc (.cells #[.int .i64 q] 3)) (B + 2) (.bool false) := by
      intro W q hx hD
      have hy := hx.trans ((Ext.refl W).alloc (.cells #[.int .i64 q] 3))
      have hsz := hx.size
      refine ⟨w2.heap.size :: Ds, rfl, List.nodup_cons.2 ⟨fun hm => ?_, hDn⟩, ?_, Var.new _ _ _, by omega, hE.trans hy, v4.ext hy, v5.ext hy, v6.ext hy⟩
      · have := (hDs _ hm).2
        have := (Array.getElem?_eq_some_iff.1 this).1
        omega
      · intro D hm
        rcases List.mem_cons.1 hm with rfl | hm
        · exact ⟨by omega, hD⟩
        · exact ⟨(hDs D hm).1, hx.obj (hDs D hm).2⟩
    have q1 : IntKind.i64.wrap 1 = 1 := by decide
    have q2 : IntKind.i64.wrap 2 = 2 := by decide
    refine WC_rangeFunc (gf := g) (first := first) (caps := caps) (enc := fun x => [u32 x]) (by simp) (fun l w => hent l w) hit2 (by simp) (fun k => k = b8)
      (fun C pre W => Var W b8 (.int .i64 pre.length) ∧ (∀ k, C k ↔ k = b8) ∧ Ext w1 W ∧ (turn = 0 → pre ≠ [] → (pre.length : Int) < z))
      (fun cd C pre W => cd = .exit 2 ∧ turn = 0 ∧ Var W b8 (.int .i64 pre.length) ∧ Ext w1 W ∧ z ≤ pre.length ∧ ((pre.length : Int) - 1 < z ∨ pre.length = 1) ∧ (∀ k, C k ↔ k = b8))
      (fun k hk => ⟨?_, ?_⟩) (fun k hk => by omega) ?_ ?_ ⟨by simpa using v8, fun _ => Iff.rfl, eA, fun _ h => (h rfl).elim⟩ ?ρ ?ha ?_ ?_ ?_
    case ha =>
      intro l x W
      simp
      exact rfl
    · have := hcap k hk; omega
    · have := hcap k hk; omega
    · rintro C pre W W' ⟨h1, h5, h6, h7⟩ hag
      refine ⟨h1.agr hag (.inr ((h5 _).2 rfl)), h5, ?_, h7⟩
      exact ⟨hag.os.trans h6.os, hag.tape.trans h6.tape, hag.out.trans h6.out, Nat.le_trans h6.size hag.size, fun i hi => (hag.blk i (Nat.lt_of_lt_of_le hi h6.size) (.inl (by omega))).trans (h6.blk i hi)⟩
    · rintro cd C pre W W' ⟨h0, ht0, h1, h6, h7, h8, h5⟩ hag
      refine ⟨h0, ht0, h1.agr hag (.inr ((h5 _).2 rfl)), ?_, h7, h8, h5⟩
      exact ⟨hag.os.trans h6.os, hag.tape.trans h6.tape, hag.out.trans h6.out, Nat.le_trans h6.size hag.size, fun i hi => (hag.blk i (Nat.lt_of_lt_of_le hi h6.size) (.inl (by omega))).trans (h6.blk i hi)⟩
    · rintro l C pre x W hsp ⟨h1, h5, h6, h7⟩ - - -
      obtain ⟨_, suf, hsuf⟩ := hsp
      have hql : pre.length < xs.length := by rw [hsuf]; simp
      have hxq : xs[pre.length]? = some x := by rw [hsuf]; simp
      have u4 := v4.ext h6
      have u5 := v5.ext h6
      have u7 := v7.ext h6
      have hvW := (hv.ext hE).ext h6
      have d1 := hvW.at_ pre.length (u32 x) (by simp [hxq])
      have ix := fun W => hvW.index (P := Try.prog) (t := 30) (by simp) .i64 pre.length (by omega) (by omega) W
      have wq : IntKind.i64.wrap ((pre.length : Int) + 1) = ((pre.length + 1 : Nat) : Int) := wnat _ _ (by omega) (by omega)
      have hnl : ¬ xs.length ≤ pre.length := by omega
      have hset := h1.set (.int .i64 ((pre.length + 1 : Nat) : Int))
      simp [h1.cell, h1.thaw, u4.cell, hnl, ix, d1, e4]
      rw [wq]
      obtain ⟨W3, hW3⟩ : ∃ W3, W3 = W.setCell ⟨b8, 0, none⟩ (.int .i64 ((pre.length + 1 : Nat) : Int)) := ⟨_, rfl⟩
      rw [← hW3] at hset ⊢
      have hk3 : ∀ b', b' ≠ b8 → W3.heap[b']? = W.heap[b']? := fun b' hb' => by rw [hW3]; exact Go.RowKit.Below.heap_setCell _ _ _ _ hb'
      have x7 := u7.keep (hk3 b7 (by omega))
      have x5 := u5.keep (hk3 (B + 1) (by omega))
      have hM3 : Mod C W W3 := by rw [hW3]; exact Mod.setCell (Mod.refl _ W) _ _ (.inl ((h5 _).2 rfl))
      have hE3 : Ext w1 W3 := by rw [hW3]; exact h6.setCell _ _ (by simp only; omega)
      have hlen1 : (pre ++ [x]).length = pre.length + 1 := by simp
      by_cases ht0 : turn = 0
      · subst ht0
        by_cases hz : z ≤ (pre.length : Int) + 1
        · simp [e5, e7, x7.cell, hset.cell, x5.cell, hz]
          refine ⟨fun k => k = b8, ⟨?_, hE3, ?_⟩, ⟨hM3, fun k hk => .inl ((h5 k).2 hk)⟩⟩
          · have := hset; push_cast at this; exact this
          · refine ⟨?_, fun _ => Iff.rfl⟩
            by_cases hp : pre = []
            · right; exact hp
            · left; exact h7 rfl hp
        · simp [e5, e7, x7.cell, hset.cell, x5.cell, hz]
          refine ⟨fun k => k = b8, ⟨?_, fun _ => Iff.rfl, hE3, by omega⟩, ⟨hM3, fun k hk => .inl ((h5 k).2 hk)⟩⟩
          have := hset; push_cast at this; exact this
      · have htn : ((turn : Int) == 0) = false := by simp; omega
        simp [e7, x7.cell, htn]
        refine ⟨fun k => k = b8, ⟨?_, fun _ => Iff.rfl, hE3, fun h => (ht0 h).elim⟩, ⟨hM3, fun k hk => .inl ((h5 k).2 hk)⟩⟩
        have := hset; push_cast at this; exact this
    · rintro C ys W rfl ⟨h1, h5, h6, h7⟩ hD
      have u4 := v4.ext h6
      have u5 := v5.ext h6
      have u7 := v7.ext h6
      by_cases ht0 : turn = 0
      · subst ht0
        have hmn : ((ys.length : Int) != min (ys.length : Int) (max 1 z)) = false := by
          have : (ys.length : Int) = min (ys.length : Int) (max 1 z) := by
            by_cases h0 : ys = []
            · subst h0; simp; omega
            · have := h7 rfl h0; omega
          rw [← this]; simp
        simp [e4, e5, e7, u7.cell, h1.cell, u4.cell, u5.cell, hmn, q1]
        obtain ⟨x, f1, f2, f3, f4, f5, f6, f7, f8, f9⟩ := fin W 1 h6 hD
        exact ⟨1, by omega, 1, rfl, by omega, e0, e6, x, f1, f2, f3, f4, f5, f6, f7, f8, f9⟩
      · obtain rfl : turn = 1 := by omega
        simp [e4, e5, e7, u7.cell, h1.cell, u4.cell, q2]
        obtain ⟨x, f1, f2, f3, f4, f5, f6, f7, f8, f9⟩ := fin W 2 h6 hD
        exact ⟨2, by omega, by omega, e0, e6, x, f1, f2, f3, f4, f5, f6, f7, f8, f9⟩
    · rintro cd C pre W hsp ⟨rfl, ht0, h1, h6, h7, h8, h5⟩ hD
      have u4 := v4.ext h6
      have u5 := v5.ext h6
      have u7 := v7.ext h6
      subst ht0
      obtain ⟨hne, suf, hsuf⟩ := hsp
      have hql : pre.length ≤ xs.length := by rw [hsuf]; simp
      have hq0 : 0 < pre.length := List.length_pos_iff.2 hne
      have hmn : ((pre.length : Int) != min (xs.length : Int) (max 1 z)) = false := by
        have : (pre.length : Int) = min (xs.length : Int) (max 1 z) := by omega
        rw [← this]; simp
      simp [e4, e5, e7, u7.cell, h1.cell, u4.cell, u5.cell, hmn, q1]
      obtain ⟨x, f1, f2, f3, f4, f5, f6, f7, f8, f9⟩ := fin W 1 h6 hD
      exact ⟨1, by omega, 1, rfl, by omega, e0, e6, x, f1, f2, f3, f4, f5, f6, f7, f8, f9⟩
  · have htb : ¬ (turn : Int) < 2 := by omega
    simp [e7, v7.cell, htb, e6, v6.cell, v6.thaw]
    have hM := Mod.setCell (S := (· = B + 2)) (Mod.refl _ w1) ⟨B + 2, 0, none⟩ (.bool true) (.inl rfl)
    have v6' := v6.set (.bool true)
    have hs6 := v6.lt
    generalize (w1.setCell ⟨B + 2, 0, none⟩ (.bool true)) = w5 at hM v6' ⊢
    refine LV_marks Ds w5 hDn (fun D hD => ?_) fun w' hM' => ?_
    · have := hDs D hD
      exact hM.obj this.2 (by omega)
    · have v6'' := v6'.mod hM' (fun h => by have := (hDs _ h).1; omega)
      simp [v6''.cell, e6]
      refine ⟨hM'.os.trans (hM.os.trans hE.os), hM'.tape.trans (hM.tape.trans hE.tape), hM'.out.trans (hM.out.trans hE.out), Nat.le_trans hE.size (Nat.le_trans hM.size hM'.size), fun i hi => ?_⟩
      rw [hM'.blk i (Nat.lt_of_lt_of_le hi (Nat.le_trans hE.size hM.size)) (fun h => by have := (hDs _ h).1; omega), hM.blk i (Nat.lt_of_lt_of_le hi hE.size) (by omega), hE.blk i hi]
end Go.Proofs
