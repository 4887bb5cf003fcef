/-
  Contracts of the functions that the law reaches, step by step.
-/
import Derived.Test.YtoeklmmapjhaaaaGreatDoorPbG
import Derived.Test.YtoeklmmapjhaaaaGreatDoorPaM
namespace Go.Proofs
open Pk
set_option maxRecDepth 10000
def mark (D : Nat) : Deferred := { target := .collected D, args := #[] }
/-- Marks behind ranges over functions: they are taken up at the return. -/
theorem LV_marks {P : Program} {rs : Array ResultVar} {R : Ending → World → Prop} {ρ : Env} : ∀ (Ds : List Nat) (w : World), Ds.Nodup → (∀ D ∈ Ds, w.heap[D]? = some (.deferred (some []))) → (∀ w', Mod (· ∈ Ds) w w' → LV P rs R ρ [] .returning w') →
    LV P rs R ρ (Ds.map mark) .returning w
  | [], w, _, _, hk => hk w (Mod.refl _ _)
  | D :: Ds, w, hn, hm, hk => by
    obtain ⟨h1, h2⟩ := List.nodup_cons.1 hn
    refine LV_mark (hm D (by simp)) (by simp) ?_
    refine LV_marks Ds _ h2 (fun E hE => ?_) fun w' hM => ?_
    · rw [World.putObj_heap_other (fun e => h1 (by rw [← e]; exact hE))]
      exact hm E (by simp [hE])
    · refine hk w' ?_
      exact ((Mod.putObj D _).weaken fun i hi => by simp [hi]).trans (hM.weaken fun i hi => by simp [hi])
theorem gval_gM (l : List Cr) (g : Int) : kGval (gM l) g = i64 (gN l g) := by
  unfold kGval
  rw [← gM_d]
  cases mget (gM l) g <;> rfl
structure GFix (W : World) (B b7 b8 gb gr : Nat) (bp bq : Bool) (pv qv gv nv : Value) (p q : List Cr) (gs : List Int) (z : Int) : Prop where
  fp : PtAt W B bp pv
  fq : PtAt W (B + 1) bq qv
  fz : Var W (B + 2) (i64 z)
  fo : Var W (B + 3) (.bool false)
  fg : Var W b7 gv
  fn : Var W b8 nv
  fgs : Sl W 1 gv gs.length (gs.map u32)
  fns : Sl W 1 nv gs.length ((nsOf p gs).map i64)
  fps : CSl W pv p
  fqs : CSl W qv q
  fgc : Var W gb (.map (some gr))
  fgm : MapAt (Value.int .u32) (Value.int .i64) W gr (gM p)
theorem GFix.ext {W W' : World} {B b7 b8 gb gr : Nat} {bp bq : Bool} {pv qv gv nv : Value} {p q : List Cr} {gs : List Int} {z : Int} (h : GFix W B b7 b8 gb gr bp bq pv qv gv nv p q gs z) (hE : Ext W W') : GFix W' B b7 b8 gb gr bp bq pv qv gv nv p q gs z :=
  ⟨h.fp.ext hE, h.fq.ext hE, h.fz.ext hE, h.fo.ext hE, h.fg.ext hE, h.fn.ext hE, h.fgs.ext hE, h.fns.ext hE, SlB.ext h.fps hE, SlB.ext h.fqs hE, h.fgc.ext hE, h.fgm.ext hE⟩
set_option maxHeartbeats 4000000 in
theorem lawGates_c {w : World} {pv qv : Value} {p q : List Cr} (hp : CSl w pv p) (hq : CSl w qv q) (bp bq : Bool) (z : Int) :
    FN Tryz.prog 3 [ptV bp pv, ptV bq qv, i64 z] w fun e w' => e = .returned (.bool true) ∧ Ext w w' := by
  refine FN_enter Tryz.func3 rfl rfl (by kernel_rfl) ?_
  have plen := fun ty W => hp.isLen (P := Tryz.prog) (t := 22) (by simp) ty W
  have qlen := fun ty W => hq.isLen (P := Tryz.prog) (t := 22) (by simp) ty W
  obtain ⟨pa, pc, rfl⟩ := hp.isSlice
  obtain ⟨qa, qc, rfl⟩ := hq.isSlice
  have hE1 : Ext w ((((w.alloc (.cells #[.bool bp, .slice pa p.length pc] 24)).alloc (.cells #[.bool bq, .slice qa q.length qc] 24)).alloc (.cells #[i64 z] 3)).alloc (.cells #[.bool false] 4)) := ((((Ext.refl w).alloc _).alloc _).alloc _).alloc _
  have o1 : Var ((((w.alloc (.cells #[.bool bp, .slice pa p.length pc] 24)).alloc (.cells #[.bool bq, .slice qa q.length qc] 24)).alloc (.cells #[i64 z] 3)).alloc (.cells #[.bool false] 4)) (w.heap.size + 1 + 1 + 1) (.bool false) := by
    have := Var.new (((w.alloc (.cells #[.bool bp, .slice pa p.length pc] 24)).alloc (.cells #[.bool bq, .slice qa q.length qc] 24)).alloc (.cells #[i64 z] 3)) (.bool false) 4
    simpa using this
  have hlong : ∀ (w2 : World), Ext ((((w.alloc (.cells #[.bool bp, .slice pa p.length pc] 24)).alloc (.cells #[.bool bq, .slice qa q.length qc] 24)).alloc (.cells #[i64 z] 3)).alloc (.cells #[.bool false] 4)) w2 → Ext w (w2.setCell ⟨w.heap.size + 1 + 1 + 1, 0, none⟩ (.bool true)) := fun w2 hE2 => by
    have hM3 := (Mod.refl (fun k => k = w.heap.size + 1 + 1 + 1) w2).setC 0 (.bool true)
    exact ((hE1.trans hE2).mod.trans hM3).ext fun k hk => by omega
  by_cases h1 : (100 : Int) < p.length
  · simp [plen, h1]
    generalize hw1 : ((((w.alloc (.cells #[.bool bp, .slice pa p.length pc] 24)).alloc (.cells #[.bool bq, .slice qa q.length qc] 24)).alloc (.cells #[i64 z] 3)).alloc (.cells #[.bool false] 4)) = w1 at *
    refine FN.mono (works_c _) ?_
    rintro _ w2 ⟨rfl, hE2⟩
    have o2 := o1.ext hE2
    simp [o2.cell, o2.thaw, (o2.set (.bool true)).cell]
    exact hlong _ hE2
  by_cases h2 : (100 : Int) < q.length
  · simp [plen, qlen, h1, h2]
    generalize hw1 : ((((w.alloc (.cells #[.bool bp, .slice pa p.length pc] 24)).alloc (.cells #[.bool bq, .slice qa q.length qc] 24)).alloc (.cells #[i64 z] 3)).alloc (.cells #[.bool false] 4)) = w1 at *
    refine FN.mono (works_c _) ?_
    rintro _ w2 ⟨rfl, hE2⟩
    have o2 := o1.ext hE2
    simp [o2.cell, o2.thaw, (o2.set (.bool true)).cell]
    exact hlong _ hE2
  have p1 : PtAt ((((w.alloc (.cells #[.bool bp, .slice pa p.length pc] 24)).alloc (.cells #[.bool bq, .slice qa q.length qc] 24)).alloc (.cells #[i64 z] 3)).alloc (.cells #[.bool false] 4)) w.heap.size bp (.slice pa p.length pc) := (PtAt.new w _ _ _).ext ((((Ext.refl _).alloc _).alloc _).alloc _)
  have q1 : PtAt ((((w.alloc (.cells #[.bool bp, .slice pa p.length pc] 24)).alloc (.cells #[.bool bq, .slice qa q.length qc] 24)).alloc (.cells #[i64 z] 3)).alloc (.cells #[.bool false] 4)) (w.heap.size + 1) bq (.slice qa q.length qc) := by
    have := (PtAt.new (w.alloc (.cells #[.bool bp, .slice pa p.length pc] 24)) bq (.slice qa q.length qc) 24).ext (((Ext.refl _).alloc (.cells #[i64 z] 3)).alloc (.cells #[.bool false] 4))
    simpa using this
  have z1 : Var ((((w.alloc (.cells #[.bool bp, .slice pa p.length pc] 24)).alloc (.cells #[.bool bq, .slice qa q.length qc] 24)).alloc (.cells #[i64 z] 3)).alloc (.cells #[.bool false] 4)) (w.heap.size + 1 + 1) (i64 z) := by
    have := (Var.new ((w.alloc (.cells #[.bool bp, .slice pa p.length pc] 24)).alloc (.cells #[.bool bq, .slice qa q.length qc] 24)) (i64 z) 3).ext ((Ext.refl _).alloc (.cells #[.bool false] 4))
    simpa using this
  have s1 : ((((w.alloc (.cells #[.bool bp, .slice pa p.length pc] 24)).alloc (.cells #[.bool bq, .slice qa q.length qc] 24)).alloc (.cells #[i64 z] 3)).alloc (.cells #[.bool false] 4)).heap.size = w.heap.size + 1 + 1 + 1 + 1 := by simp
  simp [plen, qlen, h1, h2]
  clear hlong
  generalize ((((w.alloc (.cells #[.bool bp, .slice pa p.length pc] 24)).alloc (.cells #[.bool bq, .slice qa q.length qc] 24)).alloc (.cells #[i64 z] 3)).alloc (.cells #[.bool false] 4)) = w1 at *
  refine FN.mono (rgates_c (SlB.ext hp hE1) bp (by omega)) ?_
  rintro _ w2 ⟨gs, gv, nv, rfl, hS, hgo, hno, hE2⟩
  obtain ⟨ga, gc, rfl⟩ := own_val hgo
  obtain ⟨na, nc, rfl⟩ := own_val hno
  have p2 := p1.ext hE2
  simp [p2.c0, p2.c1]
  have hE3 : Ext w2 ((w2.alloc (.cells #[.slice ga gs.length gc] 26)).alloc (.cells #[.slice na gs.length nc] 27)) := ((Ext.refl _).alloc _).alloc _
  have g3 : Var ((w2.alloc (.cells #[.slice ga gs.length gc] 26)).alloc (.cells #[.slice na gs.length nc] 27)) w2.heap.size (.slice ga gs.length gc) := (Var.new w2 _ _).ext ((Ext.refl _).alloc _)
  have n3 : Var ((w2.alloc (.cells #[.slice ga gs.length gc] 26)).alloc (.cells #[.slice na gs.length nc] 27)) (w2.heap.size + 1) (.slice na gs.length nc) := by
    have := Var.new (w2.alloc (.cells #[.slice ga gs.length gc] 26)) (.slice na gs.length nc) 27
    simpa using this
  generalize ((w2.alloc (.cells #[.slice ga gs.length gc] 26)).alloc (.cells #[.slice na gs.length nc] 27)) = w3 at *
  have hE13 := hE1.trans (hE2.trans hE3)
  have p3 := p2.ext hE3
  refine FN.mono (gates_c (SlB.ext hp hE13) bp (by omega)) ?_
  rintro _ w4 ⟨gb, gr, rfl, gv4, gm4, hE4, hgb, hgr, hgrb⟩
  simp
  have hE5 : Ext w4 (w4.alloc (.cells #[i64 0] 3)) := (Ext.refl _).alloc _
  have t5 := Var.new w4 (i64 0) 3
  have hE15 := hE13.trans (hE4.trans hE5)
  have hE25 := hE3.trans (hE4.trans hE5)
  have F : GFix (w4.alloc (.cells #[i64 0] 3)) w.heap.size w2.heap.size (w2.heap.size + 1) gb gr bp bq (.slice pa p.length pc) (.slice qa q.length qc) (.slice ga gs.length gc) (.slice na gs.length nc) p q gs z :=
    ⟨p1.ext (hE2.trans hE25), q1.ext (hE2.trans hE25), z1.ext (hE2.trans hE25), o1.ext (hE2.trans hE25), g3.ext (hE4.trans hE5), n3.ext (hE4.trans hE5), (sl_of_own hgo).ext hE25, (sl_of_own hno).ext hE25,
      SlB.ext hp hE15, SlB.ext hq hE15, gv4.ext hE5, gm4.ext hE5⟩
  obtain ⟨b10, hb10⟩ : ∃ b10, b10 = w4.heap.size := ⟨_, rfl⟩
  have s5 : (w4.alloc (.cells #[i64 0] 3)).heap.size = b10 + 1 := by simp [hb10]
  have hs4 := hE4.size
  have hs13 := hE13.size
  have hs2 := hE2.size
  have hs3 := hE3.size
  rw [← hb10] at t5 ⊢
  generalize (w4.alloc (.cells #[i64 0] 3)) = w5 at *
  obtain ⟨B, hB⟩ : ∃ B, B = w.heap.size := ⟨_, rfl⟩
  obtain ⟨b7, hb7⟩ : ∃ b7, b7 = w2.heap.size := ⟨_, rfl⟩
  rw [← hB, ← hb7] at F ⊢
  have hBb : B + 3 < b7 := by omega
  have hb74 : b7 + 1 < b10 := by have := g3.lt; have := n3.lt; omega
  have hgb4 : gb < b10 ∧ gr < b10 := by rw [hb10]; exact ⟨gv4.lt, gm4.lt⟩
  have hml := (gM_all p).2
  have glen := fun ty W => F.fgs.isLen (P := Tryz.prog) (t := 26) (by simp) ty W
  have q1' : IntKind.i64.wrap 1 = 1 := by decide
  have q2' : IntKind.i64.wrap 2 = 2 := by decide
  have hgl := hS.len
  refine WC_loop (fun k ρ ds w' => ∃ (turn b : Nat) (Ds : List Nat), k = 2 - turn ∧ turn ≤ 2 ∧ ρ 3 = ptr B ∧ ρ 4 = ptr (B + 1) ∧ ρ 5 = ptr (B + 2) ∧ ρ 6 = ptr (B + 3) ∧ ρ 7 = ptr b7 ∧ ρ 8 = ptr (b7 + 1) ∧ ρ 9 = .func (.func 16) #[] #[ptr gb] ∧ ρ 10 = ptr b ∧ ds = Ds.map mark ∧ Ds.Nodup ∧ (∀ D ∈ Ds, b10 < D ∧ w'.heap[D]? = some (.deferred (some []))) ∧
    Var w' b (i64 turn) ∧ b10 ≤ b ∧ Ext w5 w') 2
    ⟨0, b10, [], rfl, by omega, by simp, by simp [Nat.add_assoc], by simp [Nat.add_assoc], by simp [Nat.add_assoc], by simp, by simp, by simp, by simp, rfl, List.nodup_nil, (fun D h => by cases h), t5, by omega, Ext.refl _⟩ ?_
  rintro k ρ ds w6 ⟨turn, b, Ds, rfl, ht2, e3, e4, e5, e6, e7, e8, e9, e10, rfl, hDn, hDs, vb, hbb, hE6⟩
  by_cases ht : turn < 2
  · have htb : (turn : Int) < 2 := by omega
    simp [e9, e10, vb.cell, htb]
    have eA : Ext w6 (w6.alloc (.cells #[i64 0] 3)) := (Ext.refl _).alloc _
    have v11 := Var.new w6 (i64 0) 3
    have s7 : (w6.alloc (.cells #[i64 0] 3)).heap.size = w6.heap.size + 1 := by simp
    obtain ⟨b11, hb11⟩ : ∃ b11, b11 = w6.heap.size := ⟨_, rfl⟩
    rw [← hb11] at v11 s7 ⊢
    generalize (w6.alloc (.cells #[i64 0] 3)) = w7 at *
    have hE7 := hE6.trans eA
    have F7 := F.ext hE7
    have vb7 := vb.ext eA
    have hs6 := hE6.size
    have hbl := vb.lt
    have fin : ∀ (W : World) (q' : Int), Ext w6 W → W.heap[w7.heap.size]? = some (.deferred (some [])) → ∃ x : List Nat, ({ target := .collected w7.heap.size, args := #[] } :: Ds.map mark : List Deferred) = x.map mark ∧ x.Nodup ∧
        (∀ D ∈ x, b10 < D ∧ W.heap[D]? = some (.deferred (some []))) ∧ Var (W.alloc (.cells #[i64 q'] 3)) W.heap.size (i64 q') ∧ b10 ≤ W.heap.size ∧ Ext w5 (W.alloc (.cells #[i64 q'] 3)) := by
      intro W q' hx hD
      have hy := hx.trans ((Ext.refl W).alloc (.cells #[i64 q'] 3))
      have hsz := hx.size
      refine ⟨w7.heap.size :: Ds, rfl, List.nodup_cons.2 ⟨fun hm => ?_, hDn⟩, ?_, Var.new _ _ _, by omega, hE6.trans hy⟩
      · have := (hDs _ hm).2
        have := (Array.getElem?_eq_some_iff.1 this).1
        omega
      · intro D hm
        rcases List.mem_cons.1 hm with rfl | hm
        · exact ⟨by omega, hD⟩
        · exact ⟨(hDs D hm).1, hx.obj (hDs D hm).2⟩
    refine WC_rangeFunc (gf := 16) (first := #[]) (caps := #[ptr gb]) (enc := kGst (gM p)) (by simp) (fun _ _ => callFunc_enter Tryz.func16 rfl rfl _ _) (gates_it F7.fgc F7.fgm (by omega) hS.keys) (fun x => rfl) (fun k => k = b11)
      (fun C pre W => Var W b11 (i64 pre.length) ∧ (∀ k, C k ↔ k = b11) ∧ Ext w6 W ∧ (turn = 0 → pre ≠ [] → (pre.length : Int) < z))
      (fun cd C pre W => cd = .exit 2 ∧ turn = 0 ∧ Var W b11 (i64 pre.length) ∧ Ext w6 W ∧ z ≤ pre.length ∧ ((pre.length : Int) - 1 < z ∨ pre.length = 1) ∧ (∀ k, C k ↔ k = b11))
      (fun k hk => ⟨?_, ?_⟩) (fun k hk => by omega) ?_ ?_ ⟨by simpa using v11, fun _ => Iff.rfl, eA, fun _ h => (h rfl).elim⟩ ?ρ ?ha ?_ ?_ ?_
    case ha =>
      intro l x W
      simp [kGst]
      exact rfl
    · rcases hk with rfl | rfl <;> omega
    · rcases hk with rfl | rfl <;> omega
    · rintro C pre W W' ⟨h1, h5, h6, h7⟩ hag
      refine ⟨h1.agr hag (.inr ((h5 _).2 rfl)), h5, ?_, h7⟩
      exact ⟨hag.os.trans h6.os, hag.tape.trans h6.tape, hag.out.trans h6.out, Nat.le_trans h6.size hag.size, fun i hi => (hag.blk i (Nat.lt_of_lt_of_le hi h6.size) (.inl (by omega))).trans (h6.blk i hi)⟩
    · rintro cd C pre W W' ⟨h0, ht0, h1, h6, h7, h8, h5⟩ hag
      refine ⟨h0, ht0, h1.agr hag (.inr ((h5 _).2 rfl)), ?_, h7, h8, h5⟩
      exact ⟨hag.os.trans h6.os, hag.tape.trans h6.tape, hag.out.trans h6.out, Nat.le_trans h6.size hag.size, fun i hi => (hag.blk i (Nat.lt_of_lt_of_le hi h6.size) (.inl (by omega))).trans (h6.blk i hi)⟩
    · rintro l C pre x W hsp ⟨h1, h5, h6, h7⟩ - - -
      obtain ⟨_, suf, hsuf⟩ := hsp
      have hql : pre.length < gs.length := by rw [hsuf]; simp
      have hxq : gs[pre.length]? = some x := by rw [hsuf]; simp
      have FW := F.ext (hE6.trans h6)
      have vbW := vb.ext h6
      have d1 := FW.fgs.at_ pre.length (u32 x) (by simp [hxq])
      have d2 := FW.fns.at_ pre.length (i64 (gN p x)) (by simp [nsOf, hxq])
      have ix := fun W => F.fgs.index (P := Tryz.prog) (t := 26) (by simp) .i64 pre.length (by omega) (by omega) W
      have ix2 := fun W => F.fns.index (P := Tryz.prog) (t := 27) (by simp) .i64 pre.length (by omega) (by omega) W
      simp at ix ix2
      have wq : IntKind.i64.wrap ((pre.length : Int) + 1) = ((pre.length + 1 : Nat) : Int) := by rw [wrap64 _ (by omega) (by omega)]; rfl
      have hnl : ¬ gs.length ≤ pre.length := by omega
      have hset := h1.set (i64 ((pre.length + 1 : Nat) : Int))
      simp [gval_gM, e7, e8, e10, h1.cell, h1.thaw, FW.fg.cell, FW.fn.cell, glen, hnl, ix, ix2, d1, d2]
      rw [wq]
      obtain ⟨W3, hW3⟩ : ∃ W3, W3 = W.setCell ⟨b11, 0, none⟩ (i64 ((pre.length + 1 : Nat) : Int)) := ⟨_, rfl⟩
      rw [← hW3] at hset ⊢
      have hM3 : Mod (fun k => k = b11) W W3 := by rw [hW3]; exact (Mod.refl _ W).setC 0 _
      have hE3 : Ext w6 W3 := (h6.mod.trans hM3).ext fun k hk => by omega
      have F3 := F.ext (hE6.trans hE3)
      have vb3 := vb.ext hE3
      have hMC : Own C (fun k => k = b11) W W3 := ⟨hM3.weaken fun k hk => (h5 k).2 hk, fun k hk => .inl ((h5 k).2 hk)⟩
      by_cases ht0 : turn = 0
      · subst ht0
        by_cases hz : z ≤ (pre.length : Int) + 1
        · simp [e5, vb3.cell, hset.cell, F3.fz.cell, hz]
          refine ⟨fun k => k = b11, ⟨?_, hE3, ?_, fun _ => Iff.rfl⟩, hMC⟩
          · have := hset; push_cast at this; exact this
          · by_cases hp : pre = []
            · right; exact hp
            · left; exact h7 rfl hp
        · simp [e5, vb3.cell, hset.cell, F3.fz.cell, hz]
          refine ⟨fun k => k = b11, ⟨?_, fun _ => Iff.rfl, hE3, by omega⟩, hMC⟩
          have := hset; push_cast at this; exact this
      · have htn : ((turn : Int) == 0) = false := by simp; omega
        simp [vb3.cell, htn]
        refine ⟨fun k => k = b11, ⟨?_, fun _ => Iff.rfl, hE3, fun h => (ht0 h).elim⟩, hMC⟩
        have := hset; push_cast at this; exact this
    · rintro C ys W rfl ⟨h1, h5, h6, h7⟩ hD
      have FW := F.ext (hE6.trans h6)
      have vbW := vb.ext h6
      by_cases ht0 : turn = 0
      · subst ht0
        have hmn : ((ys.length : Int) != min (ys.length : Int) (max 1 z)) = false := by
          have : (ys.length : Int) = min (ys.length : Int) (max 1 z) := by
            by_cases h0 : ys = []
            · subst h0; simp; omega
            · have := h7 rfl h0; omega
          rw [← this]; simp
        simp [e5, e7, e10, vbW.cell, h1.cell, FW.fg.cell, FW.fz.cell, glen, hmn, q1']
        obtain ⟨x, f1, f2, f3, f4, f5, f6⟩ := fin W 1 h6 hD
        exact ⟨1, by omega, 1, rfl, by omega, e3, e4, e6, e8, e9, x, f1, f2, f3, f4, f5, f6⟩
      · obtain rfl : turn = 1 := by omega
        simp [e5, e7, e10, vbW.cell, h1.cell, FW.fg.cell, glen, q2']
        obtain ⟨x, f1, f2, f3, f4, f5, f6⟩ := fin W 2 h6 hD
        exact ⟨2, by omega, by omega, e3, e4, e6, e8, e9, x, f1, f2, f3, f4, f5, f6⟩
    · rintro cd C pre W hsp ⟨rfl, ht0, h1, h6, h7, h8, h5⟩ hD
      have FW := F.ext (hE6.trans h6)
      have vbW := vb.ext h6
      subst ht0
      obtain ⟨hne, suf, hsuf⟩ := hsp
      have hql : pre.length ≤ gs.length := by rw [hsuf]; simp
      have hq0 : 0 < pre.length := List.length_pos_iff.2 hne
      have hmn : ((pre.length : Int) != min (gs.length : Int) (max 1 z)) = false := by
        have : (pre.length : Int) = min (gs.length : Int) (max 1 z) := by omega
        rw [← this]; simp
      simp [e5, e7, e10, vbW.cell, h1.cell, FW.fg.cell, FW.fz.cell, glen, hmn, q1']
      obtain ⟨x, f1, f2, f3, f4, f5, f6⟩ := fin W 1 h6 hD
      exact ⟨1, by omega, 1, rfl, by omega, e3, e4, e6, e8, e9, x, f1, f2, f3, f4, f5, f6⟩
  · have htb : ¬ (turn : Int) < 2 := by omega
    have F6 := F.ext hE6
    simp [e3, e4, e10, vb.cell, htb, F6.fp.c0, F6.fp.c1, F6.fq.c0, F6.fq.c1]
    refine FN.mono (rsame_c bp bq F6.fps F6.fqs (by omega)) ?_
    rintro _ w7 ⟨rfl, hE7⟩
    have F7 := F6.ext hE7
    simp [e3, e4, F7.fp.c0, F7.fp.c1, F7.fq.c0, F7.fq.c1]
    refine FN.mono (psame_c bp bq F7.fps F7.fqs (by omega)) ?_
    rintro _ w8 ⟨rfl, hE8⟩
    have F8 := F7.ext hE8
    simp [e3, e4, F8.fp.c0, F8.fp.c1, F8.fq.c0, F8.fq.c1]
    refine FN.mono (psame_c bq bp F8.fqs F8.fps (by omega)) ?_
    rintro _ w9 ⟨rfl, hE9⟩
    have F9 := F8.ext hE9
    have hsym : decide (bq = bp ∧ q = p) = decide (bp = bq ∧ p = q) := by
      have : (bq = bp ∧ q = p) ↔ (bp = bq ∧ p = q) := ⟨fun h => ⟨h.1.symm, h.2.symm⟩, fun h => ⟨h.1.symm, h.2.symm⟩⟩
      simp [this]
    rw [hsym]
    simp [e3, F9.fp.c0, F9.fp.c1]
    refine FN.mono (psame_c bp bp F9.fps F9.fps (by omega)) ?_
    rintro _ wa ⟨rfl, hEa⟩
    simp
    refine FN.mono (works_c _) ?_
    rintro _ wb ⟨rfl, hEb⟩
    have hE6b := hE7.trans (hE8.trans (hE9.trans (hEa.trans hEb)))
    have Fb := F6.ext hE6b
    simp [e6, Fb.fo.cell, Fb.fo.thaw]
    have hM := (Mod.refl (fun k => k = B + 3) wb).setC 0 (.bool true)
    have ho := Fb.fo.set (.bool true)
    have hEf : Ext w (wb.setCell ⟨B + 3, 0, none⟩ (.bool true)) := (((hE15.trans hE6).trans hE6b).mod.trans hM).ext fun k hk => by omega
    have hlf := Fb.fo.lt
    generalize (wb.setCell ⟨B + 3, 0, none⟩ (.bool true)) = wc at *
    refine LV_marks Ds wc hDn (fun D hD => ?_) fun w' hM' => ?_
    · have := hDs D hD
      exact hM.obj (hE6b.obj this.2) (by omega)
    · have ho' := ho.mod hM' (fun h => by have := (hDs _ h).1; omega)
      simp [ho'.cell, e6]
      exact (hEf.mod.trans hM').ext fun D hD => by have := (hDs D hD).1; omega
end Go.Proofs
