/-
  Contracts of the functions that the law reaches, step by step.
-/
import Derived.Test.YtfppepjaopbanaaRkW
namespace Go.Proofs
open Pk
set_option maxRecDepth 10000
/-- A line and the document's, apart. -/
structure Both (Pd Vd : Nat → Prop) (wb W : World) (l : Nat) (v : Value) (s : List Wt) (most : Int) : Prop where
  ex : ∃ Rq Rw M N, LineAt W l Rq Rw M N s most ∧ (∀ k, Foot l Rq Rw M k → Pd k) ∧ (slN v = false → ¬ Foot l Rq Rw M (slB v))
  row : WSl W v s
  lt : slN v = false → slB v < W.heap.size ∧ Vd (slB v)
  ext : Mod Pd wb W
theorem Both.ext' {Pd Vd : Nat → Prop} {wb W W' : World} {l : Nat} {v : Value} {s : List Wt} {most : Int} (h : Both Pd Vd wb W l v s most) (hE : Ext W W') : Both Pd Vd wb W' l v s most := by
  obtain ⟨⟨Rq, Rw, M, N, h1, h2, h3⟩, h4, h5, h6⟩ := h
  exact ⟨⟨Rq, Rw, M, N, h1.ext hE, h2, h3⟩, h4.ext hE, fun hn => ⟨Nat.lt_of_lt_of_le (h5 hn).1 hE.size, (h5 hn).2⟩, h6.trans hE.mod⟩
theorem Both.step {Pd Vd : Nat → Prop} {wb W0 Wa Wb Wc Wd We : World} {l Rq Rw Rq' Rw' : Nat} {M M' : MQ} {N N' : MN} {v v' : Value} {s s' : List Wt} {most : Int} (hl : LineAt W0 l Rq Rw M N s most) (hF : ∀ k, Foot l Rq Rw M k → Pd k) (hd : slN v = false → ¬ Foot l Rq Rw M (slB v))
    (hlt : slN v = false → slB v < W0.heap.size ∧ Vd (slB v)) (hx : Mod Pd wb W0) (hP : ∀ k, W0.heap.size ≤ k → Pd k) (hV : ∀ k, W0.heap.size ≤ k → Vd k) (e0 : Ext W0 Wa) (hf : Fresh Wa Wb v v') (hrow : WSl Wb v' s') (ea : Ext Wa Wb) (eb : Ext Wb Wc) (hl' : LineAt Wd l Rq' Rw' M' N' s' most) (hM : Mod (Foot l Rq Rw M) Wc Wd)
    (hF' : ∀ k, Foot l Rq' Rw' M' k → Foot l Rq Rw M k ∨ Wc.heap.size ≤ k) {Sx : Nat → Prop} (ed : Mod Sx Wd We) (hS : ∀ k, Sx k → W0.heap.size ≤ k ∧ k < Wa.heap.size) : Both Pd Vd wb We l v' s' most := by
  have s0 := e0.size
  have sa := ea.size
  have sb := eb.size
  have sm := hM.size
  have sx := hx.size
  have key : slN v' = false → ¬ Foot l Rq Rw M (slB v') ∧ slB v' < Wb.heap.size := by
    intro hn
    rcases hf with rfl | hf
    · exact ⟨hd hn, by have := hlt hn; omega⟩
    · exact ⟨fun hk => by have := hl.lt _ hk; have := hf hn; omega, (hf hn).2⟩
  have sd := ed.size
  have nF : ∀ k, Foot l Rq' Rw' M' k → ¬ Sx k := fun k hk h => by
    have h1 := hS k h
    rcases hF' k hk with h2 | h2
    · have := hl.lt k h2; omega
    · omega
  have nv : slN v' = false → ¬ Sx (slB v') := fun hn h => by
    have h1 := hS _ h
    rcases hf with rfl | hf
    · have := hlt hn; omega
    · have := hf hn; omega
  refine ⟨⟨Rq', Rw', M', N', hl'.mod ed nF, fun k hk => ?_, fun hn hk => ?_⟩, ?_, fun hn => ?_, ?_⟩
  · rcases hF' k hk with h | h
    · exact hF k h
    · exact hP k (by omega)
  · rcases hF' _ hk with h | h
    · exact (key hn).1 h
    · have := (key hn).2; omega
  · by_cases hn : slN v' = false
    · exact ((hrow.ext eb).mod hM (key hn).1).mod ed (nv hn)
    · rcases hrow.val with ⟨c, e1, e2⟩ | ⟨b, o, c, e, -⟩
      · have hs : s' = [] := List.eq_nil_of_length_eq_zero e2
        subst hs
        rw [e1]
        exact Sl.nil We 7 c
      · rw [e] at hn; simp [slN] at hn
  · refine ⟨by have := (key hn).2; omega, ?_⟩
    rcases hf with rfl | hf
    · exact (hlt hn).2
    · exact hV _ (by have := hf hn; omega)
  · exact ((hx.trans (e0.trans (ea.trans eb)).mod).trans (hM.weaken hF)).trans (ed.weaken fun k hk => hP k (hS k hk).1)
noncomputable def XF (l Rq Rw : Nat) (M : MQ) (k : Nat) : Bool := @decide (Foot l Rq Rw M k) (Classical.propDecidable _)
theorem XF_f {l Rq Rw : Nat} {M : MQ} {k : Nat} (h : ¬ Foot l Rq Rw M k) : XF l Rq Rw M k = false := by simp [XF, h]
theorem XF_agr {l Rq Rw : Nat} {M : MQ} {W W' : World} (h : Mod (Foot l Rq Rw M) W W') : Agr (fun k => XF l Rq Rw M k = false) W W' := h.agr fun k hk hf => by simp [XF, hf] at hk
theorem KR_set2 {w : World} {B : Prop} {a b : Addr} {u v : Value} {k : Tok (And (Agr (fun _ => true = false) w ((w.setCell a u).setCell b v)) B)} (h : B) : KRt (Agr (fun _ => true = false) w ((w.setCell a u).setCell b v)) B k :=
  ⟨⟨rfl, rfl, rfl, by simp, fun _ _ h => by cases h⟩, h⟩
def actS (s : List Wt) (most : Int) (a : Int) (x : Wt) : List Wt :=
  if a = 0 then (if putE s most x = 0 then s ++ [x] else s) else if a = 1 then (if dropE s x.1 = 0 then mdel s x.1 else s) else if a = 4 then moved s x.1 x.2.1 else s
abbrev acV (a : Int) (x : Wt) : Value := .agg #[i64 a, u32 x.1.1, u32 x.1.2.1, u64 x.1.2.2.1, u32 x.1.2.2.2, u32 x.2.1, i64 x.2.2.1, i64 x.2.2.2]
set_option maxHeartbeats 4000000 in
theorem act_c {Pd Vd : Nat → Prop} {wb w : World} {l : Nat} {v : Value} {s : List Wt} {most : Int} (h : Both Pd Vd wb w l v s most) (hP : ∀ k, w.heap.size ≤ k → Pd k) (hV : ∀ k, w.heap.size ≤ k → Vd k) (a : Int) (x : Wt) (hx : WtOk x) (hb : s.length ≤ 1000) (hrk : ranked s) :
    FN Try.prog 14 [ptr l, rlV v most, acV a x] w fun e w' => ∃ v', e = .returned (.tuple #[rlV v' most, .bool true]) ∧ Both Pd Vd wb w' l v' (actS s most a x) most := by
  obtain ⟨⟨Rq, Rw, M, N, hl, hF, hd⟩, hrow, hlt, hX⟩ := h
  refine FN_enter Try.func14 rfl rfl (by kernel_rfl) ?_
  have hE1 : Ext w ((((w.alloc (.cells #[v, i64 most] 46)).alloc (.cells #[i64 a, u32 x.1.1, u32 x.1.2.1, u64 x.1.2.2.1, u32 x.1.2.2.2, u32 x.2.1, i64 x.2.2.1, i64 x.2.2.2] 51)).alloc (.cells #[.slice none 0 0, i64 0] 46)).alloc (.cells #[u32 x.1.1, u32 x.1.2.1, u64 x.1.2.2.1, u32 x.1.2.2.2, u32 x.2.1, i64 x.2.2.1, i64 x.2.2.2] 30)) := ((((Ext.refl w).alloc _).alloc _).alloc _).alloc _
  have hbx : RAt ((((w.alloc (.cells #[v, i64 most] 46)).alloc (.cells #[i64 a, u32 x.1.1, u32 x.1.2.1, u64 x.1.2.2.1, u32 x.1.2.2.2, u32 x.2.1, i64 x.2.2.1, i64 x.2.2.2] 51)).alloc (.cells #[.slice none 0 0, i64 0] 46)).alloc (.cells #[u32 x.1.1, u32 x.1.2.1, u64 x.1.2.2.1, u32 x.1.2.2.2, u32 x.2.1, i64 x.2.2.1, i64 x.2.2.2] 30)) w.heap.size v most := (RAt.new w v most).ext ((((Ext.refl _).alloc _).alloc _).alloc _)
  have hob : RAt ((((w.alloc (.cells #[v, i64 most] 46)).alloc (.cells #[i64 a, u32 x.1.1, u32 x.1.2.1, u64 x.1.2.2.1, u32 x.1.2.2.2, u32 x.2.1, i64 x.2.2.1, i64 x.2.2.2] 51)).alloc (.cells #[.slice none 0 0, i64 0] 46)).alloc (.cells #[u32 x.1.1, u32 x.1.2.1, u64 x.1.2.2.1, u32 x.1.2.2.2, u32 x.2.1, i64 x.2.2.1, i64 x.2.2.2] 30)) (w.heap.size + 1 + 1) (.slice none 0 0) 0 := by
    have := (RAt.new ((w.alloc (.cells #[v, i64 most] 46)).alloc (.cells #[i64 a, u32 x.1.1, u32 x.1.2.1, u64 x.1.2.2.1, u32 x.1.2.2.2, u32 x.2.1, i64 x.2.2.1, i64 x.2.2.2] 51)) (.slice none 0 0) 0).ext ((Ext.refl _).alloc (.cells #[u32 x.1.1, u32 x.1.2.1, u64 x.1.2.2.1, u32 x.1.2.2.2, u32 x.2.1, i64 x.2.2.1, i64 x.2.2.2] 30))
    simpa using this
  have hxa : WtAt ((((w.alloc (.cells #[v, i64 most] 46)).alloc (.cells #[i64 a, u32 x.1.1, u32 x.1.2.1, u64 x.1.2.2.1, u32 x.1.2.2.2, u32 x.2.1, i64 x.2.2.1, i64 x.2.2.2] 51)).alloc (.cells #[.slice none 0 0, i64 0] 46)).alloc (.cells #[u32 x.1.1, u32 x.1.2.1, u64 x.1.2.2.1, u32 x.1.2.2.2, u32 x.2.1, i64 x.2.2.1, i64 x.2.2.2] 30)) (w.heap.size + 1 + 1 + 1) x := by
    have := WtAt.new (((w.alloc (.cells #[v, i64 most] 46)).alloc (.cells #[i64 a, u32 x.1.1, u32 x.1.2.1, u64 x.1.2.2.1, u32 x.1.2.2.2, u32 x.2.1, i64 x.2.2.1, i64 x.2.2.2] 51)).alloc (.cells #[.slice none 0 0, i64 0] 46)) x 30
    simpa using this
  have hsz : ((((w.alloc (.cells #[v, i64 most] 46)).alloc (.cells #[i64 a, u32 x.1.1, u32 x.1.2.1, u64 x.1.2.2.1, u32 x.1.2.2.2, u32 x.2.1, i64 x.2.2.1, i64 x.2.2.2] 51)).alloc (.cells #[.slice none 0 0, i64 0] 46)).alloc (.cells #[u32 x.1.1, u32 x.1.2.1, u64 x.1.2.2.1, u32 x.1.2.2.2, u32 x.2.1, i64 x.2.2.1, i64 x.2.2.2] 30)).heap.size = w.heap.size + 1 + 1 + 1 + 1 := by simp
  have hws := hX.size
  unfold actS
  by_cases a0 : a = 0
  · subst a0
    simp
    generalize ((((w.alloc (.cells #[v, i64 most] 46)).alloc (.cells #[i64 0, u32 x.1.1, u32 x.1.2.1, u64 x.1.2.2.1, u32 x.1.2.2.2, u32 x.2.1, i64 x.2.2.1, i64 x.2.2.2] 51)).alloc (.cells #[.slice none 0 0, i64 0] 46)).alloc (.cells #[u32 x.1.1, u32 x.1.2.1, u64 x.1.2.2.1, u32 x.1.2.2.2, u32 x.2.1, i64 x.2.2.1, i64 x.2.2.2] 30)) = w1 at *
    refine FN.mono (rput_c (hrow.ext hE1) most x hx hb) ?_
    rintro _ w2 ⟨v2, rfl, hr2, hf2, hE2⟩
    obtain ⟨va, vc, hv2⟩ := hr2.isSlice
    have hE12 := hE1.trans hE2
    have s2 := hE2.size
    have a2 : Ext w2 (w2.alloc (.cells #[v2, i64 most] 46)) := (Ext.refl w2).alloc _
    have r2 := RAt.new w2 v2 most
    have z2 : (w2.alloc (.cells #[v2, i64 most] 46)).heap.size = w2.heap.size + 1 := by simp
    rw [hv2] at a2 r2 z2
    simp [hv2]
    generalize (w2.alloc (.cells #[Value.slice va (if putE s most x = 0 then s ++ [x] else s).length vc, i64 most] 46)) = w3 at *
    have hE13 := hE12.trans a2
    have nF : ∀ k, w.heap.size ≤ k → ¬ Foot l Rq Rw M k := fun k hk hf => by have := hl.lt k hf; omega
    have X0 := XF_f (nF w2.heap.size (by omega))
    have X1 := XF_f (nF (w.heap.size + 1 + 1 + 1) (by omega))
    have X2 := XF_f (nF (w.heap.size + 1 + 1) (by omega))
    refine WC_drawL 8 (.F 0 <| .F 1 <| .F 2 <| .F 5 <| .C 3 <| .C 4 <| .F 6 <| .S 7 <| .Z) (XF l Rq Rw M) (XF l Rq Rw M) (fun _ _ _ => True) rfl (by kernel_rfl) (fun _ h => h) (fun _ _ _ _ _ _ => trivial) fun W hW => ?_
    have hWE : Ext w3 W := hW ▸ Ext.drew w3
    have r4 := r2.ext hWE
    have hx4 := hxa.ext (hE2.trans (a2.trans hWE))
    have ob4 := hob.ext (hE2.trans (a2.trans hWE))
    have hl4 := hl.ext (hE13.trans hWE)
    simp [r4.c0, r4.c1, hx4.c0, hx4.c1, hx4.c2, hx4.c3, hx4.c4, hx4.c5, hx4.c6, X0, X1]
    refine FN.mono (put_c hl4 (by omega) x) ?_
    rintro _ W5 ⟨rfl, M5, N5, g1, g2, g3⟩
    simp
    refine KR_mk (XF_agr g2) ?_
    simp
    refine FN.mono (num_c (putE s most x) W5) ?_
    rintro _ _ ⟨rfl, hw⟩
    subst hw
    rename_i W5
    simp
    refine KR_same ?_
    have ob5 := ob4.mod g2 (nF _ (by omega))
    simp [ob5.c0, ob5.c1, ob5.f0, ob5.f1, cell_setCell]
    have mV := ((Mod.refl (fun k => k = w.heap.size + 1 + 1) W5).setC 0 (.slice va (if putE s most x = 0 then s ++ [x] else s).length vc)).setC 1 (i64 most)
    refine KR_set2 ?_
    simp [ob5.c0, ob5.c1, cell_setCell]
    refine Both.step hl hF hd hlt hX hP hV hE1 (hv2 ▸ hf2) (hv2 ▸ hr2) hE2 (a2.trans hWE) g1 g2 g3 mV fun k hk => ?_
    omega
  · by_cases a1 : a = 1
    · subst a1
      simp
      generalize ((((w.alloc (.cells #[v, i64 most] 46)).alloc (.cells #[i64 1, u32 x.1.1, u32 x.1.2.1, u64 x.1.2.2.1, u32 x.1.2.2.2, u32 x.2.1, i64 x.2.2.1, i64 x.2.2.2] 51)).alloc (.cells #[.slice none 0 0, i64 0] 46)).alloc (.cells #[u32 x.1.1, u32 x.1.2.1, u64 x.1.2.2.1, u32 x.1.2.2.2, u32 x.2.1, i64 x.2.2.1, i64 x.2.2.2] 30)) = w1 at *
      refine FN.mono (rdrop_c (hrow.ext hE1) most x.1 hx.a hb hl.nd) ?_
      rintro _ w2 ⟨v2, rfl, hr2, -, hf2, hE2⟩
      obtain ⟨va, vc, hv2⟩ := hr2.isSlice
      have hE12 := hE1.trans hE2
      have s2 := hE2.size
      rw [hv2]
      have a2 : Ext w2 ((w2.alloc (.cells #[.slice va (if dropE s x.1 = 0 then mdel s x.1 else s).length vc, i64 most] 46)).alloc (.cells #[u32 (dropV s x.1).1.1, u32 (dropV s x.1).1.2.1, u64 (dropV s x.1).1.2.2.1, u32 (dropV s x.1).1.2.2.2, u32 (dropV s x.1).2.1, i64 (dropV s x.1).2.2.1, i64 (dropV s x.1).2.2.2] 30)) := ((Ext.refl w2).alloc _).alloc _
      have r2 : RAt ((w2.alloc (.cells #[.slice va (if dropE s x.1 = 0 then mdel s x.1 else s).length vc, i64 most] 46)).alloc (.cells #[u32 (dropV s x.1).1.1, u32 (dropV s x.1).1.2.1, u64 (dropV s x.1).1.2.2.1, u32 (dropV s x.1).1.2.2.2, u32 (dropV s x.1).2.1, i64 (dropV s x.1).2.2.1, i64 (dropV s x.1).2.2.2] 30)) w2.heap.size _ most := (RAt.new w2 _ most).ext ((Ext.refl _).alloc _)
      have y2 : WtAt ((w2.alloc (.cells #[.slice va (if dropE s x.1 = 0 then mdel s x.1 else s).length vc, i64 most] 46)).alloc (.cells #[u32 (dropV s x.1).1.1, u32 (dropV s x.1).1.2.1, u64 (dropV s x.1).1.2.2.1, u32 (dropV s x.1).1.2.2.2, u32 (dropV s x.1).2.1, i64 (dropV s x.1).2.2.1, i64 (dropV s x.1).2.2.2] 30)) (w2.heap.size + 1) (dropV s x.1) := by
        have := WtAt.new (w2.alloc (.cells #[.slice va (if dropE s x.1 = 0 then mdel s x.1 else s).length vc, i64 most] 46)) (dropV s x.1) 30
        simpa using this
      have z2 : ((w2.alloc (.cells #[.slice va (if dropE s x.1 = 0 then mdel s x.1 else s).length vc, i64 most] 46)).alloc (.cells #[u32 (dropV s x.1).1.1, u32 (dropV s x.1).1.2.1, u64 (dropV s x.1).1.2.2.1, u32 (dropV s x.1).1.2.2.2, u32 (dropV s x.1).2.1, i64 (dropV s x.1).2.2.1, i64 (dropV s x.1).2.2.2] 30)).heap.size = w2.heap.size + 1 + 1 := by simp
      have hx2 := hxa.ext hE2
      simp [hx2.c0, hx2.c1, hx2.c2, hx2.c3]
      generalize ((w2.alloc (.cells #[.slice va (if dropE s x.1 = 0 then mdel s x.1 else s).length vc, i64 most] 46)).alloc (.cells #[u32 (dropV s x.1).1.1, u32 (dropV s x.1).1.2.1, u64 (dropV s x.1).1.2.2.1, u32 (dropV s x.1).1.2.2.2, u32 (dropV s x.1).2.1, i64 (dropV s x.1).2.2.1, i64 (dropV s x.1).2.2.2] 30)) = w3 at *
      have hE13 := hE12.trans a2
      have nF : ∀ k, w.heap.size ≤ k → ¬ Foot l Rq Rw M k := fun k hk hf => by have := hl.lt k hf; omega
      refine FN.mono (drop_c (hl.ext hE13) (by omega) x.1) ?_
      rintro _ w4 ⟨rfl, M5, N5, g1, g2, g3⟩
      have a4 : Ext w4 (w4.alloc (.cells #[u32 (dropV s x.1).1.1, u32 (dropV s x.1).1.2.1, u64 (dropV s x.1).1.2.2.1, u32 (dropV s x.1).1.2.2.2, u32 (dropV s x.1).2.1, i64 (dropV s x.1).2.2.1, i64 (dropV s x.1).2.2.2] 30)) := (Ext.refl w4).alloc _
      have u4 := WtAt.new w4 (dropV s x.1) 30
      have z4 : (w4.alloc (.cells #[u32 (dropV s x.1).1.1, u32 (dropV s x.1).1.2.1, u64 (dropV s x.1).1.2.2.1, u32 (dropV s x.1).1.2.2.2, u32 (dropV s x.1).2.1, i64 (dropV s x.1).2.2.1, i64 (dropV s x.1).2.2.2] 30)).heap.size = w4.heap.size + 1 := by simp
      have s4 := g2.size
      simp
      obtain ⟨w5, hw5⟩ : ∃ w5, w5 = (w4.alloc (.cells #[u32 (dropV s x.1).1.1, u32 (dropV s x.1).1.2.1, u64 (dropV s x.1).1.2.2.1, u32 (dropV s x.1).1.2.2.2, u32 (dropV s x.1).2.1, i64 (dropV s x.1).2.2.1, i64 (dropV s x.1).2.2.2] 30)) := ⟨_, rfl⟩
      simp only [wtC] at u4
      rw [← hw5] at a4 z4 ⊢
      have u5 : WtAt w5 w4.heap.size (dropV s x.1) := hw5 ▸ WtAt.new w4 (dropV s x.1) 30
      have r5 := (r2.mod g2 (nF _ (by omega))).ext a4
      have y5 := (y2.mod g2 (nF _ (by omega))).ext a4
      have ob5 := ((hob.ext (hE2.trans a2)).mod g2 (nF _ (by omega))).ext a4
      refine WC_drawL 11 (.F 0 <| .F 1 <| .F 2 <| .C 3 <| .F 4 <| .F 5 <| .F 7 <| .C 6 <| .F 8 <| .F 9 <| .S 10 <| .Z) (fun _ => false) (fun _ => false) (fun _ _ _ => True) rfl (by kernel_rfl) (fun _ h => h) (fun _ _ _ _ _ _ => trivial) fun W hW => ?_
      have hWE : Ext w5 W := hW ▸ Ext.drew w5
      have r6 := r5.ext hWE
      have y6 := y5.ext hWE
      have u6 := u5.ext hWE
      have ob6 := ob5.ext hWE
      have hyy : wtB (dropV s x.1) (dropV s x.1) = true := wtB_t rfl
      simp [r6.c0, r6.c1, y6.c0, y6.c1, y6.c2, y6.c3, y6.c4, y6.c5, y6.c6, u6.c0, u6.c1, u6.c2, u6.c3, u6.c4, u6.c5, u6.c6, hyy]
      refine KR_same ?_
      simp
      refine FN.mono (num_c (dropE s x.1) W) ?_
      rintro _ _ ⟨rfl, hw⟩
      subst hw
      rename_i W
      simp
      refine KR_same ?_
      simp [ob6.c0, ob6.c1, ob6.f0, ob6.f1, cell_setCell]
      have mV := ((Mod.refl (fun k => k = w.heap.size + 1 + 1) W).setC 0 (.slice va (if dropE s x.1 = 0 then mdel s x.1 else s).length vc)).setC 1 (i64 most)
      refine KR_set2 ?_
      simp [ob6.c0, ob6.c1, cell_setCell]
      refine Both.step hl hF hd hlt hX hP hV hE1 (hv2 ▸ hf2) (hv2 ▸ hr2) hE2 a2 g1 g2 (fun k hk => .inl (g3 k hk)) ((a4.trans hWE).mod.trans mV) fun k hk => ?_
      omega
    · by_cases a2' : a = 2
      · subst a2'
        simp
        generalize ((((w.alloc (.cells #[v, i64 most] 46)).alloc (.cells #[i64 2, u32 x.1.1, u32 x.1.2.1, u64 x.1.2.2.1, u32 x.1.2.2.2, u32 x.2.1, i64 x.2.2.1, i64 x.2.2.2] 51)).alloc (.cells #[.slice none 0 0, i64 0] 46)).alloc (.cells #[u32 x.1.1, u32 x.1.2.1, u64 x.1.2.2.1, u32 x.1.2.2.2, u32 x.2.1, i64 x.2.2.1, i64 x.2.2.2] 30)) = w1 at *
        refine FN.mono (rget_c (hrow.ext hE1) most x.1 hx.a hb hrk) ?_
        rintro _ w2 ⟨rfl, hE2⟩
        have hE12 := hE1.trans hE2
        have s2 := hE2.size
        obtain ⟨gk, hgk⟩ : ∃ gk : Int, gk = if dropE s x.1 = 0 then (getI s x.1 : Int) else 0 := ⟨_, rfl⟩
        rw [← hgk]
        have a2 : Ext w2 (w2.alloc (.cells #[u32 (dropV s x.1).1.1, u32 (dropV s x.1).1.2.1, u64 (dropV s x.1).1.2.2.1, u32 (dropV s x.1).1.2.2.2, u32 (dropV s x.1).2.1, i64 (dropV s x.1).2.2.1, i64 (dropV s x.1).2.2.2] 30)) := (Ext.refl w2).alloc _
        have y2 : WtAt (w2.alloc (.cells #[u32 (dropV s x.1).1.1, u32 (dropV s x.1).1.2.1, u64 (dropV s x.1).1.2.2.1, u32 (dropV s x.1).1.2.2.2, u32 (dropV s x.1).2.1, i64 (dropV s x.1).2.2.1, i64 (dropV s x.1).2.2.2] 30)) w2.heap.size (dropV s x.1) := WtAt.new w2 (dropV s x.1) 30
        have z2 : (w2.alloc (.cells #[u32 (dropV s x.1).1.1, u32 (dropV s x.1).1.2.1, u64 (dropV s x.1).1.2.2.1, u32 (dropV s x.1).1.2.2.2, u32 (dropV s x.1).2.1, i64 (dropV s x.1).2.2.1, i64 (dropV s x.1).2.2.2] 30)).heap.size = w2.heap.size + 1 := by simp
        have hx2 := hxa.ext hE2
        simp [hx2.c0, hx2.c1, hx2.c2, hx2.c3]
        generalize (w2.alloc (.cells #[u32 (dropV s x.1).1.1, u32 (dropV s x.1).1.2.1, u64 (dropV s x.1).1.2.2.1, u32 (dropV s x.1).1.2.2.2, u32 (dropV s x.1).2.1, i64 (dropV s x.1).2.2.1, i64 (dropV s x.1).2.2.2] 30)) = w3 at *
        have hE13 := hE12.trans a2
        refine FN.mono (get_c (hl.ext hE13) (by omega) hrk x.1) ?_
        rintro _ w4 ⟨rfl, hE4⟩
        rw [← hgk]
        have s4 := hE4.size
        simp
        obtain ⟨w5, hw5⟩ : ∃ w5, w5 = (w4.alloc (.cells #[u32 (dropV s x.1).1.1, u32 (dropV s x.1).1.2.1, u64 (dropV s x.1).1.2.2.1, u32 (dropV s x.1).1.2.2.2, u32 (dropV s x.1).2.1, i64 (dropV s x.1).2.2.1, i64 (dropV s x.1).2.2.2] 30)) := ⟨_, rfl⟩
        have a4 : Ext w4 w5 := hw5 ▸ (Ext.refl w4).alloc _
        have u5 : WtAt w5 w4.heap.size (dropV s x.1) := hw5 ▸ WtAt.new w4 (dropV s x.1) 30
        rw [← hw5]
        have hE25 := (a2.trans hE4).trans a4
        have y5 := y2.ext (hE4.trans a4)
        have bx5 := hbx.ext (hE2.trans hE25)
        have ob5 := hob.ext (hE2.trans hE25)
        refine WC_drawL 16 (.F 0 <| .F 1 <| .F 2 <| .C 3 <| .F 4 <| .F 5 <| .F 6 <| .F 7 <| .F 8 <| .F 9 <| .F 10 <| .F 12 <| .C 11 <| .F 13 <| .F 14 <| .S 15 <| .Z) (fun _ => false) (fun _ => false) (fun _ _ _ => True) rfl (by kernel_rfl) (fun _ h => h) (fun _ _ _ _ _ _ => trivial) fun W hW => ?_
        have hWE : Ext w5 W := hW ▸ Ext.drew w5
        have bx6 := bx5.ext hWE
        have y6 := y5.ext hWE
        have u6 := u5.ext hWE
        have ob6 := ob5.ext hWE
        have hyy : wtB (dropV s x.1) (dropV s x.1) = true := wtB_t rfl
        simp [bx6.c0, bx6.c1, y6.c0, y6.c1, y6.c2, y6.c3, y6.c4, y6.c5, y6.c6, u6.c0, u6.c1, u6.c2, u6.c3, u6.c4, u6.c5, u6.c6, hyy]
        refine KR_same ?_
        simp
        refine FN.mono (num_c (dropE s x.1) W) ?_
        rintro _ _ ⟨rfl, hw⟩
        subst hw
        rename_i W
        simp
        refine KR_same ?_
        obtain ⟨va, vc, hv2⟩ := hrow.isSlice
        simp [hv2, ob6.c0, ob6.c1, ob6.f0, ob6.f1, cell_setCell]
        have mV := ((Mod.refl (fun k => k = w.heap.size + 1 + 1) W).setC 0 (.slice va s.length vc)).setC 1 (i64 most)
        refine KR_set2 ?_
        simp [ob6.c0, ob6.c1, cell_setCell]
        rw [← hv2] at mV ⊢
        refine Both.step hl hF hd hlt hX hP hV hE1 (.inl rfl) (hrow.ext hE1) (Ext.refl _) (Ext.refl _) (hl.ext hE1) (Mod.refl _ _) (fun k hk => .inl hk) (((hE2.trans hE25).trans hWE).mod.trans mV) fun k hk => ?_
        omega
      · by_cases a4' : a = 4
        · subst a4'
          simp
          generalize ((((w.alloc (.cells #[v, i64 most] 46)).alloc (.cells #[i64 4, u32 x.1.1, u32 x.1.2.1, u64 x.1.2.2.1, u32 x.1.2.2.2, u32 x.2.1, i64 x.2.2.1, i64 x.2.2.2] 51)).alloc (.cells #[.slice none 0 0, i64 0] 46)).alloc (.cells #[u32 x.1.1, u32 x.1.2.1, u64 x.1.2.2.1, u32 x.1.2.2.2, u32 x.2.1, i64 x.2.2.1, i64 x.2.2.2] 30)) = w1 at *
          refine FN.mono (rmove_c (hrow.ext hE1) most x.1 x.2.1 hx.a hb hl.nd) ?_
          rintro _ w2 ⟨v2, rfl, hr2, hf2, hE2⟩
          obtain ⟨va, vc, hv2⟩ := hr2.isSlice
          have hE12 := hE1.trans hE2
          have s2 := hE2.size
          obtain ⟨t', ht'⟩ : ∃ t', t' = moved s x.1 x.2.1 := ⟨_, rfl⟩
          rw [← ht'] at hr2 hv2 ⊢
          have a2 : Ext w2 (w2.alloc (.cells #[v2, i64 most] 46)) := (Ext.refl w2).alloc _
          have r2 := RAt.new w2 v2 most
          have z2 : (w2.alloc (.cells #[v2, i64 most] 46)).heap.size = w2.heap.size + 1 := by simp
          rw [hv2] at a2 r2 z2
          simp [hv2]
          generalize (w2.alloc (.cells #[Value.slice va t'.length vc, i64 most] 46)) = w3 at *
          have hE13 := hE12.trans a2
          have nF : ∀ k, w.heap.size ≤ k → ¬ Foot l Rq Rw M k := fun k hk hf => by have := hl.lt k hf; omega
          have X0 := XF_f (nF w2.heap.size (by omega))
          have X1 := XF_f (nF (w.heap.size + 1 + 1 + 1) (by omega))
          have X2 := XF_f (nF (w.heap.size + 1 + 1) (by omega))
          refine WC_drawL 11 (.F 0 <| .F 1 <| .F 2 <| .F 3 <| .F 4 <| .F 5 <| .F 8 <| .C 6 <| .C 7 <| .F 9 <| .S 10 <| .Z) (XF l Rq Rw M) (XF l Rq Rw M) (fun _ _ _ => True) rfl (by kernel_rfl) (fun _ h => h) (fun _ _ _ _ _ _ => trivial) fun W hW => ?_
          have hWE : Ext w3 W := hW ▸ Ext.drew w3
          have r4 := r2.ext hWE
          have hx4 := hxa.ext (hE2.trans (a2.trans hWE))
          have ob4 := hob.ext (hE2.trans (a2.trans hWE))
          have hl4 := hl.ext (hE13.trans hWE)
          simp [r4.c0, r4.c1, hx4.c0, hx4.c1, hx4.c2, hx4.c3, hx4.c4, X0, X1]
          refine FN.mono (move_c hl4 (by omega) x.1 x.2.1) ?_
          rintro _ W5 ⟨rfl, M5, N5, g1, g2, g3⟩
          rw [← ht'] at g1
          simp
          refine KR_mk (XF_agr g2) ?_
          simp
          refine FN.mono (num_c (moveE s x.1 x.2.1) W5) ?_
          rintro _ _ ⟨rfl, hw⟩
          subst hw
          rename_i W5
          simp
          refine KR_same ?_
          have ob5 := ob4.mod g2 (nF _ (by omega))
          simp [ob5.c0, ob5.c1, ob5.f0, ob5.f1, cell_setCell]
          have mV := ((Mod.refl (fun k => k = w.heap.size + 1 + 1) W5).setC 0 (.slice va t'.length vc)).setC 1 (i64 most)
          refine KR_set2 ?_
          simp [ob5.c0, ob5.c1, cell_setCell]
          refine Both.step hl hF hd hlt hX hP hV hE1 (hv2 ▸ hf2) (hv2 ▸ hr2) hE2 (a2.trans hWE) g1 g2 g3 mV fun k hk => ?_
          omega
        · by_cases a3' : a = 3
          · subst a3'
            simp
            generalize ((((w.alloc (.cells #[v, i64 most] 46)).alloc (.cells #[i64 3, u32 x.1.1, u32 x.1.2.1, u64 x.1.2.2.1, u32 x.1.2.2.2, u32 x.2.1, i64 x.2.2.1, i64 x.2.2.2] 51)).alloc (.cells #[.slice none 0 0, i64 0] 46)).alloc (.cells #[u32 x.1.1, u32 x.1.2.1, u64 x.1.2.2.1, u32 x.1.2.2.2, u32 x.2.1, i64 x.2.2.1, i64 x.2.2.2] 30)) = w1 at *
            have n1 := hxa.c4
            try simp [hxa.c4]
            refine FN.mono (first_c (hl.ext hE1) (by omega) x.2.1) ?_
            rintro _ w2 ⟨rfl, hE2⟩
            have s2 := hE2.size
            have a2 : Ext w2 (w2.alloc (.cells #[u32 (firstV s x.2.1).1.1, u32 (firstV s x.2.1).1.2.1, u64 (firstV s x.2.1).1.2.2.1, u32 (firstV s x.2.1).1.2.2.2, u32 (firstV s x.2.1).2.1, i64 (firstV s x.2.1).2.2.1, i64 (firstV s x.2.1).2.2.2] 30)) := (Ext.refl w2).alloc _
            have y2 : WtAt (w2.alloc (.cells #[u32 (firstV s x.2.1).1.1, u32 (firstV s x.2.1).1.2.1, u64 (firstV s x.2.1).1.2.2.1, u32 (firstV s x.2.1).1.2.2.2, u32 (firstV s x.2.1).2.1, i64 (firstV s x.2.1).2.2.1, i64 (firstV s x.2.1).2.2.2] 30)) w2.heap.size (firstV s x.2.1) := WtAt.new w2 (firstV s x.2.1) 30
            have z2 : (w2.alloc (.cells #[u32 (firstV s x.2.1).1.1, u32 (firstV s x.2.1).1.2.1, u64 (firstV s x.2.1).1.2.2.1, u32 (firstV s x.2.1).1.2.2.2, u32 (firstV s x.2.1).2.1, i64 (firstV s x.2.1).2.2.1, i64 (firstV s x.2.1).2.2.2] 30)).heap.size = w2.heap.size + 1 := by simp
            have hx2 := hxa.ext hE2
            have bx2 := hbx.ext hE2
            simp [hx2.c4, bx2.c0, bx2.c1]
            generalize (w2.alloc (.cells #[u32 (firstV s x.2.1).1.1, u32 (firstV s x.2.1).1.2.1, u64 (firstV s x.2.1).1.2.2.1, u32 (firstV s x.2.1).1.2.2.2, u32 (firstV s x.2.1).2.1, i64 (firstV s x.2.1).2.2.1, i64 (firstV s x.2.1).2.2.2] 30)) = w3 at *
            refine FN.mono (rall_c (hrow.ext ((hE1.trans hE2).trans a2)) most x.2.1 hb) ?_
            rintro _ w5 ⟨u, rfl, hu, hE5⟩
            have hus := sl_of_own hu
            have hE15 := (hE2.trans a2).trans hE5
            have bx5 := hbx.ext hE15
            have hx5 := hxa.ext hE15
            have ob5 := hob.ext hE15
            have y5 := y2.ext hE5
            have s5 := hE5.size
            have lenu := fun ty W' => hus.isLen (P := Try.prog) (t := 22) (by simp) ty W'
            by_cases n0 : x.2.1 = 0
            · have q1 : firstE s x.2.1 = 2 := by unfold firstE; rw [if_pos n0]
              have q2 : firstV s x.2.1 = zW := by unfold firstV; rw [q1]; rfl
              rw [q2] at y5
              rw [q1]
              simp [hx5.c4, n0]
              refine WC_drawL 10 (.F 0 <| .F 1 <| .F 2 <| .C 3 <| .F 4 <| .F 5 <| .C 6 <| .F 7 <| .F 8 <| .S 9 <| .Z) (fun _ => false) (fun _ => false) (fun _ _ _ => True) rfl (by kernel_rfl) (fun _ h => h) (fun _ _ _ _ _ _ => trivial) fun W hW => ?_
              have hWE : Ext w5 W := hW ▸ Ext.drew w5
              have bx6 := bx5.ext hWE
              have y6 := y5.ext hWE
              have ob6 := ob5.ext hWE
              have hzz : wtB zW zW = true := wtB_t rfl
              simp [zW] at y6 hzz
              simp [bx6.c0, bx6.c1, y6.c0, y6.c1, y6.c2, y6.c3, y6.c4, y6.c5, y6.c6, hzz]
              refine KR_same ?_
              simp
              refine FN.mono (num_c 2 W) ?_
              rintro _ _ ⟨rfl, hw⟩
              subst hw
              rename_i W
              simp
              refine KR_same ?_
              obtain ⟨va, vc, hv2⟩ := hrow.isSlice
              simp [hv2, ob6.c0, ob6.c1, ob6.f0, ob6.f1, cell_setCell]
              have mV := ((Mod.refl (fun k => k = w.heap.size + 1 + 1) W).setC 0 (.slice va s.length vc)).setC 1 (i64 most)
              refine KR_set2 ?_
              simp [ob6.c0, ob6.c1, cell_setCell]
              rw [← hv2] at mV ⊢
              refine Both.step hl hF hd hlt hX hP hV hE1 (.inl rfl) (hrow.ext hE1) (Ext.refl _) (Ext.refl _) (hl.ext hE1) (Mod.refl _ _) (fun k hk => .inl hk) ((hE15.trans hWE).mod.trans mV) fun k hk => ?_
              omega
            · by_cases he : allOf s x.2.1 = []
              · have q1 : firstE s x.2.1 = 5 := by unfold firstE; rw [if_neg n0, if_pos he]
                have q2 : firstV s x.2.1 = zW := by unfold firstV; rw [q1]; rfl
                rw [q2] at y5
                rw [q1]
                have hl0 : (allOf s x.2.1).length = 0 := by rw [he]; rfl
                simp [hx5.c4, n0, lenu, hl0]
                refine WC_drawL 10 (.F 0 <| .F 1 <| .F 2 <| .C 3 <| .F 4 <| .F 5 <| .C 6 <| .F 7 <| .F 8 <| .S 9 <| .Z) (fun _ => false) (fun _ => false) (fun _ _ _ => True) rfl (by kernel_rfl) (fun _ h => h) (fun _ _ _ _ _ _ => trivial) fun W hW => ?_
                have hWE : Ext w5 W := hW ▸ Ext.drew w5
                have bx6 := bx5.ext hWE
                have y6 := y5.ext hWE
                have ob6 := ob5.ext hWE
                have hzz : wtB zW zW = true := wtB_t rfl
                simp [zW] at y6 hzz
                simp [bx6.c0, bx6.c1, y6.c0, y6.c1, y6.c2, y6.c3, y6.c4, y6.c5, y6.c6, hzz]
                refine KR_same ?_
                simp
                refine FN.mono (num_c 5 W) ?_
                rintro _ _ ⟨rfl, hw⟩
                subst hw
                rename_i W
                simp
                refine KR_same ?_
                obtain ⟨va, vc, hv2⟩ := hrow.isSlice
                simp [hv2, ob6.c0, ob6.c1, ob6.f0, ob6.f1, cell_setCell]
                have mV := ((Mod.refl (fun k => k = w.heap.size + 1 + 1) W).setC 0 (.slice va s.length vc)).setC 1 (i64 most)
                refine KR_set2 ?_
                simp [ob6.c0, ob6.c1, cell_setCell]
                rw [← hv2] at mV ⊢
                refine Both.step hl hF hd hlt hX hP hV hE1 (.inl rfl) (hrow.ext hE1) (Ext.refl _) (Ext.refl _) (hl.ext hE1) (Mod.refl _ _) (fun k hk => .inl hk) ((hE15.trans hWE).mod.trans mV) fun k hk => ?_
                omega
              · have q1 : firstE s x.2.1 = 0 := by unfold firstE; rw [if_neg n0, if_neg he]
                have hlp : 0 < (allOf s x.2.1).length := List.length_pos_iff.2 he
                have q2 : (allOf s x.2.1)[0]? = some (firstV s x.2.1) := by
                  unfold firstV
                  rw [if_pos q1]
                  cases hc : allOf s x.2.1 with
                  | nil => exact absurd hc he
                  | cons y t => rfl
                rw [q1]
                have hl0 : ¬ (allOf s x.2.1).length = 0 := by omega
                simp [hx5.c4, n0, lenu, he]
                refine WC_drawL 12 (.F 0 <| .F 1 <| .F 2 <| .F 3 <| .F 4 <| .C 5 <| .F 6 <| .F 7 <| .C 8 <| .F 9 <| .F 10 <| .S 11 <| .Z) (fun _ => false) (fun _ => false) (fun _ _ _ => True) rfl (by kernel_rfl) (fun _ h => h) (fun _ _ _ _ _ _ => trivial) fun W hW => ?_
                have hWE : Ext w5 W := hW ▸ Ext.drew w5
                have bx6 := bx5.ext hWE
                have y6 := y5.ext hWE
                have ob6 := ob5.ext hWE
                have rr := (WSl.row hus q2).ext hWE
                have ix0 := WSl.index hus 0 hlp W
                simp at ix0
                generalize firstV s x.2.1 = y at *
                have hzz : wtB y y = true := wtB_t rfl
                have d0 := rr.c0
                have d1 := rr.c1
                have d2 := rr.c2
                have d3 := rr.c3
                have d4 := rr.c4
                have d5 := rr.c5
                have d6 := rr.c6
                simp only [Nat.zero_mul, Nat.add_zero] at d0 d1 d2 d3 d4 d5 d6
                simp [bx6.c0, bx6.c1, y6.c0, y6.c1, y6.c2, y6.c3, y6.c4, y6.c5, y6.c6, ix0, d0, d1, d2, d3, d4, d5, d6, hzz]
                refine KR_same ?_
                simp
                refine FN.mono (num_c 0 W) ?_
                rintro _ _ ⟨rfl, hw⟩
                subst hw
                rename_i W
                simp
                refine KR_same ?_
                obtain ⟨va, vc, hv2⟩ := hrow.isSlice
                simp [hv2, ob6.c0, ob6.c1, ob6.f0, ob6.f1, cell_setCell]
                have mV := ((Mod.refl (fun k => k = w.heap.size + 1 + 1) W).setC 0 (.slice va s.length vc)).setC 1 (i64 most)
                refine KR_set2 ?_
                simp [ob6.c0, ob6.c1, cell_setCell]
                rw [← hv2] at mV ⊢
                refine Both.step hl hF hd hlt hX hP hV hE1 (.inl rfl) (hrow.ext hE1) (Ext.refl _) (Ext.refl _) (hl.ext hE1) (Mod.refl _ _) (fun k hk => .inl hk) ((hE15.trans hWE).mod.trans mV) fun k hk => ?_
                omega
          · simp [a0, a1, a2', a3', a4']
            generalize ((((w.alloc (.cells #[v, i64 most] 46)).alloc (.cells #[i64 a, u32 x.1.1, u32 x.1.2.1, u64 x.1.2.2.1, u32 x.1.2.2.2, u32 x.2.1, i64 x.2.2.1, i64 x.2.2.2] 51)).alloc (.cells #[.slice none 0 0, i64 0] 46)).alloc (.cells #[u32 x.1.1, u32 x.1.2.1, u64 x.1.2.2.1, u32 x.1.2.2.2, u32 x.2.1, i64 x.2.2.1, i64 x.2.2.2] 30)) = w1 at *
            refine WC_drawC 6 (.F 0 <| .F 1 <| .F 2 <| .F 3 <| .F 4 <| .C 5 <| .Z) (fun _ => false) rfl (by kernel_rfl) fun W hW => ?_
            have hWE : Ext w1 W := hW ▸ Ext.drew w1
            have bx6 := hbx.ext hWE
            have hx6 := hxa.ext hWE
            have ob6 := hob.ext hWE
            simp [bx6.c0, bx6.c1, hx6.c4]
            refine FN.mono (lall_c (hl.ext (hE1.trans hWE)) (hrow.ext (hE1.trans hWE)) most x.2.1 5000 hb) ?_
            rintro _ W5 ⟨rfl, hE5⟩
            have ob7 := ob6.ext hE5
            obtain ⟨va, vc, hv2⟩ := hrow.isSlice
            simp
            refine KR_ext hE5 ?_
            simp [hv2, ob7.c0, ob7.c1, ob7.f0, ob7.f1, cell_setCell]
            have mV := ((Mod.refl (fun k => k = w.heap.size + 1 + 1) W5).setC 0 (.slice va s.length vc)).setC 1 (i64 most)
            rw [← hv2] at mV ⊢
            rw [if_neg a0, if_neg a1, if_neg a4']
            refine Both.step hl hF hd hlt hX hP hV hE1 (.inl rfl) (hrow.ext hE1) (Ext.refl _) (Ext.refl _) (hl.ext hE1) (Mod.refl _ _) (fun k hk => .inl hk) ((hWE.trans hE5).mod.trans mV) fun k hk => ?_
            omega
end Go.Proofs
