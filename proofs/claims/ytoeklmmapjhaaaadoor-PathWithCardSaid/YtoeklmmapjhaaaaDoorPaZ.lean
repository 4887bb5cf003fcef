/-
  Contracts of the functions that the law reaches, step by step.
-/
import Derived.Test.YtoeklmmapjhaaaaDoorPaT
namespace Go.Proofs
open Pk
set_option maxRecDepth 10000
set_option maxHeartbeats 4000000 in
theorem lawWith_c {w : World} {v : Value} {l : List Cr} (h : CSl w v l) (back : Bool) (x : Cr) (hok : ∀ c ∈ l, 0 ≤ c.1 ∧ c.1 < 4294967296) :
    FN Tryd.prog 5 [ptV back v, crV x] w fun e w' => e = .returned (.bool true) ∧ Ext w w' := by
  refine FN_enter Tryd.func5 rfl rfl (by kernel_rfl) ?_
  obtain ⟨va, vc, rfl⟩ := h.isSlice
  have hlen := fun ty W => h.isLen (P := Tryd.prog) (t := 22) (by simp) ty W
  have hE1 : Ext w ((w.alloc (.cells #[.bool back, .slice va l.length vc] 24)).alloc (.cells #[u32 x.1, .bool x.2] 47)) := ((Ext.refl w).alloc _).alloc _
  have p1 : PtAt ((w.alloc (.cells #[.bool back, .slice va l.length vc] 24)).alloc (.cells #[u32 x.1, .bool x.2] 47)) w.heap.size back (.slice va l.length vc) := (PtAt.new w _ _ _).ext ((Ext.refl _).alloc _)
  have x1 : CrBx ((w.alloc (.cells #[.bool back, .slice va l.length vc] 24)).alloc (.cells #[u32 x.1, .bool x.2] 47)) (w.heap.size + 1) x := by
    have := CrBx.new (w.alloc (.cells #[.bool back, .slice va l.length vc] 24)) x 47
    simpa using this
  have z1 : ((w.alloc (.cells #[.bool back, .slice va l.length vc] 24)).alloc (.cells #[u32 x.1, .bool x.2] 47)).heap.size = w.heap.size + 1 + 1 := by simp
  by_cases h100 : (100 : Int) < l.length
  · simp [hlen, h100]
    refine FN.mono (works_c _) ?_
    rintro _ w2 ⟨rfl, hE2⟩
    simp
    exact hE1.trans hE2
  · simp [hlen, h100]
    generalize ((w.alloc _).alloc _) = w1 at *
    refine WC_drawL 8 (.F 0 <| .F 1 <| .F 3 <| .F 4 <| .D 2 <| .D 7 <| .W 2 <| .L 5 <| .F 6 <| .W 7 <| .Z) (fun _ => false) (fun _ => false)
      (fun i u W => if i = 2 then (∃ b, u = .slice (some ⟨b, 0, none⟩) 0 0) ∧ W.ownsRow w1.heap.size 47 2 u 0 [] else ∃ b, u = ptr b ∧ w1.heap.size ≤ b ∧ PtAt W b false (.slice none 0 0)) rfl (by kernel_rfl) (fun _ h => h)
      (fun i u a b h1 h2 => ?_) fun W hW => ?_
    · by_cases hi : i = 2
      · rw [if_pos hi] at h1 ⊢
        exact ⟨h1.1, own_ext h1.2 (agr_ext h2)⟩
      · rw [if_neg hi] at h1 ⊢
        obtain ⟨b, rfl, hb, hp⟩ := h1
        exact ⟨b, rfl, hb, hp.ext (agr_ext h2)⟩
    have hWE : Ext w1 W := hW ▸ Ext.drew w1
    have t0 := p1.ext hWE
    simp [t0.c0, t0.c1]
    refine RL_float (fun W1 h1 => ?_) ?_
    · simp
      have hs := (hWE.trans (agr_ext h1)).size
      exact ⟨(Ext.refl _).alloc _, own_empty W1 _ (by omega)⟩
    simp
    refine RL_float (fun W1 h1 => ?_) ?_
    · simp
      have hs := (hWE.trans (agr_ext h1)).size
      exact ⟨(Ext.refl _).alloc _, by omega, PtAt.new W1 _ _ _⟩
    simp
    refine RL_wait fun v0 W2 h2 ⟨⟨b0, hb0⟩, ho0⟩ => ?_
    subst hb0
    simp
    refine RL_loose fun W3 h3 => ?_
    have hE4 := hE1.trans (hWE.trans (h2.trans h3))
    have hs4 := (hWE.trans (h2.trans h3)).size
    obtain ⟨v1, W4, hr4, ho4, hE5⟩ := append_newB (P := Tryd.prog) (t := 22) (ty := 22) (e := 47) (s := 2) (by simp) (by simp) (by kernel_rfl) (own_ext ho0 h3) (SlB.ext h hE4) (crone l) (by omega) (by omega)
    obtain ⟨a1, c1, rfl⟩ := own_val ho4
    simp [hr4]
    refine KR_ext hE5 ?_
    simp
    refine RL_wait fun v5 W5 h5 ⟨b5, hv5, hb5, hp5⟩ => ?_
    subst hv5
    have hown := own_ext ho4 h5
    have hcs : CSl W5 (.slice a1 l.length c1) l := (sl_of_own hown).toB
    have hne : l.flatMap crC ≠ [] → ¬ slB (.slice a1 l.length c1) = b5 := fun hl e => by
      rcases hown.2 with ⟨hz, -⟩ | ⟨g, cap, cur, hz, -⟩
      · simp at hz
        exact hl (by rw [hz.2.1]; rfl)
      · simp at hz
        obtain ⟨rfl, rfl⟩ := hz
        cases l with
        | nil => exact hl rfl
        | cons y r =>
          have h1 := hcs.at_ 0 (u32 y.1) (by simp [crC])
          simp [slB, slO] at h1 e
          rw [e, hp5.c0] at h1
          cases h1
    have hE1W5 := hWE.trans ((h2.trans h3).trans (hE5.trans h5))
    have xx5 := x1.ext hE1W5
    have pp5 := p1.ext hE1W5
    have nb1 : ¬ w.heap.size + 1 = b5 := by omega
    have nb0 : ¬ w.heap.size = b5 := by omega
    simp [hp5.c0, hp5.c1, hp5.f0, hp5.f1, cell_setCell, xx5.c0, xx5.c1, nb1]
    have hE15 := hE4.trans (hE5.trans h5)
    have q6 : PtAt ((W5.setCell ⟨b5, 0, none⟩ (.bool back)).setCell ⟨b5, 1, none⟩ (.slice a1 l.length c1)) b5 back (.slice a1 l.length c1) := by
      refine ⟨?_, ?_, by simpa using hp5.f0, by simpa using hp5.f1⟩ <;> simp [cell_setCell, hp5.c0, hp5.c1]
    have hM6 : Mod (fun k => k = b5) W5 ((W5.setCell ⟨b5, 0, none⟩ (.bool back)).setCell ⟨b5, 1, none⟩ (.slice a1 l.length c1)) := ((Mod.refl _ W5).setC 0 _).setC 1 _
    have hs1 := hE1.size
    have hE16 : Ext w ((W5.setCell ⟨b5, 0, none⟩ (.bool back)).setCell ⟨b5, 1, none⟩ (.slice a1 l.length c1)) := (hE15.mod.trans hM6).ext fun k hk => by omega
    have p6 := (p1.ext hE1W5).mod hM6 (by omega)
    have x6c := fun j v (hv : w1.cell? ⟨w.heap.size + 1, j, none⟩ = some v) => hM6.cell (hE1W5.cell_eq hv) (by show ¬ w.heap.size + 1 = b5; omega)
    have x6 : CrBx ((W5.setCell ⟨b5, 0, none⟩ (.bool back)).setCell ⟨b5, 1, none⟩ (.slice a1 l.length c1)) (w.heap.size + 1) x := ⟨x6c _ _ x1.c0, x6c _ _ x1.c1⟩
    have hcs6 := SlB.mod hcs hM6 hne
    generalize ((W5.setCell ⟨b5, 0, none⟩ (.bool back)).setCell ⟨b5, 1, none⟩ (.slice a1 l.length c1)) = w6 at *
    refine FN.mono (with_c hcs6 back x (by omega)) ?_
    rintro _ w7 ⟨v7, rfl, hE7, hz7, hy7⟩
    have hc7 : CSl w7 v7 (if withE l x = 0 then l ++ [x] else []) := by
      by_cases h0 : withE l x = 0
      · rw [if_pos h0]; exact (hy7 h0).1
      · rw [if_neg h0, hz7 h0]; exact SlB.nil _ 2 0
    obtain ⟨L, hL⟩ : ∃ L, L = (if withE l x = 0 then l ++ [x] else []) := ⟨_, rfl⟩
    rw [← hL] at hc7
    obtain ⟨a7, c7, rfl⟩ := hc7.isSlice
    obtain ⟨E, hE⟩ : ∃ E, E = withE l x := ⟨_, rfl⟩
    rw [← hE]
    obtain ⟨B, hB⟩ : ∃ B, B = (decide (E = 0) && back) := ⟨_, rfl⟩
    rw [← hB]
    have p7 := p6.ext hE7
    have q7 := q6.ext hE7
    have x7 := x6.ext hE7
    simp [p7.c0, p7.c1, x7.c0, x7.c1]
    have hE8 : Ext w7 (w7.alloc (.cells #[.bool B, .slice a7 L.length c7] 24)) := (Ext.refl w7).alloc _
    have r8 := PtAt.new w7 B (.slice a7 L.length c7) 24
    obtain ⟨b8, hb8⟩ : ∃ b8, b8 = w7.heap.size := ⟨_, rfl⟩
    rw [← hb8] at r8 ⊢
    have hE18 := hE16.trans (hE7.trans hE8)
    have p8 := p7.ext hE8
    have q8 := q7.ext hE8
    have x8 := x7.ext hE8
    generalize (w7.alloc _) = w8 at *
    refine FN.mono (rwith_c (SlB.ext h hE18) back x (by omega)) ?_
    rintro _ w9 ⟨v9, rfl, hE9, hc9⟩
    rw [← hE, ← hB]
    rw [← hL] at hc9
    obtain ⟨a9, c9, rfl⟩ := hc9.isSlice
    have p9 := p8.ext hE9
    have q9 := q8.ext hE9
    have x9 := x8.ext hE9
    have r9 := r8.ext hE9
    simp [q9.c0, q9.c1]
    have hE10 : Ext w9 (w9.alloc (.cells #[.bool B, .slice a9 L.length c9] 24)) := (Ext.refl w9).alloc _
    have s10 := PtAt.new w9 B (.slice a9 L.length c9) 24
    obtain ⟨b10, hb10⟩ : ∃ b10, b10 = w9.heap.size := ⟨_, rfl⟩
    rw [← hb10] at s10 ⊢
    have p10 := p9.ext hE10
    have q10 := q9.ext hE10
    have x10 := x9.ext hE10
    have r10 := r9.ext hE10
    have hE710 := hE8.trans (hE9.trans hE10)
    generalize (w9.alloc _) = w10 at *
    refine FN.mono (turned_c (SlB.ext hcs6 (hE7.trans hE710)) back (by omega)) ?_
    rintro _ w11 ⟨rfl, hE11⟩
    have p11 := p10.ext hE11
    have q11 := q10.ext hE11
    have x11 := x10.ext hE11
    have r11 := r10.ext hE11
    have s11 := s10.ext hE11
    simp [p11.c0, p11.c1]
    have hE12 : Ext w11 (w11.alloc (.cells #[.bool (rightP l), .slice none 0 0] 24)) := (Ext.refl w11).alloc _
    have u12 := PtAt.new w11 (rightP l) (.slice none 0 0) 24
    obtain ⟨b12, hb12⟩ : ∃ b12, b12 = w11.heap.size := ⟨_, rfl⟩
    rw [← hb12] at u12 ⊢
    have p12 := p11.ext hE12
    have q12 := q11.ext hE12
    have x12 := x11.ext hE12
    have r12 := r11.ext hE12
    have s12 := s11.ext hE12
    have hE712 := hE710.trans (hE11.trans hE12)
    have hE112 := hE16.trans (hE7.trans hE712)
    have hEc9 := hE10.trans (hE11.trans hE12)
    generalize (w11.alloc _) = w12 at *
    refine FN.mono (rright_c back (SlB.ext h hE112) (by omega)) ?_
    rintro _ w13 ⟨rfl, hE13⟩
    have p13 := p12.ext hE13
    have q13 := q12.ext hE13
    have x13 := x12.ext hE13
    have r13 := r12.ext hE13
    have s13 := s12.ext hE13
    have u13 := u12.ext hE13
    have hE713 := hE712.trans hE13
    simp
    refine WC_drawC 25 (.F 0 <| .F 1 <| .C 2 <| .F 3 <| .F 4 <| .F 5 <| .F 7 <| .C 6 <| .F 8 <| .F 9 <| .F 10 <| .F 11 <| .F 12 <| .F 14 <| .F 15 <| .C 13 <| .C 16 <| .F 17 <| .F 18 <| .F 19 <| .F 20 <| .F 24 <| .C 21 <| .C 22 <| .F 23 <| .Z) (fun _ => false) rfl (by kernel_rfl) fun V hV => ?_
    have hVE : Ext w13 V := hV ▸ Ext.drew _
    have p14 := p13.ext hVE
    have q14 := q13.ext hVE
    have x14 := x13.ext hVE
    have r14 := r13.ext hVE
    have s14 := s13.ext hVE
    have u14 := u13.ext hVE
    simp [r14.c0, r14.c1, s14.c0, s14.c1]
    refine FN.mono (rsame_c B B (SlB.ext hc7 (hE713.trans hVE)) (SlB.ext hc9 (hEc9.trans (hE13.trans hVE))) (by rw [hL]; split <;> simp <;> omega)) ?_
    rintro _ w15 ⟨rfl, hE15'⟩
    simp
    refine KR_ext hE15' ?_
    have p15 := p14.ext hE15'
    have q15 := q14.ext hE15'
    have x15 := x14.ext hE15'
    have r15 := r14.ext hE15'
    have u15 := u14.ext hE15'
    simp
    refine FN.mono (num_c E w15) ?_
    rintro _ wn ⟨rfl, hwn⟩
    subst hwn
    simp
    refine KR_same ?_
    simp [q15.c0, q15.c1, x15.c0, x15.c1, p15.c0, p15.c1]
    have hE715 := hE713.trans (hVE.trans hE15')
    have hE115 := hE16.trans (hE7.trans hE715)
    refine FN.mono (has_c (SlB.ext hcs6 (hE7.trans hE715)) back x (by omega)) ?_
    rintro _ w16 ⟨rfl, hE16'⟩
    simp
    refine KR_ext hE16' ?_
    have p16 := p15.ext hE16'
    have q16 := q15.ext hE16'
    have x16 := x15.ext hE16'
    have r16 := r15.ext hE16'
    have u16 := u15.ext hE16'
    simp
    refine FN.mono (rhas_c back (SlB.ext h (hE115.trans hE16')) x (by omega)) ?_
    rintro _ w17 ⟨rfl, hE17⟩
    simp
    refine KR_ext hE17 ?_
    have p17 := p16.ext hE17
    have q17 := q16.ext hE17
    have x17 := x16.ext hE17
    have r17 := r16.ext hE17
    have u17 := u16.ext hE17
    have hE717 := hE715.trans (hE16'.trans hE17)
    have hE117 := hE16.trans (hE7.trans hE717)
    simp [q17.c0, q17.c1]
    refine FN.mono (check_c (SlB.ext hcs6 (hE7.trans hE717)) back (by omega)) ?_
    rintro _ w18 ⟨rfl, hE18'⟩
    simp
    refine KR_ext hE18' ?_
    have p18 := p17.ext hE18'
    have q18 := q17.ext hE18'
    have x18 := x17.ext hE18'
    have r18 := r17.ext hE18'
    have u18 := u17.ext hE18'
    simp
    refine FN.mono (num_c (if rightP l then 0 else 2) w18) ?_
    rintro _ wn2 ⟨rfl, hwn⟩
    subst hwn
    simp
    refine KR_same ?_
    by_cases hr : rightP l = true
    · simp [hr]
      refine FN.mono (num_c 0 wn2) ?_
      rintro _ wn3 ⟨rfl, hwn⟩
      subst hwn
      rw [hr] at u18
      simp [u18.c0, u18.c1]
      refine FN.mono (rsame_c true true (SlB.nil wn3 2 0) (SlB.nil wn3 2 0) (l1 := []) (l2 := []) (by simp)) ?_
      rintro _ w19 ⟨rfl, hE19⟩
      have r19 := r18.ext hE19
      have q19 := q18.ext hE19
      have p19 := p18.ext hE19
      simp [r19.c1]
      have hE7W := hE717.trans (hE18'.trans hE19)
      have hcW := SlB.ext hc7 hE7W
      have qW : PtAt w19 b5 back (.slice a1 l.length c1) := q18.ext hE19
      have pW : PtAt w19 w.heap.size back (.slice va l.length vc) := p18.ext hE19
      by_cases h0 : withE l x = 0
      · rw [if_pos h0] at hL
        obtain ⟨-, g, cap, cur, hv7, hg7, ho7⟩ := hy7 h0
        simp at hv7
        obtain ⟨ha7, hn7, rfl⟩ := hv7
        subst ha7
        have hLp : 0 < L.length := by omega
        have ix := CSl.index hcW 0 hLp w19
        have hq0 := List.getElem?_eq_getElem hLp
        have rw0 := CSl.row hcW hq0
        have rc0 := rw0.c0
        simp [slB, slO] at rc0
        have hgW : w19.frozen? ⟨g, 0, none⟩ = false := by
          have := hE7W.obj ho7
          simp only [World.frozen?, this]
          rfl
        have n5 : ¬ b5 = g := by have := q6.lt; omega
        have n0 : ¬ w.heap.size = g := by have := p6.lt; omega
        simp [hLp, r19.c1, rc0, hgW, cell_setCell, qW.c0, qW.c1, pW.c0, pW.c1, n5, n0]
        have hMg := fun v => (Mod.refl (fun k => k = g) w19).setC 0 v
        have hrow := SlB.mod (SlB.ext hcs6 (hE7.trans hE7W)) (hMg (u32 (IntKind.u32.wrap (L[0].1 + 1)))) (fun hne e => by
          have := hcs6.lt (List.length_pos_iff.2 hne); omega)
        have hprow := SlB.mod (SlB.ext h (hE16.trans (hE7.trans hE7W))) (hMg (u32 (IntKind.u32.wrap (L[0].1 + 1)))) (fun hne e => by
          have h1 := h.lt (List.length_pos_iff.2 hne)
          have := hE16.size; omega)
        refine FN.mono (rsame_c back back hrow hprow (by omega)) ?_
        rintro _ wa ⟨rfl, hEa⟩
        simp
        refine FN.mono (works_c _) ?_
        rintro _ wz ⟨rfl, hEz⟩
        simp
        have hs16 := hE16.size
        exact ((((hE16.trans (hE7.trans hE7W)).mod (S := fun k => k = g)).trans (hMg _)).trans ((hEa.trans hEz).mod)).ext fun k hk => by omega
      · rw [if_neg h0] at hL
        subst hL
        simp [qW.c0, qW.c1, pW.c0, pW.c1]
        refine FN.mono (rsame_c back back (SlB.ext hcs6 (hE7.trans hE7W)) (SlB.ext h (hE16.trans (hE7.trans hE7W))) (by omega)) ?_
        rintro _ wa ⟨rfl, hEa⟩
        simp
        refine FN.mono (works_c _) ?_
        rintro _ wz ⟨rfl, hEz⟩
        simp
        exact (hE16.trans (hE7.trans hE7W)).trans (hEa.trans hEz)
    · simp [hr, q18.c0, q18.c1]
      refine FN.mono (check_c (SlB.ext hcs6 (hE7.trans (hE717.trans hE18'))) back (by omega)) ?_
      rintro _ w19 ⟨rfl, hE19⟩
      simp [hr]
      refine FN.mono (num_c 2 w19) ?_
      rintro _ wn3 ⟨rfl, hwn⟩
      subst hwn
      simp
      refine FN.mono (num_c 2 wn3) ?_
      rintro _ wn4 ⟨rfl, hwn⟩
      subst hwn
      have u19 := u18.ext hE19
      have hrf : rightP l = false := by simpa using hr
      rw [hrf] at u19
      simp [u19.c0, u19.c1]
      refine FN.mono (rsame_c false false (SlB.nil wn4 2 0) (SlB.nil wn4 2 0) (l1 := []) (l2 := []) (by simp)) ?_
      rintro _ w20 ⟨rfl, hE20⟩
      have r20 := (r18.ext hE19).ext hE20
      simp [r20.c1]
      have hE7W := hE717.trans (hE18'.trans (hE19.trans hE20))
      have hcW := SlB.ext hc7 hE7W
      have qW : PtAt w20 b5 back (.slice a1 l.length c1) := (q18.ext hE19).ext hE20
      have pW : PtAt w20 w.heap.size back (.slice va l.length vc) := (p18.ext hE19).ext hE20
      by_cases h0 : withE l x = 0
      · rw [if_pos h0] at hL
        obtain ⟨-, g, cap, cur, hv7, hg7, ho7⟩ := hy7 h0
        simp at hv7
        obtain ⟨ha7, hn7, rfl⟩ := hv7
        subst ha7
        have hLp : 0 < L.length := by omega
        have ix := CSl.index hcW 0 hLp w20
        have hq0 := List.getElem?_eq_getElem hLp
        have rw0 := CSl.row hcW hq0
        have rc0 := rw0.c0
        simp [slB, slO] at rc0
        have hgW : w20.frozen? ⟨g, 0, none⟩ = false := by
          have := hE7W.obj ho7
          simp only [World.frozen?, this]
          rfl
        have n5 : ¬ b5 = g := by have := q6.lt; omega
        have n0 : ¬ w.heap.size = g := by have := p6.lt; omega
        simp [hLp, r20.c1, rc0, hgW, cell_setCell, qW.c0, qW.c1, pW.c0, pW.c1, n5, n0]
        have hMg := fun v => (Mod.refl (fun k => k = g) w20).setC 0 v
        have hrow := SlB.mod (SlB.ext hcs6 (hE7.trans hE7W)) (hMg (u32 (IntKind.u32.wrap (L[0].1 + 1)))) (fun hne e => by
          have := hcs6.lt (List.length_pos_iff.2 hne); omega)
        have hprow := SlB.mod (SlB.ext h (hE16.trans (hE7.trans hE7W))) (hMg (u32 (IntKind.u32.wrap (L[0].1 + 1)))) (fun hne e => by
          have h1 := h.lt (List.length_pos_iff.2 hne)
          have := hE16.size; omega)
        refine FN.mono (rsame_c back back hrow hprow (by omega)) ?_
        rintro _ wa ⟨rfl, hEa⟩
        simp
        refine FN.mono (works_c _) ?_
        rintro _ wz ⟨rfl, hEz⟩
        simp
        have hs16 := hE16.size
        exact ((((hE16.trans (hE7.trans hE7W)).mod (S := fun k => k = g)).trans (hMg _)).trans ((hEa.trans hEz).mod)).ext fun k hk => by omega
      · rw [if_neg h0] at hL
        subst hL
        simp [qW.c0, qW.c1, pW.c0, pW.c1]
        refine FN.mono (rsame_c back back (SlB.ext hcs6 (hE7.trans hE7W)) (SlB.ext h (hE16.trans (hE7.trans hE7W))) (by omega)) ?_
        rintro _ wa ⟨rfl, hEa⟩
        simp
        refine FN.mono (works_c _) ?_
        rintro _ wz ⟨rfl, hEz⟩
        simp
        exact (hE16.trans (hE7.trans hE7W)).trans (hEa.trans hEz)
end Go.Proofs
