/-
  Contracts of the functions that the law reaches, step by step.
-/
import Derived.Test.YtoeklmmapjhaaaaGreatDoorPbE
import Derived.Test.YtoeklmmapjhaaaaGreatDoorPaN
import Derived.Test.YtoeklmmapjhaaaaGreatDoorPaI
namespace Go.Proofs
open Pk
set_option maxRecDepth 10000
theorem own_set {w : World} {base e n j : Nat} {v : Value} {xs : List Value} (h : w.ownsRow base e 1 v n xs) (hj : j < n) (u : Value) : (w.setCell ⟨slB v, j, none⟩ u).ownsRow base e 1 v n (xs.set j u) := by
  obtain ⟨h1, h2⟩ := h
  refine ⟨by simpa using h1, ?_⟩
  rcases h2 with ⟨rfl, rfl⟩ | ⟨g, cap, cur, rfl, hb, hg, hc, hm, hs, ht⟩
  · omega
  · refine .inr ⟨g, cap, cur.set! j u, rfl, hb, ?_, hc, hm, by simpa using hs, ?_⟩
    · simpa [slB] using heap_setCell_same w g j cur e u hg
    · rw [← ht]
      simp [Array.set!, List.take_set]
set_option maxHeartbeats 4000000 in
theorem rgates_c {w : World} {v : Value} {l : List Cr} (h : CSl w v l) (back : Bool) (hb : l.length ≤ 1000000) :
    FN Tryz.prog 5 [ptV back v] w fun e w' => ∃ gs gv nv, e = .returned (.tuple #[gv, nv]) ∧ SG l gs ∧ w'.ownsRow w.heap.size 33 1 gv gs.length (gs.map u32) ∧ w'.ownsRow w.heap.size 3 1 nv gs.length ((nsOf l gs).map i64) ∧ Ext w w' := by
  refine FN_enter Tryz.func5 rfl rfl (by kernel_rfl) ?_
  have hlen := fun ty W => h.isLen (P := Tryz.prog) (t := 22) (by simp) ty W
  obtain ⟨va, vc, rfl⟩ := h.isSlice
  simp
  have hE1 : Ext w (w.alloc (.cells #[.bool back, .slice va l.length vc] 24)) := (Ext.refl w).alloc _
  have p1 := PtAt.new w back (.slice va l.length vc) 24
  have z1 : (w.alloc (.cells #[.bool back, .slice va l.length vc] 24)).heap.size = w.heap.size + 1 := by simp
  generalize (w.alloc _) = w1 at *
  refine WC_loop (fun k ρ ds w' => ∃ (i : Nat) (gs : List Int) (gv nv : Value), k = l.length - i ∧ i ≤ l.length ∧ ρ 1 = ptr w.heap.size ∧ ρ 4 = gv ∧ ρ 5 = nv ∧ ρ 6 = i64 i ∧ ds = [] ∧ Ext w w' ∧ PtAt w' w.heap.size back (.slice va l.length vc) ∧ w1.heap.size ≤ w'.heap.size ∧ SG (l.take i) gs ∧
    w'.ownsRow w1.heap.size 33 1 gv gs.length (gs.map u32) ∧ w'.ownsRow w1.heap.size 3 1 nv gs.length ((nsOf (l.take i) gs).map i64)) l.length
    ⟨0, [], .slice none 0 0, .slice none 0 0, by simp, by simp, by simp, by simp, by simp, by simp, rfl, hE1, p1, Nat.le_refl _, SG.nil, World.ownsRow_nil _ _ _ _, World.ownsRow_nil _ _ _ _⟩ ?_
  rintro k ρ ds w2 ⟨i, gs, gv, nv, rfl, hi, e1, e4, e5, e6, rfl, hE2, p2, z2, hS, hg, hn⟩
  by_cases hlt : i < l.length
  · obtain ⟨c, hc⟩ : ∃ c, c = l[i] := ⟨_, rfl⟩
    have hq : l[i]? = some c := by rw [hc]; exact List.getElem?_eq_getElem hlt
    have rr := CSl.row (SlB.ext h hE2) hq
    have ix := CSl.index h i hlt w2
    have hgs : gs.length ≤ l.length := by have := hS.len; rw [List.length_take] at this; omega
    have glen := fun ty W => (sl_of_own hg).isLen (P := Tryz.prog) (t := 26) (by simp) ty W
    simp [e1, e6, p2.c1, hlen, hlt, ix, rr.c0]
    refine WC_loop (fun k ρ ds w' => ∃ j : Nat, k = gs.length - j ∧ j ≤ gs.length ∧ ρ 1 = ptr w.heap.size ∧ ρ 4 = gv ∧ ρ 5 = nv ∧ ρ 6 = i64 i ∧ ρ 7 = u32 c.1 ∧ ρ 8 = i64 j ∧ ds = [] ∧ w' = w2 ∧ ∀ x ∈ gs.take j, x < c.1) gs.length
      ⟨0, by simp, by simp, by simp [e1], by simp [e4], by simp [e5], by simp [e6], by simp, by simp, rfl, rfl, by simp⟩ ?_
    rintro k ρ ds W ⟨j, rfl, hj, e1, e4, e5, e6, e7, e8, rfl, rfl, hjl⟩
    have gvK := sl_of_own hg
    have nvK := sl_of_own hn
    have oneU : ∀ u ∈ gs.map u32, u.oneCell' = true := fun u hu => by
      obtain ⟨x, -, rfl⟩ := List.mem_map.1 hu; rfl
    have oneI : ∀ u ∈ (nsOf (l.take i) gs).map i64, u.oneCell' = true := fun u hu => by
      obtain ⟨x, -, rfl⟩ := List.mem_map.1 hu; rfl
    have htk : l.take (i + 1) = l.take i ++ [c] := by rw [List.take_add_one, hq]; rfl
    have hw1 : IntKind.i64.wrap ((i : Int) + 1) = ((i + 1 : Nat) : Int) := by rw [wrap64 _ (by omega) (by omega)]; rfl
    by_cases hA : ∃ hlj : j < gs.length, gs[j] < c.1
    · obtain ⟨hlj, hx⟩ := hA
      have cj := gvK.at_ j (u32 gs[j]) (by simp [hlj])
      have ixj := gvK.index (P := Tryz.prog) (t := 26) (by simp) .i64 j (by omega) (by omega) W
      simp at ixj
      simp [e1, e4, e5, e6, e7, e8, glen, hlj, ixj, cj, hx]
      refine ⟨gs.length - (j + 1), by omega, j + 1, rfl, by omega, by rw [wrap64 _ (by omega) (by omega)]; rfl, fun x hx' => ?_⟩
      rw [List.take_add_one, List.getElem?_eq_getElem hlj] at hx'
      rcases List.mem_append.1 hx' with hx' | hx'
      · exact hjl x hx'
      · simp at hx'; rw [hx']; exact hx
    by_cases hB : ∃ hlj : j < gs.length, gs[j] = c.1
    · obtain ⟨hlj, hx⟩ := hB
      have cj := gvK.at_ j (u32 gs[j]) (by simp [hlj])
      have ixj := gvK.index (P := Tryz.prog) (t := 26) (by simp) .i64 j (by omega) (by omega) W
      have ixn := nvK.index (P := Tryz.prog) (t := 27) (by simp) .i64 j (by omega) (by omega) W
      simp at ixj ixn
      rw [hx] at cj
      have hnl : (nsOf (l.take i) gs).length = gs.length := by simp [nsOf]
      have cn := nvK.at_ j (i64 (gN (l.take i) c.1)) (by simp [nsOf, hlj, hx])
      have ht := own_thaw hn (by omega) j
      have hof := own_off hn
      rw [hof, Nat.zero_add] at cn ixn
      have hwn : IntKind.i64.wrap ((gN (l.take i) c.1 : Int) + 1) = (gN (l.take i) c.1 : Int) + 1 := by
        have h1 := gN_le (l.take i) c.1
        rw [List.length_take] at h1
        exact wrap64 _ (by omega) (by omega)
      simp [e1, e4, e5, e6, e7, e8, glen, hlj, ixj, cj, ixn, cn, ht, hwn]
      have hnn := own_nil hn (by omega)
      have hgn := own_nil hg (by omega)
      have hM := Mod.setCell (S := fun k => k = slB nv) (Mod.refl _ W) ⟨slB nv, j, none⟩ (i64 ((gN (l.take i) c.1 : Int) + 1)) (.inl rfl)
      have hbn := own_ge hn hnn
      have hSh := hS.hit (show gs[j]? = some c.1 by rw [List.getElem?_eq_getElem hlj, hx])
      refine ⟨l.length - (i + 1), by omega, i + 1, rfl, by omega, hw1, ?_, p2.mod hM (by omega), by simpa using z2, gs, by rw [htk]; exact hSh.1, own_keep hg fun _ hl => hM.blk _ hl (own_disj hn hg (by decide) hnn hgn), ?_⟩
      · exact ((hE2.mod (S := fun k => w.heap.size ≤ k)).trans (hM.weaken fun k hk => by omega)).ext fun _ h => h
      · have h1 := own_set hn (by omega : j < gs.length) (i64 ((gN (l.take i) c.1 : Int) + 1))
        rw [htk, hSh.2, List.map_set]
        exact h1
    have hC : (j < gs.length ∧ ∀ x, gs[j]? = some x → c.1 < x) ∨ j = gs.length := by
      by_cases hlj : j < gs.length
      · refine .inl ⟨hlj, fun x hx => ?_⟩
        have h1 := List.getElem?_eq_getElem hlj
        rw [hx] at h1
        cases h1
        have h2 : ¬ gs[j] < c.1 := fun h => hA ⟨hlj, h⟩
        have h3 : ¬ gs[j] = c.1 := fun h => hB ⟨hlj, h⟩
        omega
      · exact .inr (by omega)
    have hC2 : ∀ x, gs[j]? = some x → c.1 < x := fun x hx => by
      rcases hC with hC | hC
      · exact hC.2 x hx
      · rw [hC] at hx; simp at hx
    obtain ⟨hSm, hNm⟩ := SG.miss hS hjl hC2
    have gvH := fun W => gvK.sliceH (P := Tryz.prog) (t := 26) (by simp) .i64 j (by omega) (by omega) W
    have nvH := fun W => nvK.sliceH (P := Tryz.prog) (t := 27) (by simp) .i64 j (by omega) (by omega) W
    obtain ⟨gu, gvT, gvS⟩ := sl_tail (P := Tryz.prog) (t := 26) gvK (by simp) (fun W => by simp) .i64 j hj
    obtain ⟨nu, nvT, nvS⟩ := sl_tail (P := Tryz.prog) (t := 27) nvK (by simp) (fun W => by simp) .i64 j hj
    have hcond : (j < gs.length ∧ ∃ hlj : j < gs.length, c.1 < gs[j]) ∨ j = gs.length := hC.imp (fun h => ⟨h.1, h.1, h.2 _ (List.getElem?_eq_getElem h.1)⟩) id
    rcases hcond with ⟨hlj, _, hx⟩ | hje
    have cj := gvK.at_ j (u32 gs[j]) (by simp [hlj])
    have ixj := gvK.index (P := Tryz.prog) (t := 26) (by simp) .i64 j (by omega) (by omega) W
    simp at ixj
    have hx1 : ¬ gs[j] < c.1 := by omega
    have hx2 : ¬ gs[j] = c.1 := by omega
    simp [e4, e7, e8, glen, hlj, ixj, cj, hx1, hx2]
    rotate_left
    have hlj : ¬ j < gs.length := by omega
    simp [e4, e8, glen, hlj]
    all_goals
      refine WC_drawL 11 (.F 1 <| .F 2 <| .F 3 <| .F 5 <| .F 8 <| .F 9 <| .F 10 <| .D 0 <| .D 6 <| .W 0 <| .L 4 <| .W 6 <| .C 7 <| .Z) (fun _ => false) (fun k => decide (W.heap.size ≤ k))
        (fun i u V => if i = 0 then (∃ b, u = .slice (some ⟨b, 0, none⟩) 0 0) ∧ V.ownsRow W.heap.size 33 1 u 0 [] else Sl V 1 u 1 [u32 c.1]) rfl (by kernel_rfl) (fun _ _ => rfl)
        (fun i u a b h1 h2 => ?_) fun V hV => ?_
      · by_cases hi : i = 0
        · rw [if_pos hi] at h1 ⊢
          exact ⟨h1.1, own_ext h1.2 (agr_ext h2)⟩
        · rw [if_neg hi] at h1 ⊢
          exact h1.ext (agr_ext h2)
      have hVE : Ext W V := hV ▸ Ext.drew _
      simp [e4, e7, e8, gvH, gvT]
      refine RL_float (fun V1 h1 => ?_) ?_
      · simp
        have hs := (hVE.trans (agr_ext h1)).size
        exact ⟨(Ext.refl _).alloc _, own_empty V1 _ (by omega)⟩
      simp
      refine RL_float (fun V1 h1 => ?_) ?_
      · simp
        exact ⟨(Ext.refl _).alloc _, Sl.made V1 [u32 c.1] 33 1 1 rfl⟩
      simp
      refine RL_wait fun v0 V2 h2 ⟨⟨b0, hb0⟩, ho0⟩ => ?_
      subst hb0
      simp
      refine RL_loose fun V3 h3 => ?_
      have hE3 := hVE.trans (h2.trans h3)
      have hs3 := hE3.size
      obtain ⟨v1, V4, hr4, ho4, hE5⟩ := append_newB (P := Tryz.prog) (t := 26) (ty := 26) (e := 33) (s := 1) (by simp) (by simp) (by kernel_rfl) (own_ext ho0 h3) (((gvK.ext hE3).takeH j hj).toB) (fun u hu => oneU u (List.mem_of_mem_take hu)) (by omega) (by omega)
      simp [hr4]
      refine KR_ext hE5 ?_
      simp
      refine RL_wait fun v5 V5 h5 hs5 => ?_
      have hE5' := hE3.trans (hE5.trans h5)
      have hs5' := hE5'.size
      obtain ⟨v2, V6, hr6, ho6, hM6, hfr6⟩ := append_own (P := Tryz.prog) (t := 26) (ty := 26) (e := 33) (s := 1) (by simp) (by simp) (by kernel_rfl) (own_ext ho4 h5) hs5 (fun u hu => by rw [List.mem_singleton] at hu; subst hu; rfl) (by omega) (by omega)
      simp [hr6]
      refine KR_mk (hM6.agr fun k hk hc => by
        have h1 := own_ge ho4 hc.1
        have h2 := hc.2
        simp at hk
        omega) ?_
      have hE6 : Ext W V6 := ((hE5'.mod (S := fun k => W.heap.size ≤ k)).trans (hM6.weaken fun k hk => by have := own_ge ho4 hk.1; have := hk.2; omega)).ext fun _ h => h
      have hs6 := hE6.size
      obtain ⟨v3, V7, hr7, ho7, hM7, hfr7⟩ := append_own (P := Tryz.prog) (t := 26) (ty := 26) (e := 33) (s := 1) (by simp) (by simp) (by kernel_rfl) ho6 (gvS V6 (gvK.ext hE6)) (fun u hu => oneU u (List.mem_of_mem_drop hu)) (by omega) (by omega)
      have hE7 : Ext W V7 := ((hE6.mod (S := fun k => W.heap.size ≤ k)).trans (hM7.weaken fun k hk => by have := own_ge ho6 hk.1; have := hk.2; omega)).ext fun _ h => h
      simp [hr7]

      refine WC_drawL 10 (.F 1 <| .F 2 <| .F 3 <| .F 7 <| .F 8 <| .F 9 <| .D 0 <| .D 5 <| .W 0 <| .L 4 <| .W 5 <| .C 6 <| .Z) (fun _ => false) (fun k => decide (V7.heap.size ≤ k))
        (fun i u V => if i = 0 then (∃ b, u = .slice (some ⟨b, 0, none⟩) 0 0) ∧ V.ownsRow V7.heap.size 3 1 u 0 [] else Sl V 1 u 1 [i64 1]) rfl (by kernel_rfl) (fun _ _ => rfl)
        (fun i u a b h1 h2 => ?_) fun V hV => ?_
      · by_cases hi : i = 0
        · rw [if_pos hi] at h1 ⊢
          exact ⟨h1.1, own_ext h1.2 (agr_ext h2)⟩
        · rw [if_neg hi] at h1 ⊢
          exact h1.ext (agr_ext h2)
      have hVEn : Ext V7 V := hV ▸ Ext.drew _
      simp [e5, e8, nvH, nvT]
      refine RL_float (fun U1 h1 => ?_) ?_
      · simp
        have hs := (hVEn.trans (agr_ext h1)).size
        exact ⟨(Ext.refl _).alloc _, own_empty U1 _ (by omega)⟩
      simp
      refine RL_float (fun U1 h1 => ?_) ?_
      · simp
        exact ⟨(Ext.refl _).alloc _, Sl.made U1 [i64 1] 3 1 1 rfl⟩
      simp
      refine RL_wait fun v0n U2 h2n ⟨⟨b0n, hb0n⟩, ho0n⟩ => ?_
      subst hb0n
      simp
      refine RL_loose fun U3 h3n => ?_
      have hE3n := hVEn.trans (h2n.trans h3n)
      have hs3n := hE3n.size
      obtain ⟨v1n, U4, hr4, ho4n, hE5n⟩ := append_newB (P := Tryz.prog) (t := 27) (ty := 27) (e := 3) (s := 1) (by simp) (by simp) (by kernel_rfl) (own_ext ho0n h3n) ((((nvK.ext hE7).ext hE3n).takeH j hj).toB) (fun u hu => oneI u (List.mem_of_mem_take hu)) (by omega) (by omega)
      simp [hr4]
      refine KR_ext hE5n ?_
      simp
      refine RL_wait fun v5n U5 h5n hs5n => ?_
      have hE5'n := hE3n.trans (hE5n.trans h5n)
      have hs5'n := hE5'n.size
      obtain ⟨v2n, U6, hr6, ho6n, hM6n, hfr6n⟩ := append_own (P := Tryz.prog) (t := 27) (ty := 27) (e := 3) (s := 1) (by simp) (by simp) (by kernel_rfl) (own_ext ho4n h5n) hs5n (fun u hu => by rw [List.mem_singleton] at hu; subst hu; rfl) (by omega) (by omega)
      simp [hr6]
      refine KR_mk (hM6n.agr fun k hk hc => by
        have h1 := own_ge ho4n hc.1
        have h2 := hc.2
        simp at hk
        omega) ?_
      have hE6n : Ext V7 U6 := ((hE5'n.mod (S := fun k => V7.heap.size ≤ k)).trans (hM6n.weaken fun k hk => by have := own_ge ho4n hk.1; have := hk.2; omega)).ext fun _ h => h
      have hs6n := hE6n.size
      obtain ⟨v3n, U7, hr7, ho7n, hM7n, hfr7n⟩ := append_own (P := Tryz.prog) (t := 27) (ty := 27) (e := 3) (s := 1) (by simp) (by simp) (by kernel_rfl) ho6n (nvS U6 ((nvK.ext hE7).ext hE6n)) (fun u hu => oneI u (List.mem_of_mem_drop hu)) (by omega) (by omega)
      have hE7n : Ext V7 U7 := ((hE6n.mod (S := fun k => V7.heap.size ≤ k)).trans (hM7n.weaken fun k hk => by have := own_ge ho6n hk.1; have := hk.2; omega)).ext fun _ h => h
      simp [hr7, e1, e6]

      refine ⟨l.length - (i + 1), by omega, i + 1, rfl, by omega, hw1, (hE2.trans hE7).trans hE7n, (p2.ext hE7).ext hE7n, by have := (hE7.trans hE7n).size; omega, gs.take j ++ [c.1] ++ gs.drop j, by rw [htk]; exact hSm, ?_, ?_⟩
      · have h1 := own_lower (own_ext ho7 hE7n) z2
        have e1 : (gs.take j ++ [c.1] ++ gs.drop j).length = j + 1 + (gs.length - j) := by simp; omega
        rw [e1]
        simpa using h1
      · have h1 := own_lower ho7n (show w1.heap.size ≤ V7.heap.size by have := hE7.size; omega)
        have e1 : (gs.take j ++ [c.1] ++ gs.drop j).length = j + 1 + (gs.length - j) := by simp; omega
        rw [e1, htk, hNm]
        simpa using h1
  · have : i = l.length := by omega
    subst this
    simp [e1, e4, e5, e6, p2.c1, hlen]
    rw [List.take_length] at hS hn
    exact ⟨gs, gv, nv, ⟨rfl, rfl⟩, hS, own_lower hg (by omega), own_lower hn (by omega), hE2⟩
end Go.Proofs
