/-
  Contracts of the functions that the law reaches, step by step.
-/
import Derived.Test.YthamfghcfjhifaaGreatDoorAgI
namespace Go.Proofs
open Pk
set_option maxRecDepth 10000
attribute [local simp] beq_dec bne_dec
set_option maxHeartbeats 40000000 in
theorem rofRec_c {w : World} {t : It} {cs : List Value} (ht : ItC w t cs) (hn0 : ∀ x ∈ t.l, 0 ≤ x.n ∧ x.n ≤ 18446744073709551615) (hn1 : ∀ x ∈ t.l, ∀ y ∈ x.l, 0 ≤ y.n ∧ y.n ≤ 18446744073709551615) (hn3 : ∀ x ∈ t.l, ∀ y ∈ x.l, ∀ z ∈ y.l, ∀ u ∈ z.l, 0 ≤ u.n) :
    FN Tryz.prog 22 [.agg cs.toArray] w fun e w' => e = .returned (ofV (ofD t)) ∧ Ext w w' := by
  obtain ⟨ba, bc, la, lc, css, hO⟩ := itO ht
  have ecs := hO.cs
  rw [show cs.toArray = #[i64 t.k, u64 t.n, .slice ba t.b.length bc, .string t.s, .slice la t.l.length lc] by rw [ecs]]
  refine FN_enter Tryz.func22 rfl rfl (by kernel_rfl) ?_
  have hE1 : Ext w ((w.alloc (.cells #[i64 t.k, u64 t.n, .slice ba t.b.length bc, .string t.s, .slice la t.l.length lc] 51)).alloc (.cells #[i64 0, u32 0, u32 0, u64 0, u32 0, i64 0, i64 0, u64 0, u64 0, u32 0, u32 0, .bool false, u64 0, u64 0, u8 0] 30)) := ((Ext.refl w).alloc _).alloc _
  have x1 : Blk ((w.alloc (.cells #[i64 t.k, u64 t.n, .slice ba t.b.length bc, .string t.s, .slice la t.l.length lc] 51)).alloc (.cells #[i64 0, u32 0, u32 0, u64 0, u32 0, i64 0, i64 0, u64 0, u64 0, u32 0, u32 0, .bool false, u64 0, u64 0, u8 0] 30)) w.heap.size [i64 t.k, u64 t.n, .slice ba t.b.length bc, .string t.s, .slice la t.l.length lc] := (Blk.new w _ 51).ext ((Ext.refl _).alloc _)
  have o1 : Blk ((w.alloc (.cells #[i64 t.k, u64 t.n, .slice ba t.b.length bc, .string t.s, .slice la t.l.length lc] 51)).alloc (.cells #[i64 0, u32 0, u32 0, u64 0, u32 0, i64 0, i64 0, u64 0, u64 0, u32 0, u32 0, .bool false, u64 0, u64 0, u8 0] 30)) (w.heap.size + 1) [i64 0, u32 0, u32 0, u64 0, u32 0, i64 0, i64 0, u64 0, u64 0, u32 0, u32 0, .bool false, u64 0, u64 0, u8 0] := by
    have := Blk.new (w.alloc (.cells #[i64 t.k, u64 t.n, .slice ba t.b.length bc, .string t.s, .slice la t.l.length lc] 51)) [i64 0, u32 0, u32 0, u64 0, u32 0, i64 0, i64 0, u64 0, u64 0, u32 0, u32 0, .bool false, u64 0, u64 0, u8 0] 30
    simpa using this
  have z1 : ((w.alloc (.cells #[i64 t.k, u64 t.n, .slice ba t.b.length bc, .string t.s, .slice la t.l.length lc] 51)).alloc (.cells #[i64 0, u32 0, u32 0, u64 0, u32 0, i64 0, i64 0, u64 0, u64 0, u32 0, u32 0, .bool false, u64 0, u64 0, u8 0] 30)).heap.size = w.heap.size + 1 + 1 := by simp
  have itc : ∀ W, Ext w W → ItC W t [i64 t.k, u64 t.n, .slice ba t.b.length bc, .string t.s, .slice la t.l.length lc] := fun W h => by rw [← ecs]; exact ht.ext h
  have len := fun ty W => hO.l.isLen (P := Tryz.prog) (t := 48) (by simp) ty W
  have ixa := fun W (h : Ext w W) (j : Nat) (hj : j < t.l.length) => (hO.l.ext h).index (P := Tryz.prog) (t := 48) (by simp) .i64 j (by omega) (by omega) W
  simp
  generalize ((w.alloc (.cells #[i64 t.k, u64 t.n, .slice ba t.b.length bc, .string t.s, .slice la t.l.length lc] 51)).alloc (.cells #[i64 0, u32 0, u32 0, u64 0, u32 0, i64 0, i64 0, u64 0, u64 0, u32 0, u32 0, .bool false, u64 0, u64 0, u8 0] 30)) = w1 at *
  by_cases h4 : t.k = 4
  case neg =>
    have e0 : ofD t = none := if_neg h4
    rw [e0]
    simp [h4, o1.cell 0 _ rfl, o1.cell 1 _ rfl, o1.cell 2 _ rfl, o1.cell 3 _ rfl, o1.cell 4 _ rfl, o1.cell 5 _ rfl, o1.cell 6 _ rfl, o1.cell 7 _ rfl, o1.cell 8 _ rfl, o1.cell 9 _ rfl, o1.cell 10 _ rfl, o1.cell 11 _ rfl, o1.cell 12 _ rfl, o1.cell 13 _ rfl, o1.cell 14 _ rfl, o1.thaw, setCell_id (o1.cell 0 _ rfl), setCell_id (o1.cell 1 _ rfl), setCell_id (o1.cell 2 _ rfl), setCell_id (o1.cell 3 _ rfl), setCell_id (o1.cell 4 _ rfl), setCell_id (o1.cell 5 _ rfl), setCell_id (o1.cell 6 _ rfl), setCell_id (o1.cell 7 _ rfl), setCell_id (o1.cell 8 _ rfl), setCell_id (o1.cell 9 _ rfl), setCell_id (o1.cell 10 _ rfl), setCell_id (o1.cell 11 _ rfl), setCell_id (o1.cell 12 _ rfl), setCell_id (o1.cell 13 _ rfl), setCell_id (o1.cell 14 _ rfl)]
    exact ⟨rfl, hE1⟩
  cases hl : t.l with
  | nil =>
    have e0 : ofD t = none := by unfold ofD; rw [if_pos h4, hl]
    rw [e0]
    rw [hl] at len x1
    simp at len
    simp [x1.cell 4 _ rfl, h4, o1.cell 0 _ rfl, o1.cell 1 _ rfl, o1.cell 2 _ rfl, o1.cell 3 _ rfl, o1.cell 4 _ rfl, o1.cell 5 _ rfl, o1.cell 6 _ rfl, o1.cell 7 _ rfl, o1.cell 8 _ rfl, o1.cell 9 _ rfl, o1.cell 10 _ rfl, o1.cell 11 _ rfl, o1.cell 12 _ rfl, o1.cell 13 _ rfl, o1.cell 14 _ rfl, o1.thaw, setCell_id (o1.cell 0 _ rfl), setCell_id (o1.cell 1 _ rfl), setCell_id (o1.cell 2 _ rfl), setCell_id (o1.cell 3 _ rfl), setCell_id (o1.cell 4 _ rfl), setCell_id (o1.cell 5 _ rfl), setCell_id (o1.cell 6 _ rfl), setCell_id (o1.cell 7 _ rfl), setCell_id (o1.cell 8 _ rfl), setCell_id (o1.cell 9 _ rfl), setCell_id (o1.cell 10 _ rfl), setCell_id (o1.cell 11 _ rfl), setCell_id (o1.cell 12 _ rfl), setCell_id (o1.cell 13 _ rfl), setCell_id (o1.cell 14 _ rfl)]
    exact ⟨rfl, hE1⟩
  | cons q0 l =>
  have hln : t.l.length = l.length + 1 := by rw [hl]; rfl
  have hq0 : t.l[0]? = some q0 := by rw [hl]; rfl
  obtain ⟨_, _, _, _, _, -, r0⟩ := itRowO (hO.l.ext hE1) (hO.c.ext hE1) hq0
  have i0 := ixa w1 hE1 0 (by omega)
  have rc0 := r0.c0
  have rc1 := r0.c1
  have hl0 : ¬ t.l = [] := by rw [hl]; simp
  simp at i0 rc0 rc1
  have hx0 := hn0 q0 (by rw [hl]; simp)
  have bad : ¬ (q0.k = 1 ∧ 1 ≤ q0.n ∧ q0.n ≤ 5) → ofD t = none := fun h => by unfold ofD; rw [if_pos h4, hl]; exact if_neg h
  by_cases g1 : q0.k = 1
  case neg =>
    rw [bad (fun h => g1 h.1)]
    simp [x1.cell 4 _ rfl, h4, len, hl0, i0, rc0, g1, o1.cell 0 _ rfl, o1.cell 1 _ rfl, o1.cell 2 _ rfl, o1.cell 3 _ rfl, o1.cell 4 _ rfl, o1.cell 5 _ rfl, o1.cell 6 _ rfl, o1.cell 7 _ rfl, o1.cell 8 _ rfl, o1.cell 9 _ rfl, o1.cell 10 _ rfl, o1.cell 11 _ rfl, o1.cell 12 _ rfl, o1.cell 13 _ rfl, o1.cell 14 _ rfl, o1.thaw, setCell_id (o1.cell 0 _ rfl), setCell_id (o1.cell 1 _ rfl), setCell_id (o1.cell 2 _ rfl), setCell_id (o1.cell 3 _ rfl), setCell_id (o1.cell 4 _ rfl), setCell_id (o1.cell 5 _ rfl), setCell_id (o1.cell 6 _ rfl), setCell_id (o1.cell 7 _ rfl), setCell_id (o1.cell 8 _ rfl), setCell_id (o1.cell 9 _ rfl), setCell_id (o1.cell 10 _ rfl), setCell_id (o1.cell 11 _ rfl), setCell_id (o1.cell 12 _ rfl), setCell_id (o1.cell 13 _ rfl), setCell_id (o1.cell 14 _ rfl)]
    exact ⟨rfl, hE1⟩
  by_cases g2 : q0.n < 1
  · rw [bad (fun h => by omega)]
    simp [x1.cell 4 _ rfl, h4, len, hl0, i0, rc0, rc1, g1, g2, o1.cell 0 _ rfl, o1.cell 1 _ rfl, o1.cell 2 _ rfl, o1.cell 3 _ rfl, o1.cell 4 _ rfl, o1.cell 5 _ rfl, o1.cell 6 _ rfl, o1.cell 7 _ rfl, o1.cell 8 _ rfl, o1.cell 9 _ rfl, o1.cell 10 _ rfl, o1.cell 11 _ rfl, o1.cell 12 _ rfl, o1.cell 13 _ rfl, o1.cell 14 _ rfl, o1.thaw, setCell_id (o1.cell 0 _ rfl), setCell_id (o1.cell 1 _ rfl), setCell_id (o1.cell 2 _ rfl), setCell_id (o1.cell 3 _ rfl), setCell_id (o1.cell 4 _ rfl), setCell_id (o1.cell 5 _ rfl), setCell_id (o1.cell 6 _ rfl), setCell_id (o1.cell 7 _ rfl), setCell_id (o1.cell 8 _ rfl), setCell_id (o1.cell 9 _ rfl), setCell_id (o1.cell 10 _ rfl), setCell_id (o1.cell 11 _ rfl), setCell_id (o1.cell 12 _ rfl), setCell_id (o1.cell 13 _ rfl), setCell_id (o1.cell 14 _ rfl)]
    exact ⟨rfl, hE1⟩
  by_cases g3 : 5 < q0.n
  · rw [bad (fun h => by omega)]
    simp [x1.cell 4 _ rfl, h4, len, hl0, i0, rc0, rc1, g1, g2, g3, o1.cell 0 _ rfl, o1.cell 1 _ rfl, o1.cell 2 _ rfl, o1.cell 3 _ rfl, o1.cell 4 _ rfl, o1.cell 5 _ rfl, o1.cell 6 _ rfl, o1.cell 7 _ rfl, o1.cell 8 _ rfl, o1.cell 9 _ rfl, o1.cell 10 _ rfl, o1.cell 11 _ rfl, o1.cell 12 _ rfl, o1.cell 13 _ rfl, o1.cell 14 _ rfl, o1.thaw, setCell_id (o1.cell 0 _ rfl), setCell_id (o1.cell 1 _ rfl), setCell_id (o1.cell 2 _ rfl), setCell_id (o1.cell 3 _ rfl), setCell_id (o1.cell 4 _ rfl), setCell_id (o1.cell 5 _ rfl), setCell_id (o1.cell 6 _ rfl), setCell_id (o1.cell 7 _ rfl), setCell_id (o1.cell 8 _ rfl), setCell_id (o1.cell 9 _ rfl), setCell_id (o1.cell 10 _ rfl), setCell_id (o1.cell 11 _ rfl), setCell_id (o1.cell 12 _ rfl), setCell_id (o1.cell 13 _ rfl), setCell_id (o1.cell 14 _ rfl)]
    exact ⟨rfl, hE1⟩
  have good : 1 ≤ q0.n ∧ q0.n ≤ 5 := by omega
  have wk := wrap64 q0.n (by omega) (by omega)
  simp [x1.cell 4 _ rfl, h4, len, hl0, i0, rc0, rc1, g1, g2, g3, wk]
  refine WC_drawL 11 (.F 0 <| .F 7 <| .F 8 <| .D 1 <| .D 2 <| .D 3 <| .D 4 <| .D 5 <| .W 1 <| .W 2 <| .W 3 <| .W 4 <| .W 5 <| .C 6 <| .F 9 <| .F 10 <| .Z) (fun _ => false) (fun _ => false) (fun i u W => SlB W 1 u (shp i).length ((shp i).map i64)) rfl (by kernel_rfl) (fun _ h => h) (fun _ _ _ _ h1 h2 => h1.ext (agr_ext h2)) fun W hW => ?_
  have hWE : Ext w1 W := hW ▸ Ext.drew _
  have xW := x1.ext hWE
  simp [xW.cell 0 _ rfl, xW.cell 1 _ rfl, xW.cell 2 _ rfl, xW.cell 3 _ rfl, xW.cell 4 _ rfl]
  refine RL_float (fun W' h' => ?_) ?_
  · simp
    exact ⟨(Ext.refl _).alloc _, (Sl.made W' [i64 1, i64 4, i64 1, i64 1, i64 1] 3 1 5 rfl).toB⟩
  simp
  refine RL_float (fun W' h' => ?_) ?_
  · simp
    exact ⟨(Ext.refl _).alloc _, (Sl.made W' [i64 1, i64 1, i64 1, i64 1] 3 1 4 rfl).toB⟩
  simp
  refine RL_float (fun W' h' => ?_) ?_
  · simp
    exact ⟨(Ext.refl _).alloc _, (Sl.made W' [i64 1, i64 1, i64 1, i64 1, i64 5, i64 1] 3 1 6 rfl).toB⟩
  simp
  refine RL_float (fun W' h' => ?_) ?_
  · simp
    exact ⟨(Ext.refl _).alloc _, (Sl.made W' [i64 1, i64 1, i64 1, i64 1, i64 1] 3 1 5 rfl).toB⟩
  simp
  refine RL_float (fun W' h' => ?_) ?_
  · simp
    exact ⟨(Ext.refl _).alloc _, (Sl.made W' [i64 1, i64 1, i64 1, i64 1, i64 5] 3 1 5 rfl).toB⟩
  simp
  refine RL_wait fun v1 V1 hV1 hs1 => ?_
  obtain ⟨sa1, sc1, rfl⟩ := hs1.isSlice
  simp
  refine RL_wait fun v2 V2 hV2 hs2 => ?_
  obtain ⟨sa2, sc2, rfl⟩ := hs2.isSlice
  simp
  refine RL_wait fun v3 V3 hV3 hs3 => ?_
  obtain ⟨sa3, sc3, rfl⟩ := hs3.isSlice
  simp
  refine RL_wait fun v4 V4 hV4 hs4 => ?_
  obtain ⟨sa4, sc4, rfl⟩ := hs4.isSlice
  simp
  refine RL_wait fun v5 V5 hV5 hs5 => ?_
  obtain ⟨sa5, sc5, rfl⟩ := hs5.isSlice
  simp
  have hEV := hWE.trans (hV1.trans (hV2.trans (hV3.trans (hV4.trans hV5))))
  have hE6 : Ext V5 (V5.alloc (.cells #[.slice sa1 (shp 1).length sc1, .slice sa2 (shp 2).length sc2, .slice sa3 (shp 3).length sc3, .slice sa4 (shp 4).length sc4, .slice sa5 (shp 5).length sc5] 91)) := (Ext.refl _).alloc _
  have s6 : Sl (V5.alloc (.cells #[.slice sa1 (shp 1).length sc1, .slice sa2 (shp 2).length sc2, .slice sa3 (shp 3).length sc3, .slice sa4 (shp 4).length sc4, .slice sa5 (shp 5).length sc5] 91)) 1 (.slice (some ⟨V5.heap.size, 0, none⟩) 5 5) 5 [.slice sa1 (shp 1).length sc1, .slice sa2 (shp 2).length sc2, .slice sa3 (shp 3).length sc3, .slice sa4 (shp 4).length sc4, .slice sa5 (shp 5).length sc5] := Sl.made V5 _ 91 1 5 rfl
  obtain ⟨kn, hkn⟩ : ∃ kn : Nat, q0.n = kn + 1 := ⟨(q0.n - 1).toNat, by omega⟩
  have hkn5 : kn < 5 := by omega
  have hktn : q0.n.toNat = kn + 1 := by omega
  obtain ⟨vs, hvs, hsel⟩ : ∃ v, ([.slice sa1 (shp 1).length sc1, .slice sa2 (shp 2).length sc2, .slice sa3 (shp 3).length sc3, .slice sa4 (shp 4).length sc4, .slice sa5 (shp 5).length sc5] : List Value)[kn]? = some v ∧ SlB V5 1 v (shp q0.n.toNat).length ((shp q0.n.toNat).map i64) := by
    rw [hktn]
    have hc : kn = 0 ∨ kn = 1 ∨ kn = 2 ∨ kn = 3 ∨ kn = 4 := by omega
    rcases hc with rfl | rfl | rfl | rfl | rfl
    · exact ⟨_, rfl, hs1.ext (hV2.trans (hV3.trans (hV4.trans hV5)))⟩
    · exact ⟨_, rfl, hs2.ext (hV3.trans (hV4.trans hV5))⟩
    · exact ⟨_, rfl, hs3.ext (hV4.trans hV5)⟩
    · exact ⟨_, rfl, hs4.ext hV5⟩
    · exact ⟨_, rfl, hs5⟩
  have hshl : (shp q0.n.toNat).length ≤ 1000 := by
    rw [hktn]
    have hc : kn = 0 ∨ kn = 1 ∨ kn = 2 ∨ kn = 3 ∨ kn = 4 := by omega
    rcases hc with rfl | rfl | rfl | rfl | rfl <;> decide
  have wk1 : IntKind.i64.wrap (q0.n - 1) = (kn : Int) := by rw [wrap64 _ (by omega) (by omega)]; omega
  refine KR_ext hE6 ?_
  have ixs := s6.index (P := Tryz.prog) (t := 92) (by simp) .i64 kn (by omega) (by omega)
  have cs6 := s6.at_ kn vs hvs
  have hsh := shape_c (itc _ (hE1.trans (hEV.trans hE6))) (hsel.ext hE6) hshl
  have xV := x1.ext (hEV.trans hE6)
  have oV := o1.ext (hEV.trans hE6)
  have hXV := hE1.trans (hEV.trans hE6)
  generalize (V5.alloc (.cells #[.slice sa1 (shp 1).length sc1, .slice sa2 (shp 2).length sc2, .slice sa3 (shp 3).length sc3, .slice sa4 (shp 4).length sc4, .slice sa5 (shp 5).length sc5] 91)) = V6 at *
  have ixs' := ixs V6
  simp at ixs' cs6 hsh
  simp [wk1, ixs', cs6]
  refine FN.mono (hsh) ?_
  rintro _ V7 ⟨rfl, hE7⟩
  have hX7 := hXV.trans hE7
  have x7 := xV.ext hE7
  have o7 := oV.ext hE7
  by_cases hshp : shB t (shp q0.n.toNat)
  case neg =>
    have e0 : ofD t = none := by
      unfold ofD
      rw [if_pos h4, hl]
      show (if q0.k = 1 ∧ 1 ≤ q0.n ∧ q0.n ≤ 5 then _ else _) = none
      rw [if_pos ⟨g1, good⟩]
      exact if_neg hshp
    rw [e0]
    simp [hshp, o7.cell 0 _ rfl, o7.cell 1 _ rfl, o7.cell 2 _ rfl, o7.cell 3 _ rfl, o7.cell 4 _ rfl, o7.cell 5 _ rfl, o7.cell 6 _ rfl, o7.cell 7 _ rfl, o7.cell 8 _ rfl, o7.cell 9 _ rfl, o7.cell 10 _ rfl, o7.cell 11 _ rfl, o7.cell 12 _ rfl, o7.cell 13 _ rfl, o7.cell 14 _ rfl, o7.thaw, setCell_id (o7.cell 0 _ rfl), setCell_id (o7.cell 1 _ rfl), setCell_id (o7.cell 2 _ rfl), setCell_id (o7.cell 3 _ rfl), setCell_id (o7.cell 4 _ rfl), setCell_id (o7.cell 5 _ rfl), setCell_id (o7.cell 6 _ rfl), setCell_id (o7.cell 7 _ rfl), setCell_id (o7.cell 8 _ rfl), setCell_id (o7.cell 9 _ rfl), setCell_id (o7.cell 10 _ rfl), setCell_id (o7.cell 11 _ rfl), setCell_id (o7.cell 12 _ rfl), setCell_id (o7.cell 13 _ rfl), setCell_id (o7.cell 14 _ rfl)]
    exact ⟨rfl, hX7⟩
  have hl6 : t.l.length ≤ 6 := by
    have := congrArg List.length hshp.2
    rw [List.length_map] at this
    rw [this, hktn]
    have hc : kn = 0 ∨ kn = 1 ∨ kn = 2 ∨ kn = 3 ∨ kn = 4 := by omega
    rcases hc with rfl | rfl | rfl | rfl | rfl <;> decide
  simp [hshp]
  have hE8 : Ext V7 (V7.alloc (.cells #[u64 0, u64 0, u64 0, u64 0, u64 0, u64 0] 93)) := (Ext.refl _).alloc _
  have b8 : Blk (V7.alloc (.cells #[u64 0, u64 0, u64 0, u64 0, u64 0, u64 0] 93)) V7.heap.size (numC t.l 0) := Blk.new V7 [u64 0, u64 0, u64 0, u64 0, u64 0, u64 0] 93
  have x8 := x7.ext hE8
  have o8 := o7.ext hE8
  have hX8 := hX7.trans hE8
  obtain ⟨nb, hnb⟩ : ∃ nb, nb = V7.heap.size := ⟨_, rfl⟩
  have hw7 := hX7.size
  have ho7 := o7.lt
  have hx7 := x7.lt
  rw [← hnb] at b8 ⊢
  generalize (V7.alloc (.cells #[u64 0, u64 0, u64 0, u64 0, u64 0, u64 0] 93)) = V8 at *
  exact rofLoop ht hO hn0 hn1 hn3 h4 hl g1 good hshp hl6 b8 x8 o8 hX8 (by omega) (by simp) (by simp) (by simp) (by simp) (by simp)
end Go.Proofs
