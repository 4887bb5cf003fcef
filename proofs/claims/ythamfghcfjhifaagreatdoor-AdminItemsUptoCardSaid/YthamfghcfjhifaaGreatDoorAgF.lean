/-
  Contracts of the functions that the law reaches, step by step.
-/
import Derived.Test.YthamfghcfjhifaaGreatDoorAgA
import Derived.Test.YthamfghcfjhifaaGreatDoorAfD
namespace Go.Proofs
open Pk
set_option maxRecDepth 10000
attribute [local simp] beq_dec bne_dec
theorem uint_nob (n : Int) : NoB (uintI n) := .mk 1 n _ [] (by simp)
theorem list_nob {l : List It} (h : ∀ x ∈ l, NoB x) : NoB (listI l) := .mk 4 0 _ l h
theorem rend_nob (a b : Int) : NoB (rendI a b) := by
  have two : ∀ x y : It, NoB x → NoB y → NoB (listI [x, y]) := fun x y hx hy => list_nob fun z hz => by
    simp only [List.mem_cons, List.not_mem_nil, or_false] at hz
    rcases hz with rfl | rfl
    · exact hx
    · exact hy
  unfold rendI
  split
  · exact two _ _ (uint_nob _) (uint_nob _)
  · exact two _ _ (uint_nob _) (two _ _ (uint_nob _) (uint_nob _))
/-- The endpoint of an item, as the document says. -/
noncomputable def endOfD (t : It) : Option (Int × Int) := if t = rendI 0 0 then some (0, 0) else if shB t [1, 4] ∧ bareB t = true then (match t.l with | [_, x1] => if shB x1 [1, 1] then (match x1.l with | [y0, y1] => if (1 ≤ y0.n ∧ y0.n ≤ 4294967295 ∧ y1.n ≤ 4294967295) ∧ t = rendI y0.n y1.n then some (y0.n, y1.n) else none | _ => none) else none | _ => none) else none
def endV : Option (Int × Int) → Value
  | none => .tuple #[.agg #[u32 0, u32 0], .bool false]
  | some (a, b) => .tuple #[.agg #[u32 a, u32 b], .bool true]
theorem sh2 {t : It} {a b : Int} (h : shB t [a, b]) : ∃ x0 x1, t.l = [x0, x1] ∧ x0.k = a ∧ x1.k = b := by
  obtain ⟨-, h⟩ := h
  match hl : t.l, h with
  | [x0, x1], h => simp at h; exact ⟨x0, x1, rfl, h.1, h.2⟩
  | [], h => simp at h
  | [_], h => simp at h
  | _ :: _ :: _ :: _, h => simp at h
set_option maxHeartbeats 4000000 in
theorem rendOf_c {w : World} {t : It} {cs : List Value} (ht : ItC w t cs) (hnn : ∀ x ∈ t.l, ∀ y ∈ x.l, 0 ≤ y.n) : FN Tryz.prog 91 [.agg cs.toArray] w fun e w' => e = .returned (endV (endOfD t)) ∧ Ext w w' := by
  obtain ⟨ba, bc, la, lc, css, hO⟩ := itO ht
  have ecs := hO.cs
  rw [show cs.toArray = #[i64 t.k, u64 t.n, .slice ba t.b.length bc, .string t.s, .slice la t.l.length lc] by rw [ecs]]
  refine FN_enter Tryz.func91 rfl rfl (by kernel_rfl) ?_
  have hE1 : Ext w ((w.alloc (.cells #[i64 t.k, u64 t.n, .slice ba t.b.length bc, .string t.s, .slice la t.l.length lc] 51)).alloc (.cells #[u32 0, u32 0] 25)) := ((Ext.refl w).alloc _).alloc _
  have x1 : Blk ((w.alloc (.cells #[i64 t.k, u64 t.n, .slice ba t.b.length bc, .string t.s, .slice la t.l.length lc] 51)).alloc (.cells #[u32 0, u32 0] 25)) w.heap.size [i64 t.k, u64 t.n, .slice ba t.b.length bc, .string t.s, .slice la t.l.length lc] := (Blk.new w _ 51).ext ((Ext.refl _).alloc _)
  have o1 : Blk ((w.alloc (.cells #[i64 t.k, u64 t.n, .slice ba t.b.length bc, .string t.s, .slice la t.l.length lc] 51)).alloc (.cells #[u32 0, u32 0] 25)) (w.heap.size + 1) [u32 0, u32 0] := by
    have := Blk.new (w.alloc (.cells #[i64 t.k, u64 t.n, .slice ba t.b.length bc, .string t.s, .slice la t.l.length lc] 51)) [u32 0, u32 0] 25
    simpa using this
  have z1 : ((w.alloc (.cells #[i64 t.k, u64 t.n, .slice ba t.b.length bc, .string t.s, .slice la t.l.length lc] 51)).alloc (.cells #[u32 0, u32 0] 25)).heap.size = w.heap.size + 1 + 1 := by simp
  simp
  generalize ((w.alloc (.cells #[i64 t.k, u64 t.n, .slice ba t.b.length bc, .string t.s, .slice la t.l.length lc] 51)).alloc (.cells #[u32 0, u32 0] 25)) = w1 at *
  have itc : ∀ W, Ext w W → ItC W t [i64 t.k, u64 t.n, .slice ba t.b.length bc, .string t.s, .slice la t.l.length lc] := fun W h => by rw [← ecs]; exact ht.ext h
  refine WC_drawC 3 (.F 0 <| .F 1 <| .C 2 <| .Z) (fun _ => false) rfl (by kernel_rfl) fun W hW => ?_
  have hWE : Ext w1 W := hW ▸ Ext.drew _
  have x2 := x1.ext hWE
  simp [x2.cell 0 _ rfl, x2.cell 1 _ rfl, x2.cell 2 _ rfl, x2.cell 3 _ rfl, x2.cell 4 _ rfl]
  refine FN.mono (rend_c (n := 0) (s := 0) (by omega) (by omega) W) ?_
  rintro _ w2 ⟨v0, rfl, ⟨a0, m0, c0, rfl⟩, hi0, hE2⟩
  simp
  refine KR_ext hE2 ?_
  simp
  have hX2 := hE1.trans (hWE.trans hE2)
  have hsm := csame_c (rend_nob 0 0) (itc w2 hX2) hi0.any
  simp at hsm
  refine FN.mono (hsm) ?_
  rintro _ w3 ⟨rfl, hE3⟩
  have hX3 := hX2.trans hE3
  have x3 := (x2.ext hE2).ext hE3
  have o3 := ((o1.ext hWE).ext hE2).ext hE3
  by_cases h00 : t = rendI 0 0
  · have e0 : endOfD t = some (0, 0) := if_pos h00
    rw [e0]
    simp [h00, o3.cell 0 _ rfl, o3.cell 1 _ rfl, o3.thaw, setCell_id (o3.cell 0 _ rfl), setCell_id (o3.cell 1 _ rfl)]
    exact ⟨rfl, hX3⟩
  simp [h00, x3.cell 0 _ rfl, x3.cell 1 _ rfl, x3.cell 2 _ rfl, x3.cell 3 _ rfl, x3.cell 4 _ rfl]
  have hE4 : Ext w3 (w3.alloc (.cells #[i64 1, i64 4] 3)) := (Ext.refl _).alloc _
  have s4 : SlB (w3.alloc (.cells #[i64 1, i64 4] 3)) 1 (.slice (some ⟨w3.heap.size, 0, none⟩) 2 2) [(1 : Int), 4].length ([(1 : Int), 4].map i64) := (Sl.made w3 [i64 1, i64 4] 3 1 2 rfl).toB
  have hsh := shape_c (itc _ (hX3.trans hE4)) s4 (by simp)
  generalize (w3.alloc (.cells #[i64 1, i64 4] 3)) = w4 at *
  simp at hsh
  refine FN.mono (hsh) ?_
  rintro _ w5 ⟨rfl, hE5⟩
  have hX5 := hX3.trans (hE4.trans hE5)
  have x5 := x3.ext (hE4.trans hE5)
  have o5 := o3.ext (hE4.trans hE5)
  have no : ∀ {W : World}, endOfD t = none → Ext w W → Ending.returned (.tuple #[.agg #[u32 0, u32 0], .bool false]) = .returned (endV (endOfD t)) ∧ Ext w W := fun h hE => ⟨by rw [h]; rfl, hE⟩
  by_cases hs : shB t [1, 4]
  case neg =>
    have e0 : endOfD t = none := by unfold endOfD; rw [if_neg h00, if_neg (fun h => hs h.1)]
    rw [e0]
    simp [hs, o5.cell 0 _ rfl, o5.cell 1 _ rfl, o5.thaw, setCell_id (o5.cell 0 _ rfl), setCell_id (o5.cell 1 _ rfl)]
    exact ⟨rfl, hX5⟩
  obtain ⟨q0, q1, hl, hk0, hk1⟩ := sh2 hs
  simp [hs, x5.cell 0 _ rfl, x5.cell 1 _ rfl, x5.cell 2 _ rfl, x5.cell 3 _ rfl, x5.cell 4 _ rfl]
  have hba := rbareI_c (itc w5 hX5)
  simp at hba
  refine FN.mono (hba) ?_
  rintro _ w6 ⟨rfl, hE6⟩
  have hX6 := hX5.trans hE6
  have x6 := x5.ext hE6
  have o6 := o5.ext hE6
  cases hb : bareB t with
  | false =>
    have e0 : endOfD t = none := by unfold endOfD; rw [if_neg h00, if_neg (fun h => by rw [hb] at h; cases h.2)]
    rw [e0]
    simp [o6.cell 0 _ rfl, o6.cell 1 _ rfl, o6.thaw, setCell_id (o6.cell 0 _ rfl), setCell_id (o6.cell 1 _ rfl)]
    exact ⟨rfl, hX6⟩
  | true =>
    have hq1 : t.l[1]? = some q1 := by rw [hl]; rfl
    have hl2 : t.l.length = 2 := by rw [hl]; rfl
    obtain ⟨bb, bbc, lb, lbc, css1, hO1, r1⟩ := itRowO (hO.l.ext hX6) (hO.c.ext hX6) hq1
    have ix := (hO.l.ext hX6).index (P := Tryz.prog) (t := 48) (by simp) .i64 1 (by omega) (by omega) w6
    simp at ix
    simp [x6.cell 4 _ rfl, ix, r1.c0, r1.c1, r1.c2, r1.c3, r1.c4]
    have hE7 : Ext w6 (w6.alloc (.cells #[i64 1, i64 1] 3)) := (Ext.refl _).alloc _
    have s7 : SlB (w6.alloc (.cells #[i64 1, i64 1] 3)) 1 (.slice (some ⟨w6.heap.size, 0, none⟩) 2 2) [(1 : Int), 1].length ([(1 : Int), 1].map i64) := (Sl.made w6 [i64 1, i64 1] 3 1 2 rfl).toB
    have hsh2 := shape_c (hO1.itC.ext hE7) s7 (by simp)
    generalize (w6.alloc (.cells #[i64 1, i64 1] 3)) = w7 at *
    simp at hsh2
    refine FN.mono (hsh2) ?_
    rintro _ w8 ⟨rfl, hE8⟩
    have hE68 := hE7.trans hE8
    have hX8 := hX6.trans hE68
    have x8 := x6.ext hE68
    have o8 := o6.ext hE68
    by_cases hs2 : shB q1 [1, 1]
    case neg =>
      have e0 : endOfD t = none := by unfold endOfD; rw [if_neg h00, if_pos ⟨hs, hb⟩, hl]; exact if_neg hs2
      rw [e0]
      simp [hs2, o8.cell 0 _ rfl, o8.cell 1 _ rfl, o8.thaw, setCell_id (o8.cell 0 _ rfl), setCell_id (o8.cell 1 _ rfl)]
      exact ⟨rfl, hX8⟩
    obtain ⟨y0, y1, hl1, hj0, hj1⟩ := sh2 hs2
    simp [hs2]
    refine WC_drawC 17 (.F 0 <| .F 1 <| .F 2 <| .F 3 <| .F 4 <| .F 5 <| .F 6 <| .F 7 <| .F 8 <| .F 9 <| .F 10 <| .F 11 <| .F 12 <| .F 13 <| .F 14 <| .F 15 <| .F 16 <| .Z) (fun _ => false) rfl (by kernel_rfl) fun V hV => ?_
    have hVE : Ext w8 V := hV ▸ Ext.drew _
    have hE6V := hE68.trans hVE
    have xV := x8.ext hVE
    have oV := o8.ext hVE
    have hXV := hX8.trans hVE
    have rV := r1.ext hE6V
    have hO1V := hO1.ext hE6V
    have hy0 : q1.l[0]? = some y0 := by rw [hl1]; rfl
    have hy1 : q1.l[1]? = some y1 := by rw [hl1]; rfl
    have hl12 : q1.l.length = 2 := by rw [hl1]; rfl
    obtain ⟨_, _, _, _, _, -, ra⟩ := itRowO hO1V.l hO1V.c hy0
    obtain ⟨_, _, _, _, _, -, rb⟩ := itRowO hO1V.l hO1V.c hy1
    have ixV := (hO.l.ext hXV).index (P := Tryz.prog) (t := 48) (by simp) .i64 1 (by omega) (by omega) V
    have ia := hO1V.l.index (P := Tryz.prog) (t := 48) (by simp) .i64 0 (by omega) (by omega) V
    have ib := hO1V.l.index (P := Tryz.prog) (t := 48) (by simp) .i64 1 (by omega) (by omega) V
    simp at ixV ia ib
    have ra1 := ra.c1
    have rb1 := rb.c1
    simp at ra1 rb1
    simp [xV.cell 4 _ rfl, ixV, rV.c4, ia, ib, ra1, rb1]
    have eno : ¬ ((1 ≤ y0.n ∧ y0.n ≤ 4294967295 ∧ y1.n ≤ 4294967295) ∧ t = rendI y0.n y1.n) → endOfD t = none := fun h => by
      unfold endOfD
      rw [if_neg h00, if_pos ⟨hs, hb⟩, hl]
      show (if shB q1 [1, 1] then _ else _) = none
      rw [if_pos hs2, hl1]
      exact if_neg h
    have eyes : ((1 ≤ y0.n ∧ y0.n ≤ 4294967295 ∧ y1.n ≤ 4294967295) ∧ t = rendI y0.n y1.n) → endOfD t = some (y0.n, y1.n) := fun h => by
      unfold endOfD
      rw [if_neg h00, if_pos ⟨hs, hb⟩, hl]
      show (if shB q1 [1, 1] then _ else _) = _
      rw [if_pos hs2, hl1]
      exact if_pos h
    by_cases c1 : y0.n < 1
    · rw [eno (fun h => by omega)]
      simp [c1, oV.cell 0 _ rfl, oV.cell 1 _ rfl, oV.thaw, setCell_id (oV.cell 0 _ rfl), setCell_id (oV.cell 1 _ rfl)]
      exact ⟨rfl, hXV⟩
    by_cases c2 : 4294967295 < y0.n
    · rw [eno (fun h => by omega)]
      simp [c1, c2, oV.cell 0 _ rfl, oV.cell 1 _ rfl, oV.thaw, setCell_id (oV.cell 0 _ rfl), setCell_id (oV.cell 1 _ rfl)]
      exact ⟨rfl, hXV⟩
    by_cases c3 : 4294967295 < y1.n
    · rw [eno (fun h => by omega)]
      simp [c1, c2, c3, oV.cell 0 _ rfl, oV.cell 1 _ rfl, oV.thaw, setCell_id (oV.cell 0 _ rfl), setCell_id (oV.cell 1 _ rfl)]
      exact ⟨rfl, hXV⟩
    have hy1n : 0 ≤ y1.n := hnn q1 (by rw [hl]; simp) y1 (by rw [hl1]; simp)
    have w0 := wrap32u y0.n (by omega) (by omega)
    have w1' := wrap32u y1.n hy1n (by omega)
    simp [c1, c2, c3, w0, w1']
    have hE9 : Ext V (V.alloc (.cells #[u32 y0.n, u32 y1.n] 25)) := (Ext.refl _).alloc _
    have p9 : Blk (V.alloc (.cells #[u32 y0.n, u32 y1.n] 25)) V.heap.size [u32 y0.n, u32 y1.n] := Blk.new V _ 25
    have x9 := xV.ext hE9
    have o9 := oV.ext hE9
    have zV := oV.lt
    obtain ⟨pb, hpb⟩ : ∃ pb, pb = V.heap.size := ⟨_, rfl⟩
    rw [← hpb] at p9 ⊢
    generalize (V.alloc (.cells #[u32 y0.n, u32 y1.n] 25)) = V9 at *
    refine WC_drawC 3 (.F 0 <| .F 1 <| .C 2 <| .Z) (fun _ => false) rfl (by kernel_rfl) fun U hU => ?_
    have hUE : Ext V9 U := hU ▸ Ext.drew _
    have xU := x9.ext hUE
    have pU := p9.ext hUE
    simp [xU.cell 0 _ rfl, xU.cell 1 _ rfl, xU.cell 2 _ rfl, xU.cell 3 _ rfl, xU.cell 4 _ rfl, pU.cell 0 _ rfl, pU.cell 1 _ rfl]
    refine FN.mono (rend_c (n := y0.n) (s := y1.n) (by omega) (by omega) U) ?_
    rintro _ U2 ⟨v1, rfl, ⟨a1, m1, d1, rfl⟩, hi1, hEU2⟩
    simp
    refine KR_ext hEU2 ?_
    simp
    have hXU2 := hXV.trans (hE9.trans (hUE.trans hEU2))
    have hsm2 := csame_c (rend_nob y0.n y1.n) (itc U2 hXU2) hi1.any
    simp at hsm2
    refine FN.mono (hsm2) ?_
    rintro _ U3 ⟨rfl, hEU3⟩
    have hXU3 := hXU2.trans hEU3
    have oU := ((o9.ext hUE).ext hEU2).ext hEU3
    have pU3 := (pU.ext hEU2).ext hEU3
    by_cases hq : t = rendI y0.n y1.n
    · rw [eyes ⟨⟨by omega, by omega, by omega⟩, hq⟩]
      have oU1 := oU.set 0 (u32 y0.n)
      have oU2 := oU1.set 1 (u32 y1.n)
      simp only [List.set_cons_zero, List.set_cons_succ] at oU1 oU2
      have hEf : Ext w ((U3.setCell ⟨w.heap.size + 1, 0, none⟩ (u32 y0.n)).setCell ⟨w.heap.size + 1, 1, none⟩ (u32 y1.n)) := (hXU3.setCell _ _ (by simp only; omega)).setCell _ _ (by simp only; omega)
      simp only [eq_true hq]
      simp [pU3.cell 0 _ rfl, pU3.cell 1 _ rfl, oU.cell 0 _ rfl, oU.thaw, oU1.cell 1 _ rfl, oU1.thaw, oU2.cell 0 _ rfl, oU2.cell 1 _ rfl]
      exact ⟨rfl, hEf⟩
    · rw [eno (fun h => hq h.2)]
      simp only [eq_false hq]
      simp [oU.cell 0 _ rfl, oU.cell 1 _ rfl, oU.thaw, setCell_id (oU.cell 0 _ rfl), setCell_id (oU.cell 1 _ rfl)]
      exact ⟨rfl, hXU3⟩
end Go.Proofs
namespace Go.Proofs
open Pk
set_option maxRecDepth 10000
attribute [local simp] beq_dec bne_dec
theorem sh3 {t : It} {a b c : Int} (h : shB t [a, b, c]) : ∃ x0 x1 x2, t.l = [x0, x1, x2] ∧ x0.k = a ∧ x1.k = b ∧ x2.k = c := by
  obtain ⟨-, h⟩ := h
  match hl : t.l, h with
  | [x0, x1, x2], h => simp at h; exact ⟨x0, x1, x2, rfl, h.1, h.2.1, h.2.2⟩
  | [], h => simp at h
  | [_], h => simp at h
  | [_, _], h => simp at h
  | _ :: _ :: _ :: _ :: _, h => simp at h
theorem rname_nob (n : Nam) : NoB (rnameI n) := list_nob fun z hz => by
  simp only [List.mem_cons, List.not_mem_nil, or_false] at hz
  rcases hz with rfl | rfl | rfl
  · exact rend_nob _ _
  · exact uint_nob _
  · exact uint_nob _
/-- The name of an item, as the document says. -/
noncomputable def nameOfD (t : It) : Option Nam := if shB t [4, 1, 1] then (match t.l with | [x0, x1, x2] => (match endOfD x0 with | none => none | some (a, b) => if nameE ⟨a, b, x1.n, x2.n % 4294967296⟩ = 0 ∧ t = rnameI ⟨a, b, x1.n, x2.n % 4294967296⟩ then some ⟨a, b, x1.n, x2.n % 4294967296⟩ else none) | _ => none) else none
def namOV : Option Nam → Value
  | none => .tuple #[.agg #[u32 0, u32 0, u64 0, u32 0], .bool false]
  | some n => .tuple #[namV n, .bool true]
theorem endOfD_ok {t : It} {a b : Int} (h : endOfD t = some (a, b)) (hnn : ∀ x ∈ t.l, ∀ y ∈ x.l, 0 ≤ y.n) : (0 ≤ a ∧ a ≤ 4294967295) ∧ (0 ≤ b ∧ b ≤ 4294967295) := by
  unfold endOfD at h
  split at h
  · cases h; omega
  split at h
  · rename_i hs
    split at h
    · rename_i q0 q1 hl
      split at h
      · split at h
        · rename_i y0 y1 hl1
          split at h
          · rename_i hc
            cases h
            have := hnn q1 (by rw [hl]; simp) y1 (by rw [hl1]; simp)
            omega
          · cases h
        · cases h
      · cases h
    · cases h
  · cases h
set_option maxHeartbeats 4000000 in
theorem rnameOf_c {w : World} {t : It} {cs : List Value} (ht : ItC w t cs) (hn1 : ∀ x ∈ t.l, 0 ≤ x.n) (hnn : ∀ x ∈ t.l, ∀ y ∈ x.l, ∀ z ∈ y.l, 0 ≤ z.n) : FN Tryz.prog 44 [.agg cs.toArray] w fun e w' => e = .returned (namOV (nameOfD t)) ∧ Ext w w' := by
  obtain ⟨ba, bc, la, lc, css, hO⟩ := itO ht
  have ecs := hO.cs
  rw [show cs.toArray = #[i64 t.k, u64 t.n, .slice ba t.b.length bc, .string t.s, .slice la t.l.length lc] by rw [ecs]]
  refine FN_enter Tryz.func44 rfl rfl (by kernel_rfl) ?_
  have hE1 : Ext w ((w.alloc (.cells #[i64 t.k, u64 t.n, .slice ba t.b.length bc, .string t.s, .slice la t.l.length lc] 51)).alloc (.cells #[u32 0, u32 0, u64 0, u32 0] 28)) := ((Ext.refl w).alloc _).alloc _
  have x1 : Blk ((w.alloc (.cells #[i64 t.k, u64 t.n, .slice ba t.b.length bc, .string t.s, .slice la t.l.length lc] 51)).alloc (.cells #[u32 0, u32 0, u64 0, u32 0] 28)) w.heap.size [i64 t.k, u64 t.n, .slice ba t.b.length bc, .string t.s, .slice la t.l.length lc] := (Blk.new w _ 51).ext ((Ext.refl _).alloc _)
  have o1 : Blk ((w.alloc (.cells #[i64 t.k, u64 t.n, .slice ba t.b.length bc, .string t.s, .slice la t.l.length lc] 51)).alloc (.cells #[u32 0, u32 0, u64 0, u32 0] 28)) (w.heap.size + 1) [u32 0, u32 0, u64 0, u32 0] := by
    have := Blk.new (w.alloc (.cells #[i64 t.k, u64 t.n, .slice ba t.b.length bc, .string t.s, .slice la t.l.length lc] 51)) [u32 0, u32 0, u64 0, u32 0] 28
    simpa using this
  have z1 : ((w.alloc (.cells #[i64 t.k, u64 t.n, .slice ba t.b.length bc, .string t.s, .slice la t.l.length lc] 51)).alloc (.cells #[u32 0, u32 0, u64 0, u32 0] 28)).heap.size = w.heap.size + 1 + 1 := by simp
  have itc : ∀ W, Ext w W → ItC W t [i64 t.k, u64 t.n, .slice ba t.b.length bc, .string t.s, .slice la t.l.length lc] := fun W h => by rw [← ecs]; exact ht.ext h
  simp
  have hEa : Ext ((w.alloc (.cells #[i64 t.k, u64 t.n, .slice ba t.b.length bc, .string t.s, .slice la t.l.length lc] 51)).alloc (.cells #[u32 0, u32 0, u64 0, u32 0] 28)) (((w.alloc (.cells #[i64 t.k, u64 t.n, .slice ba t.b.length bc, .string t.s, .slice la t.l.length lc] 51)).alloc (.cells #[u32 0, u32 0, u64 0, u32 0] 28)).alloc (.cells #[i64 4, i64 1, i64 1] 3)) := (Ext.refl _).alloc _
  have s4 : SlB (((w.alloc (.cells #[i64 t.k, u64 t.n, .slice ba t.b.length bc, .string t.s, .slice la t.l.length lc] 51)).alloc (.cells #[u32 0, u32 0, u64 0, u32 0] 28)).alloc (.cells #[i64 4, i64 1, i64 1] 3)) 1 (.slice (some ⟨((w.alloc (.cells #[i64 t.k, u64 t.n, .slice ba t.b.length bc, .string t.s, .slice la t.l.length lc] 51)).alloc (.cells #[u32 0, u32 0, u64 0, u32 0] 28)).heap.size, 0, none⟩) 3 3) [(4 : Int), 1, 1].length ([(4 : Int), 1, 1].map i64) := (Sl.made ((w.alloc (.cells #[i64 t.k, u64 t.n, .slice ba t.b.length bc, .string t.s, .slice la t.l.length lc] 51)).alloc (.cells #[u32 0, u32 0, u64 0, u32 0] 28)) [i64 4, i64 1, i64 1] 3 1 3 rfl).toB
  rw [z1] at s4
  have hsh := shape_c (itc _ (hE1.trans hEa)) s4 (by simp)
  have xa := x1.ext hEa
  have oa := o1.ext hEa
  have hXa := hE1.trans hEa
  have za := hEa.size
  rw [z1] at za
  generalize (((w.alloc (.cells #[i64 t.k, u64 t.n, .slice ba t.b.length bc, .string t.s, .slice la t.l.length lc] 51)).alloc (.cells #[u32 0, u32 0, u64 0, u32 0] 28)).alloc (.cells #[i64 4, i64 1, i64 1] 3)) = w4 at *
  simp at hsh
  refine FN.mono (hsh) ?_
  rintro _ w5 ⟨rfl, hE5⟩
  have hX5 := hXa.trans hE5
  have x5 := xa.ext hE5
  have o5 := oa.ext hE5
  by_cases hs : shB t [4, 1, 1]
  case neg =>
    have e0 : nameOfD t = none := if_neg hs
    rw [e0]
    simp [hs, o5.cell 0 _ rfl, o5.cell 1 _ rfl, o5.cell 2 _ rfl, o5.cell 3 _ rfl, o5.thaw, setCell_id (o5.cell 0 _ rfl), setCell_id (o5.cell 1 _ rfl), setCell_id (o5.cell 2 _ rfl), setCell_id (o5.cell 3 _ rfl)]
    exact ⟨rfl, hX5⟩
  obtain ⟨q0, q1, q2, hl, hk0, hk1, hk2⟩ := sh3 hs
  have hq0 : t.l[0]? = some q0 := by rw [hl]; rfl
  have hq1 : t.l[1]? = some q1 := by rw [hl]; rfl
  have hq2 : t.l[2]? = some q2 := by rw [hl]; rfl
  have hl3 : t.l.length = 3 := by rw [hl]; rfl
  obtain ⟨bb, bbc, lb, lbc, css0, hO0, r0⟩ := itRowO (hO.l.ext hX5) (hO.c.ext hX5) hq0
  obtain ⟨_, _, _, _, _, -, r1⟩ := itRowO (hO.l.ext hX5) (hO.c.ext hX5) hq1
  obtain ⟨_, _, _, _, _, -, r2⟩ := itRowO (hO.l.ext hX5) (hO.c.ext hX5) hq2
  have ix0 := fun W (h : Ext w W) => (hO.l.ext h).index (P := Tryz.prog) (t := 48) (by simp) .i64 0 (by omega) (by omega) W
  have ix1 := fun W (h : Ext w W) => (hO.l.ext h).index (P := Tryz.prog) (t := 48) (by simp) .i64 1 (by omega) (by omega) W
  have ix2 := fun W (h : Ext w W) => (hO.l.ext h).index (P := Tryz.prog) (t := 48) (by simp) .i64 2 (by omega) (by omega) W
  have i0 := ix0 w5 hX5
  have rc0 := r0.c0
  have rc1 := r0.c1
  have rc2 := r0.c2
  have rc3 := r0.c3
  have rc4 := r0.c4
  simp at i0 rc0 rc1 rc2 rc3 rc4
  simp [hs, x5.cell 4 _ rfl, i0, rc0, rc1, rc2, rc3, rc4]
  have hen := rendOf_c hO0.itC (hnn q0 (by rw [hl]; simp))
  simp at hen
  obtain ⟨oe, hoe⟩ : ∃ oe, oe = endOfD q0 := ⟨_, rfl⟩
  rw [← hoe] at hen
  obtain ⟨a, b, ok, hev, hok⟩ : ∃ a b ok, endV oe = .tuple #[.agg #[u32 a, u32 b], .bool ok] ∧ (ok = true ∧ oe = some (a, b) ∨ ok = false ∧ oe = none) := by
    cases oe with
    | none => exact ⟨0, 0, false, rfl, .inr ⟨rfl, rfl⟩⟩
    | some p => exact ⟨p.1, p.2, true, rfl, .inl ⟨rfl, rfl⟩⟩
  rw [hev] at hen
  refine FN.mono (hen) ?_
  rintro _ w6 ⟨rfl, hE6⟩
  simp
  have hX6 := hX5.trans hE6
  have hEb : Ext w6 (w6.alloc (.cells #[u32 a, u32 b] 25)) := (Ext.refl _).alloc _
  have p7 : Blk (w6.alloc (.cells #[u32 a, u32 b] 25)) w6.heap.size [u32 a, u32 b] := Blk.new w6 _ 25
  obtain ⟨eb, heb⟩ : ∃ eb, eb = w6.heap.size := ⟨_, rfl⟩
  rw [← heb] at p7 ⊢
  have hE57 := hE6.trans hEb
  have hX7 := hX5.trans hE57
  have x7 := x5.ext hE57
  have o7 := o5.ext hE57
  have h6w := hX6.size
  generalize (w6.alloc (.cells #[u32 a, u32 b] 25)) = w7 at *
  have hm0 := hn1 q2 (by rw [hl]; simp)
  obtain ⟨m, hm⟩ : ∃ m, m = q2.n % 4294967296 := ⟨_, rfl⟩
  have hmt : q2.n.tmod 4294967296 = m := by rw [hm]; exact Int.tmod_eq_emod_of_nonneg hm0
  have hmw := wrap32u m (by omega) (by omega)
  have hmw64 := wrap64u m (by omega) (by omega)
  refine WC_drawC 15 (.F 0 <| .F 1 <| .F 2 <| .F 3 <| .F 4 <| .F 5 <| .F 6 <| .F 7 <| .F 8 <| .F 9 <| .F 10 <| .F 11 <| .F 12 <| .F 13 <| .C 14 <| .Z) (fun _ => false) rfl (by kernel_rfl) fun V hV => ?_
  have hVE : Ext w7 V := hV ▸ Ext.drew _
  have hE5V := hE57.trans hVE
  have hXV := hX7.trans hVE
  have xV := x7.ext hVE
  have oV := o7.ext hVE
  have pV := p7.ext hVE
  have i1 := ix1 V hXV
  have i2 := ix2 V hXV
  have rd1 := (r1.ext hE5V).c1
  have rd2 := (r2.ext hE5V).c1
  simp at i1 i2 rd1 rd2
  simp [xV.cell 4 _ rfl, pV.cell 0 _ rfl, pV.cell 1 _ rfl, i1, i2, rd1, rd2, hmt, hmw]
  have hEc : Ext V (V.alloc (.cells #[u32 0, u32 0, u64 0, u32 0] 28)) := (Ext.refl V).alloc _
  refine KR_ext hEc ?_
  have n8 : Blk (V.alloc (.cells #[u32 0, u32 0, u64 0, u32 0] 28)) V.heap.size [u32 0, u32 0, u64 0, u32 0] := Blk.new V _ 28
  obtain ⟨nb, hnb⟩ : ∃ nb, nb = V.heap.size := ⟨_, rfl⟩
  rw [← hnb] at n8 ⊢
  have xc := xV.ext hEc
  have oc := oV.ext hEc
  have hXc := hXV.trans hEc
  have zV := oV.lt
  have zVw := hXV.size
  generalize (V.alloc (.cells #[u32 0, u32 0, u64 0, u32 0] 28)) = V8 at *
  have n9 := (((n8.set 0 (u32 a)).set 1 (u32 b)).set 2 (u64 q1.n)).set 3 (u32 m)
  have hM9 : Mod (fun k => k = nb) V8 ((((V8.setCell ⟨nb, 0, none⟩ (u32 a)).setCell ⟨nb, 1, none⟩ (u32 b)).setCell ⟨nb, 2, none⟩ (u64 q1.n)).setCell ⟨nb, 3, none⟩ (u32 m)) := ((((Mod.refl _ _).setC 0 _).setC 1 _).setC 2 _).setC 3 _
  simp only [List.set_cons_zero, List.set_cons_succ] at n9
  simp [n8.cell 0 _ rfl, n8.cell 1 _ rfl, n8.cell 2 _ rfl, n8.cell 3 _ rfl, n8.thaw, cell_setCell]
  have x9 := xc.mod hM9 (by have := xV.lt; omega)
  have o9 := oc.mod hM9 (by omega)
  have hX9 : Ext w ((((V8.setCell ⟨nb, 0, none⟩ (u32 a)).setCell ⟨nb, 1, none⟩ (u32 b)).setCell ⟨nb, 2, none⟩ (u64 q1.n)).setCell ⟨nb, 3, none⟩ (u32 m)) := ((hXc.mod (S := fun _ => False)).trans' hM9 (fun i e => .inr (by omega))).ext (fun _ h => h.elim)
  generalize ((((V8.setCell ⟨nb, 0, none⟩ (u32 a)).setCell ⟨nb, 1, none⟩ (u32 b)).setCell ⟨nb, 2, none⟩ (u64 q1.n)).setCell ⟨nb, 3, none⟩ (u32 m)) = V9 at *
  clear hM9 n8 xc oc
  obtain ⟨N, hN⟩ : ∃ N : Nam, N = ⟨a, b, q1.n, m⟩ := ⟨_, rfl⟩
  have n9' : Blk V9 nb (namC N) := by rw [hN]; exact n9
  refine WC_drawC 11 (.F 0 <| .F 1 <| .F 2 <| .F 3 <| .C 4 <| .F 5 <| .F 6 <| .F 7 <| .F 8 <| .F 9 <| .C 10 <| .Z) (fun _ => false) rfl (by kernel_rfl) fun U hU => ?_
  have hUE : Ext V9 U := hU ▸ Ext.drew _
  have xU := x9.ext hUE
  have oU := o9.ext hUE
  have nU := n9'.ext hUE
  have hXU := hX9.trans hUE
  rcases hok with ⟨rfl, hoe2⟩ | ⟨rfl, hoe2⟩
  case inr =>
    have e0 : nameOfD t = none := by
      unfold nameOfD
      rw [if_pos hs, hl]
      show (match endOfD q0 with | none => none | some (a, b) => _) = none
      rw [← hoe, hoe2]
    rw [e0]
    simp [oU.cell 0 _ rfl, oU.cell 1 _ rfl, oU.cell 2 _ rfl, oU.cell 3 _ rfl, oU.thaw, setCell_id (oU.cell 0 _ rfl), setCell_id (oU.cell 1 _ rfl), setCell_id (oU.cell 2 _ rfl), setCell_id (oU.cell 3 _ rfl)]
    exact ⟨rfl, hXU⟩
  have hend := endOfD_ok (hoe.symm.trans hoe2) (hnn q0 (by rw [hl]; simp))
  have eno : ¬ (nameE N = 0 ∧ t = rnameI N) → nameOfD t = none := fun h => by
    unfold nameOfD
    rw [if_pos hs, hl]
    show (match endOfD q0 with | none => none | some (a, b) => _) = none
    rw [← hoe, hoe2]
    show (if _ then _ else _) = none
    rw [← hm, ← hN]
    exact if_neg h
  have eyes : (nameE N = 0 ∧ t = rnameI N) → nameOfD t = some N := fun h => by
    unfold nameOfD
    rw [if_pos hs, hl]
    show (match endOfD q0 with | none => none | some (a, b) => _) = some N
    rw [← hoe, hoe2]
    show (if _ then _ else _) = some N
    rw [← hm, ← hN]
    exact if_pos h
  have hNn : N.nn = a ∧ N.ns = b ∧ N.nt = q1.n ∧ N.nq = m := by rw [hN]; exact ⟨rfl, rfl, rfl, rfl⟩
  simp [nU.cell 0 _ rfl, nU.cell 1 _ rfl, nU.cell 2 _ rfl, nU.cell 3 _ rfl]
  have hrn := rname_c N (by omega) U
  refine FN.mono (hrn) ?_
  rintro _ U1 ⟨rfl, hEU1⟩
  simp
  refine KR_ext hEU1 ?_
  have xU1 := xU.ext hEU1
  have oU1 := oU.ext hEU1
  have nU1 := nU.ext hEU1
  have hXU1 := hXU.trans hEU1
  by_cases hne : nameE N = 0
  case neg =>
    rw [eno (fun h => hne h.1)]
    simp [hne, oU1.cell 0 _ rfl, oU1.cell 1 _ rfl, oU1.cell 2 _ rfl, oU1.cell 3 _ rfl, oU1.thaw, setCell_id (oU1.cell 0 _ rfl), setCell_id (oU1.cell 1 _ rfl), setCell_id (oU1.cell 2 _ rfl), setCell_id (oU1.cell 3 _ rfl)]
    exact ⟨rfl, hXU1⟩
  simp [hne, xU1.cell 0 _ rfl, xU1.cell 1 _ rfl, xU1.cell 2 _ rfl, xU1.cell 3 _ rfl, xU1.cell 4 _ rfl, nU1.cell 0 _ rfl, nU1.cell 1 _ rfl, nU1.cell 2 _ rfl, nU1.cell 3 _ rfl]
  have hno : NamOk N := ⟨by omega, by omega, by omega⟩
  refine FN.mono (rnamei_c hno U1) ?_
  rintro _ U2 ⟨v2, rfl, ⟨a2, m2, c2, rfl⟩, hi2, hEU2⟩
  simp
  refine KR_ext hEU2 ?_
  simp
  have hXU2 := hXU1.trans hEU2
  have hsm := csame_c (rname_nob N) (itc U2 hXU2) hi2.any
  simp at hsm
  refine FN.mono (hsm) ?_
  rintro _ U3 ⟨rfl, hEU3⟩
  have hXU3 := hXU2.trans hEU3
  have oU3 := (oU1.ext hEU2).ext hEU3
  have nU3 := (nU1.ext hEU2).ext hEU3
  by_cases hq : t = rnameI N
  · rw [eyes ⟨hne, hq⟩]
    simp only [eq_true hq]
    have oS := (((oU3.set 0 (u32 N.nn)).set 1 (u32 N.ns)).set 2 (u64 N.nt)).set 3 (u32 N.nq)
    simp only [List.set_cons_zero, List.set_cons_succ] at oS
    have hMf : Mod (fun k => k = w.heap.size + 1) U3 ((((U3.setCell ⟨w.heap.size + 1, 0, none⟩ (u32 N.nn)).setCell ⟨w.heap.size + 1, 1, none⟩ (u32 N.ns)).setCell ⟨w.heap.size + 1, 2, none⟩ (u64 N.nt)).setCell ⟨w.heap.size + 1, 3, none⟩ (u32 N.nq)) := ((((Mod.refl _ _).setC 0 _).setC 1 _).setC 2 _).setC 3 _
    have hEf := ((hXU3.mod (S := fun _ => False)).trans' hMf (fun i e => .inr (by omega))).ext (fun _ h => h.elim)
    simp [nU3.cell 0 _ rfl, nU3.cell 1 _ rfl, nU3.cell 2 _ rfl, nU3.cell 3 _ rfl, oU3.cell 0 _ rfl, oU3.cell 1 _ rfl, oU3.cell 2 _ rfl, oU3.cell 3 _ rfl, oU3.thaw, cell_setCell]
    exact ⟨rfl, hEf⟩
  · rw [eno (fun h => hq h.2)]
    simp only [eq_false hq]
    simp [oU3.cell 0 _ rfl, oU3.cell 1 _ rfl, oU3.cell 2 _ rfl, oU3.cell 3 _ rfl, oU3.thaw, setCell_id (oU3.cell 0 _ rfl), setCell_id (oU3.cell 1 _ rfl), setCell_id (oU3.cell 2 _ rfl), setCell_id (oU3.cell 3 _ rfl)]
    exact ⟨rfl, hXU3⟩
end Go.Proofs
