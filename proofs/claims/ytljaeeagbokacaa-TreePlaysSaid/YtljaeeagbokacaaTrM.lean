/-
  Contracts of the functions that the law reaches, step by step.
-/
import Derived.Test.YtljaeeagbokacaaEngU
import Derived.Test.YtljaeeagbokacaaTrL
namespace Go.Proofs
open Pk
set_option maxRecDepth 10000
@[simp] theorem gdv_undef2 (b : Bool) : gdv undef b = false := rfl
def pairCells (ps : List (Int × Int)) : List Value := ps.flatMap fun p => [u32 p.1, u32 p.2]
theorem pairCells_at : ∀ (ps : List (Int × Int)) (i : Nat) (p : Int × Int), ps[i]? = some p → (pairCells ps)[i * 2]? = some (u32 p.1) ∧ (pairCells ps)[i * 2 + 1]? = some (u32 p.2)
  | [], i, p, h => by simp at h
  | a :: ps, 0, p, h => by
    simp at h; subst h
    simp [pairCells]
  | a :: ps, i + 1, p, h => by
    have := pairCells_at ps i p (by simpa using h)
    have e1 : (i + 1) * 2 = i * 2 + 1 + 1 := by omega
    rw [e1]
    simp only [pairCells, List.flatMap_cons] at this ⊢
    simpa using this
theorem wayE_swap {m : ML} {x y : Int} {l l' : List Int} (hl : Lin m x l) (hl' : Lin m y l') : wayE l' l y x = wayE l l' x y := by
  unfold wayE
  rw [Int.min_comm]
  rcases meets hl hl' with ⟨h1, h2⟩ | ⟨p, a, s, p', h⟩
  · rw [h1, h2]
  · rw [h.way, h.swap.way]; rfl
/-- What the second loop stands on. -/
structure Road (m : ML) (y : Int) (l' ws : List Int) (n : Nat) : Prop where
  nodup : ws.Nodup
  last : ws.getLast? = some y
  nz : ∀ z ∈ ws, z ≠ 0
  step : ∀ i, i + 1 < ws.length → ∃ li, Lin m (ws.getD i 0) li ∧ wayL li l' = some (ws.drop i) ∧
    (if i < n then (mget m (ws.getD i 0)).getD 0 = ws.getD (i + 1) 0 else (mget m (ws.getD (i + 1) 0)).getD 0 = ws.getD i 0 ∧ (mget m (ws.getD i 0)).getD 0 ≠ ws.getD (i + 1) 0)
theorem Meet.road {m : ML} {x y : Int} {l l' p s p' : List Int} {a : Int} (hl : Lin m x l) (hl' : Lin m y l') (h : Meet m l l' p a s p') : Road m y l' (p ++ a :: p'.reverse) p.length := by
  refine ⟨h.nodup hl hl', ?_, ?_, ?_⟩
  · have := h.swap.head hl'
    rw [← List.head?_reverse]
    simpa using this
  · intro z hz
    rcases List.mem_append.1 hz with hz | hz
    · exact hl.ne (by rw [h.up]; simp [hz])
    · rcases List.mem_cons.1 hz with rfl | hz
      · exact hl.ne (by rw [h.up]; simp)
      · exact hl'.ne (by rw [h.down]; simp at hz; simp [hz])
  · intro i hi
    have e : p ++ a :: p'.reverse = (p ++ a :: p'.reverse).take i ++ (p ++ a :: p'.reverse)[i] :: (p ++ a :: p'.reverse)[i + 1] :: (p ++ a :: p'.reverse).drop (i + 2) := by
      rw [← List.drop_eq_getElem_cons hi, ← List.drop_eq_getElem_cons (by omega), List.take_append_drop]
    obtain ⟨li, h1, h2, h3⟩ := h.step hl hl' e
    rw [List.getD_eq_getElem?_getD, List.getD_eq_getElem?_getD, List.getElem?_eq_getElem hi, List.getElem?_eq_getElem (by omega : i < _)]
    simp only [Option.getD_some]
    refine ⟨li, h1, ?_, ?_⟩
    · rw [h2, ← List.drop_eq_getElem_cons hi, ← List.drop_eq_getElem_cons (by omega)]
    · rw [List.length_take, Nat.min_eq_left (by omega)] at h3
      exact h3
theorem TreeHolds_c {w : World} {v : Value} {ps : List (Int × Int)} {x y : Int} (hs : SlA w 2 v ps.length (pairCells ps)) (hx : 0 ≤ x) (hy : 0 ≤ y) :
    FN Try.prog 3 [v, u32 x, u32 y] w fun e w' => e = .returned (.bool true) ∧ Ext w w' := by
  refine FN_enter Try.func3 rfl rfl (by kernel_rfl) ?_
  by_cases h40 : 40 < ps.length
  · have hb : decide ((40 : Int) < (ps.length : Int)) = true := by simp; omega
    simp [hs.isLen, hb]
    refine FN.mono (works_c w) ?_
    rintro _ w1 ⟨rfl, hE⟩
    simp
    exact hE
  · have hb : decide ((40 : Int) < (ps.length : Int)) = false := by simp; omega
    simp [hs.isLen, hb]
    refine FN.mono (new_c w) ?_
    rintro _ w1 ⟨t, r, rfl, ht, hE, hlt, hlr⟩
    simp
    have hS : ∀ {w' : World} (w0 : World), Ext w w0 → Mod (· = r) w0 w' → Ext w w' := fun w0 h1 h2 => ((h1.mod (S := fun k => w.heap.size ≤ k)).trans (h2.weaken fun i hi => by omega)).ext fun _ h => h
    refine WC_loop (fun k ρ ds w' => ∃ (i : Nat) (m : ML), k = ps.length - i ∧ i ≤ ps.length ∧ ρ 0 = v ∧ ρ 1 = u32 x ∧ ρ 2 = u32 y ∧ ρ 7 = ptr t ∧ ρ 8 = .int .i64 i ∧ ds = [] ∧ TreeAt w' t r m ∧ Good m ∧ Ext w w') ps.length ⟨0, [], rfl, Nat.zero_le _, by simp, by simp, by simp, by simp, by simp, rfl, ht, .nil, hE⟩ ?_
    rintro k ρ ds w2 ⟨i, m, rfl, hi, e0, e1, e2, e7, e8, rfl, ht, hg, hE⟩
    by_cases hlt : i < ps.length
    · obtain ⟨c1, c2⟩ := pairCells_at ps i _ (List.getElem?_eq_getElem hlt)
      have hd := hE.trans (Ext.drew w2)
      have d1 := (hs.ext hd).at_ _ _ c1
      have d2 := (hs.ext hd).at_ _ _ c2
      rw [← Nat.add_assoc] at d2
      have i1 := fun W => hs.index (P := Try.prog) (t := 22) (by simp) .i64 i (by omega) (by omega) W
      simp [e0, e8, hs.isLen, hlt]
      refine WC_drawQ 11 rfl (by kernel_rfl) ?_
      simp [e0, e7, e8, i1, d1, d2]
      obtain ⟨l, hl⟩ := hg.line ps[i].2
      refine FN.mono (set_c (ht.ext (Ext.drew w2)) hl (by have := hg.few; omega)) ?_
      rintro _ w3 ⟨rfl, ht3, hM3⟩
      simp [e0, e1, e2, e7, e8]
      refine ⟨ps.length - (i + 1), by omega, i + 1, rfl, by omega, ?_, _, ht3, ?_, hS _ hd hM3⟩
      · rw [wrap64 _ (by omega) (by omega)]; rfl
      · split
        · rename_i h; exact hg.set hl h
        · exact hg
    · obtain ⟨l, hl⟩ := hg.line x
      obtain ⟨l', hl'⟩ := hg.line y
      have hfew := hg.few
      simp [e0, e1, e2, e7, e8, hs.isLen, hlt]
      refine FN.mono (Way_c ht hl hl' (by omega)) ?_
      rintro _ w3 ⟨v1, rfl, hE3, hs3⟩
      simp [e1, e2, e7]
      have ht3 := ht.ext hE3
      refine FN.mono (Way_c ht3 hl' hl (by omega)) ?_
      rintro _ w4 ⟨v2, rfl, hE4, hs4⟩
      rw [wayE_swap hl hl'] at hs4 ⊢
      have ht4 := ht3.ext hE4
      have hs3' := hs3.ext hE4
      have hE := (hE.trans hE3).trans hE4
      simp
      refine num_c _ _ _ ?_
      simp
      refine num_c _ _ _ ?_
      simp
      by_cases h0 : wayE l l' x y = 0
      · rw [if_pos h0] at hs3' hs4
        have hmin : min x y ≠ 0 := by
          intro hc; unfold wayE at h0; rw [if_pos hc] at h0; cases h0
        rcases meets hl hl' with ⟨h1, _⟩ | ⟨p, a, s, p', hm⟩
        · exfalso
          unfold wayE at h0; rw [if_neg hmin, h1] at h0; cases h0
        · have hr := hm.road hl hl'
          have hhead := hm.head hl
          rw [hm.way] at hs3'
          have e2' : p' ++ a :: p.reverse = (p ++ a :: p'.reverse).reverse := by simp
          rw [hm.swap.way, e2'] at hs4
          simp only [Option.getD_some] at hs3' hs4
          have hlen : (p ++ a :: p'.reverse).length ≤ 200 := by
            have q1 := hl.bound; have q2 := hl'.bound
            rw [hm.up] at q1; rw [hm.down] at q2
            simp at q1 q2 ⊢; omega
          generalize p ++ a :: p'.reverse = ws at *
          generalize p.length = n at *
          rw [List.length_reverse] at hs4
          simp [hs3'.isLen, hs4.isLen, h0]
          refine num_c _ _ _ ?_
          simp
          have hpos : 0 < ws.length := by
            cases ws with
            | nil => simp at hhead
            | cons b l => simp
          have hget : ∀ i (h : i < ws.length), ws.getD i 0 = ws[i] := fun i h => by rw [List.getD_eq_getElem?_getD, List.getElem?_eq_getElem h]; rfl
          have hlast : ws.getD (ws.length - 1) 0 = y := by
            have := hr.last
            rw [List.getLast?_eq_getElem?, List.getElem?_eq_getElem (by omega)] at this
            rw [hget _ (by omega)]
            simpa using this
          refine WC_loop (fun k ρ ds w' => ∃ i : Nat, k = ws.length - i ∧ i < ws.length ∧ ρ 2 = u32 y ∧ ρ 7 = ptr t ∧ ρ 9 = v1 ∧ ρ 11 = v2 ∧ ρ 13 = u32 (ws.getD i 0) ∧ ρ 14 = .bool (decide (n < i)) ∧ ρ 15 = .int .i64 i ∧ ds = [] ∧ Ext w4 w') ws.length ⟨0, rfl, hpos, by simp [e2], by simp [e7], by simp, by simp, ?_, by simp, by simp, rfl, Ext.refl _⟩ ?_
          · have : ws.getD 0 0 = x := by
              rw [hget 0 hpos]
              rw [List.head?_eq_getElem?, List.getElem?_eq_getElem hpos] at hhead
              simpa using hhead
            rw [List.getD_eq_getElem?_getD] at this
            simp [e1, this]
          · rintro k ρ ds w5 ⟨i, rfl, hi, e2, e7, e9, e11, e13, e14, e15, rfl, hE5⟩
            have hd := hE5.trans (Ext.drew w5)
            have sa := hs3'.ext hd
            have sb := hs4.ext hd
            have ca := sa.at_ i (u32 (ws.getD i 0)) (by rw [List.getElem?_map, List.getElem?_eq_getElem hi, hget i hi]; rfl)
            have cb := sb.at_ (ws.length - 1 - i) (u32 (ws.getD i 0)) (by
              rw [List.getElem?_map, List.getElem?_reverse (by omega), List.getElem?_eq_getElem (by omega), hget i hi]
              have : ws.length - 1 - (ws.length - 1 - i) = i := by omega
              simp only [this]; rfl)
            have ia := fun W => hs3'.index (P := Try.prog) (t := 30) (by simp) .i64 i (by omega) (by omega) W
            have ib := fun W => hs4.index (P := Try.prog) (t := 30) (by simp) .i64 ((ws.length : Int) - 1 - i) (by omega) (by omega) W
            have eib : ((ws.length : Int) - 1 - i).toNat = ws.length - 1 - i := by omega
            have w1' : IntKind.i64.wrap ((ws.length : Int) - 1) = (ws.length : Int) - 1 := wrap64 _ (by omega) (by omega)
            have w2' : IntKind.i64.wrap ((ws.length : Int) - 1 - i) = (ws.length : Int) - 1 - i := wrap64 _ (by omega) (by omega)
            simp [e9, e15, hs3'.isLen, hi]
            refine WC_drawQ 21 rfl (by kernel_rfl) ?_
            obtain ⟨z, hz⟩ : ∃ z, z = ws.getD i 0 := ⟨_, rfl⟩
            rw [← hz] at ca cb e13
            simp [e9, e11, e13, e15, hs4.isLen, ia, ib, eib, w1', w2', ca, cb]
            -- no region twice
            refine WC_loop (fun k ρ ds w' => ∃ j : Nat, k = i - j ∧ j ≤ i ∧ ρ 2 = u32 y ∧ ρ 7 = ptr t ∧ ρ 9 = v1 ∧ ρ 11 = v2 ∧ ρ 13 = u32 z ∧ ρ 14 = .bool (decide (n < i)) ∧ ρ 15 = .int .i64 i ∧ ρ 16 = .int .i64 j ∧ ds = [] ∧ Ext w4 w') i ⟨0, rfl, Nat.zero_le _, by simp [e2], by simp [e7], by simp [e9], by simp [e11], by simp [e13], by simp [e14], by simp [e15], by simp, rfl, hd⟩ ?_
            rintro k ρ ds w6 ⟨j, rfl, hj, e2, e7, e9, e11, e13, e14, e15, e16, rfl, hE6⟩
            by_cases hji : j < i
            · have hd6 := hE6.trans (Ext.drew w6)
              have s6 := hs3'.ext hd6
              have cj := s6.at_ j (u32 (ws.getD j 0)) (by rw [List.getElem?_map, List.getElem?_eq_getElem (by omega), hget j (by omega)]; rfl)
              have ci := s6.at_ i (u32 z) (by rw [List.getElem?_map, List.getElem?_eq_getElem hi, hz, hget i hi]; rfl)
              have ij := fun W => hs3'.index (P := Try.prog) (t := 30) (by simp) .i64 j (by omega) (by omega) W
              have hne : ws.getD j 0 ≠ z := by
                rw [hz, hget j (by omega), hget i hi]
                intro hc
                have := (List.getElem_inj hr.nodup).1 hc
                omega
              obtain ⟨zj, hzj⟩ : ∃ zj, zj = ws.getD j 0 := ⟨_, rfl⟩
              rw [← hzj] at cj hne
              have hnb : (zj == z) = false := by simpa using hne
              simp [e15, e16, hji]
              refine WC_drawQ 9 rfl (by kernel_rfl) ?_
              simp [e9, e15, e16, ij, ia, cj, ci, hnb]
              simp [e2, e7, e11, e13, e14]
              refine ⟨i - (j + 1), by omega, j + 1, rfl, by omega, ?_, hd6⟩
              rw [wrap64 _ (by omega) (by omega)]; rfl
            · simp [e15, e16, hji, e9, hs3'.isLen, w1']
              by_cases hend : i + 1 = ws.length
              · have hb1 : ((i : Int) == (ws.length : Int) - 1) = true := by simp; omega
                have hzy : z = y := by
                  rw [hz, ← hlast]; congr 1; omega
                simp [hb1, e13, e2, hzy]
                refine FN.mono (works_c w6) ?_
                rintro _ w7 ⟨rfl, hE7⟩
                simp
                exact (hE.trans hE6).trans hE7
              · have hb1 : ((i : Int) == (ws.length : Int) - 1) = false := by simp; omega
                simp [hb1, e7, e13, e2]
                obtain ⟨li, q1, q2, q3⟩ := hr.step i (by omega)
                rw [← hz] at q1 q3
                obtain ⟨z', hz'⟩ : ∃ z', z' = ws.getD (i + 1) 0 := ⟨_, rfl⟩
                rw [← hz'] at q3
                have hzy : z ≠ y := by
                  rw [hz, ← hlast, hget i hi, hget _ (by omega)]
                  intro hc
                  have := (List.getElem_inj hr.nodup).1 hc
                  omega
                have hz0 : z ≠ 0 := hr.nz z (by rw [hz, hget i hi]; exact List.getElem_mem hi)
                have hy0 : y ≠ 0 := hr.nz y (by rw [← hlast, hget _ (by omega)]; exact List.getElem_mem _)
                have hmz : min z y ≠ 0 := by
                  rw [Int.min_def]; split <;> assumption
                have hwe : wayE li l' z y = 0 := by
                  unfold wayE; rw [if_neg hmz, q2]; rfl
                have hne' : nextE li l' z y = 0 := by
                  unfold nextE; rw [if_neg (fun hc => hzy hc.2)]; exact hwe
                have hnx : ((wayL li l').getD []).getD 1 0 = z' := by
                  rw [q2, hz']
                  simp [List.getD_eq_getElem?_getD]
                refine FN.mono (next_c (ht4.ext hE6) q1 hl' (by omega) (fun _ => by rw [q2]; simp; omega)) ?_
                rintro _ w7 ⟨rfl, hE7⟩
                rw [hne', if_pos rfl, if_pos rfl, hnx]
                have ht7 := (ht4.ext hE6).ext hE7
                simp [e7, e13]
                refine FN.mono (parent_c ht7 z) ?_
                rintro _ w8 ⟨rfl, hw8⟩
                subst hw8
                simp [e7]
                refine FN.mono (parent_c ht7 z') ?_
                rintro _ w9 ⟨rfl, hw9⟩
                subst hw9
                simp
                refine num_c _ _ _ ?_
                have hE' := hE6.trans hE7
                by_cases hin : i < n
                · rw [if_pos hin] at q3
                  have hdn : decide (n < i) = false := by simp; omega
                  have hdn' : decide (n < i + 1) = false := by simp; omega
                  simp [q3, e14, hdn]
                  simp [e2, e7, e9, e11, e15]
                  refine ⟨ws.length - (i + 1), by omega, i + 1, rfl, by omega, by rw [hz', List.getD_eq_getElem?_getD], by omega, ?_, hE'⟩
                  rw [wrap64 _ (by omega) (by omega)]; rfl
                · rw [if_neg hin] at q3
                  have hnb : ((mget m z).getD 0 == z') = false := by simpa using q3.2
                  have fin : ∃ m' < ws.length - i, ∃ i_1 : Nat, m' = ws.length - i_1 ∧ i_1 < ws.length ∧ z' = ws[i_1]?.getD 0 ∧ n < i_1 ∧ IntKind.i64.wrap ((i : Int) + 1) = (i_1 : Int) ∧ Ext w4 w9 := by
                    refine ⟨ws.length - (i + 1), by omega, i + 1, rfl, by omega, by rw [hz', List.getD_eq_getElem?_getD], by omega, ?_, hE'⟩
                    rw [wrap64 _ (by omega) (by omega)]; rfl
                  rcases Nat.lt_or_ge n i with hni | hni
                  · have hdn : decide (n < i) = true := by simp; omega
                    rw [hdn] at e14
                    simp [q3.1, q3.2, e13, e14, e2, e7, e9, e11, e15]
                    exact fin
                  · have hdn : decide (n < i) = false := by simp; omega
                    rw [hdn] at e14
                    simp [q3.1, q3.2, e13, e14, e2, e7, e9, e11, e15]
                    exact fin
      · rw [if_neg h0] at hs3' hs4
        simp [hs3'.isLen, hs4.isLen]
        refine num_c _ _ _ ?_
        have hb : (wayE l l' x y != 0) = true := by simpa using h0
        simp [hb]
        refine num_c _ _ _ ?_
        have h2 : wayE l l' x y = 2 ∨ wayE l l' x y = 322 := by
          unfold wayE at h0 ⊢
          split
          · exact .inl rfl
          · split
            · exact .inr rfl
            · rename_i h1 h2; rw [if_neg h1, if_neg h2] at h0; exact (h0 rfl).elim
        rcases h2 with h2 | h2
        · simp [h2, hs3'.isLen]
          refine FN.mono (works_c w4) ?_
          rintro _ w5 ⟨rfl, hE5⟩
          simp
          exact hE.trans hE5
        · simp [h2]
          refine num_c _ _ _ ?_
          simp [hs3'.isLen]
          refine FN.mono (works_c w4) ?_
          rintro _ w5 ⟨rfl, hE5⟩
          simp
          exact hE.trans hE5
end Go.Proofs
