/-
  Contracts of the functions that the law reaches, step by step.
-/
import Derived.Test.YtljaeeagbokacaaTrQ
namespace Go.Proofs
open Pk
set_option maxRecDepth 10000
def rwayE (l l' : List Int) (x y : Int) : Int := if x = 0 ∨ y = 0 then 2 else if (wayL l l').isNone then 322 else 0
theorem u32_one (l : List Int) : ∀ u ∈ l.map u32, u.oneCell' = true := by
  intro u hu
  obtain ⟨p, _, rfl⟩ := List.mem_map.1 hu
  rfl
set_option maxHeartbeats 1000000 in
theorem rway_c {w : World} {v : Value} {s : ML} (h : Rws w v s) (hs : Asc s) {x y : Int} {l l' : List Int} (hl : Lin s x l) (hl' : Lin s y l') (hb : s.length ≤ 1000) :
    FN Try.prog 40 [.agg #[v], u32 x, u32 y] w fun e w' => ∃ u, e = .returned (.tuple #[u, .int .i64 (rwayE l l' x y)]) ∧ Ext w w' ∧
      (if rwayE l l' x y = 0 then Sl w' 1 u ((wayL l l').getD []).length (((wayL l l').getD []).map u32) else u = .slice none 0 0) := by
  refine FN_enter Try.func40 rfl rfl (by kernel_rfl) ?_
  obtain ⟨w1, hw1⟩ : ∃ w1, w1 = (w.alloc (.cells #[v] 45)) := ⟨_, rfl⟩
  have hE : Ext w w1 := by rw [hw1]; exact ((Ext.refl w).alloc _)
  obtain ⟨b, hbb⟩ : ∃ b, b = w.heap.size := ⟨_, rfl⟩
  have hV : Var w1 b v := by rw [hw1, hbb]; exact Var.new w v 45
  have h1 := h.ext hE
  have hll := hl.bound
  have hll' := hl'.bound
  by_cases hxy : x = 0 ∨ y = 0
  · have e2 : rwayE l l' x y = 2 := by unfold rwayE; rw [if_pos hxy]
    rw [e2]
    by_cases hx : x = 0
    · have hxb : (x == 0) = true := by simpa using hx
      simp [hxb]
      exact (Ext.refl w).alloc _
    · have hxb : (x == 0) = false := by simpa using hx
      have hyb : (y == 0) = true := by simpa using hxy.resolve_left hx
      simp [hxb, hyb]
      exact (Ext.refl w).alloc _
  · have hxb : (x == 0) = false := by simp; omega
    have hyb : (y == 0) = false := by simp; omega
    simp [hxb, hyb]
    rw [← hw1, ← hbb]
    refine WC_drawE 6 [none, none, some (fun u W => Sl W 1 u l.length (l.map u32)), none, none, some (fun u W => Sl W 1 u l'.length (l'.map u32))] rfl (by kernel_rfl) ?_ fun W hW => ?_
    · intro A hA u a b h1 h2
      simp only [List.mem_cons, Option.some.injEq, List.mem_nil_iff, or_false, reduceCtorEq, false_or] at hA
      rcases hA with rfl | rfl
      · exact Sl.ext h1 h2
      · exact Sl.ext h1 h2
    have hWE : Ext w1 W := hW ▸ Ext.drew w1
    have hV4 := hV.ext hWE
    have h4 := h1.ext hWE
    have lk := ldOk_one (P := Try.prog) (t := 45) (by kernel_rfl) hV4.cell (fun _ => false) rfl
    simp [hV4.cell, lk]
    refine GO_some (fun W1 hK _ => ?_) fun u2 => ?_
    · simp
      refine FN.mono (rline_c (h4.ext hK) hs hl hb) ?_
      rintro _ W2 ⟨u, rfl, h5, h6⟩
      simp
      exact ⟨h5, h6⟩
    simp
    refine GO_some (fun W1 hK _ => ?_) fun u5 => ?_
    · simp
      refine FN.mono (rline_c (h4.ext hK) hs hl' hb) ?_
      rintro _ W2 ⟨u, rfl, h5, h6⟩
      simp
      exact ⟨h5, h6⟩
    refine GO_fin fun W1 hK _ hp => ?_
    have s2 := fact' hp 2 rfl
    have s5 := fact' hp 5 rfl
    have hE1 : Ext w W1 := (hE.trans hWE).trans hK
    clear hp hK hV4 h4 lk hW hWE hV hw1 h1
    simp
    refine WC_loop (fun k ρ ds w' => ∃ i : Nat, k = l.length - i ∧ i ≤ l.length ∧ (∀ j z, j < i → l[j]? = some z → ¬ z ∈ l') ∧ ρ 8 = u2 ∧ ρ 9 = u5 ∧ ρ 10 = .int .i64 i ∧ ds = [] ∧ w' = W1) l.length ⟨0, by simp⟩ ?_
    rintro k ρ ds w' ⟨i, rfl, hi, hno, e8, e9, e10, rfl, rfl⟩
    have wi : IntKind.i64.wrap ((i : Int) + 1) = ((i + 1 : Nat) : Int) := wnat _ _ (by omega) (by omega)
    have hlen := fun ty W => s2.isLen (P := Try.prog) (t := 30) (by simp) ty W
    by_cases hlt : i < l.length
    · have d1 := s2.at_ i (u32 l[i]) (by simp [hlt])
      have ix := fun W => s2.index (P := Try.prog) (t := 30) (by simp) .i64 i (by omega) (by omega) W
      simp [e8, e9, e10, hlen, hlt, ix, d1]
      refine FN.mono (in_c s5 l[i] (by omega)) ?_
      rintro _ _ ⟨rfl, rfl⟩
      simp
      by_cases hin : l[i] ∈ l'
      · rename_i W1
        have hfi : l.findIdx? (fun x => decide (x ∈ l')) = some i := by
          rw [List.findIdx?_eq_some_iff_getElem]
          refine ⟨hlt, by simpa using hin, fun j hj => ?_⟩
          simpa using hno j l[j] hj (List.getElem?_eq_getElem (by omega))
        obtain ⟨p, hp⟩ : ∃ p, p = placeOf l' l[i] := ⟨_, rfl⟩
        have hw : wayL l l' = some (l.take (i + 1) ++ (l'.take p).reverse) := by
          unfold wayL
          rw [hfi, hp]
          simp only [List.getD_eq_getElem?_getD, List.getElem?_eq_getElem hlt, Option.getD_some]
        have hpl : p < l'.length := by
          rw [hp]; unfold placeOf
          exact List.findIdx_lt_length_of_exists ⟨l[i], hin, by simp⟩
        have e2 : rwayE l l' x y = 0 := by unfold rwayE; rw [if_neg hxy, hw]; rfl
        generalize hws : l.take (i + 1) ++ (l'.take p).reverse = ws
        have hwl : ws.length = i + 1 + p := by rw [← hws]; simp; omega
        have wi1 : IntKind.i64.wrap ((i : Int) + 1) = (i : Int) + 1 := wrap64 _ (by omega) (by omega)
        have sh := fun W => s2.sliceH (P := Try.prog) (t := 30) (by simp) .i64 ((i : Int) + 1) (by omega) (by omega) W
        have et : ((i : Int) + 1).toNat = i + 1 := by omega
        rw [← hp]
        simp [hin, e8, e10, wi1, sh, et]
        have eA := (Ext.refl W1).alloc (.cells #[] 23)
        have hO := (Ch.start (base := W1.heap.size) (e := 23) (s := 1) (Z := []) W1 (Nat.le_refl _)).1
        have hsA : (W1.alloc (.cells #[] 23)).heap.size = W1.heap.size + 1 := by simp
        obtain ⟨W2, hW2⟩ : ∃ W2, W2 = W1.alloc (.cells #[] 23) := ⟨_, rfl⟩
        rw [← hW2] at eA hO hsA ⊢
        have st2 : Sl W2 1 (slcH u2 (i + 1)) (i + 1) ((l.take (i + 1)).map u32) := by
          have := (s2.ext eA).takeH (i + 1) (by omega)
          rw [Nat.mul_one, ← List.map_take] at this
          exact this
        obtain ⟨u', W3, hr, hO3, hM3, hnew⟩ := append_own (P := Try.prog) (t := 30) (ty := 30) (e := 23) (s := 1) (by simp) (by simp) (by kernel_rfl) hO st2 (u32_one _) (by omega) (by omega)
        simp at hO3
        have hO3' : W3.ownsRow W1.heap.size 23 1 u' (l.take (i + 1)).length ((l.take (i + 1)).map u32) := by
          have e : (l.take (i + 1)).length = i + 1 := by simp; omega
          rw [e, List.map_take]; exact hO3
        have hE3 : Ext W1 W3 := ((eA.mod (S := fun k => W1.heap.size ≤ k)).trans (hM3.weaken fun i hi => by have := own_ge hO hi.1; omega)).ext fun _ h => h
        have wp1 : IntKind.i64.wrap ((p : Int) - 1) = (p : Int) - 1 := wrap64 _ (by omega) (by omega)
        simp [hr, wp1]
        refine WC_loop (fun k ρ ds w' => ∃ (z : Int) (cur : List Int) (u : Value), z = (k : Int) - 1 ∧ k ≤ p ∧ cur ++ (l'.take k).reverse = ws ∧ ρ 9 = u5 ∧ ρ 11 = .int .i64 z ∧ ρ 13 = u ∧ ds = [] ∧ Ext W1 w' ∧ w'.ownsRow W1.heap.size 23 1 u cur.length (cur.map u32)) p
          ⟨(p : Int) - 1, l.take (i + 1), u', rfl, Nat.le_refl _, hws, by simp [e9], by simp, by simp, rfl, hE3, hO3'⟩ ?_
        rintro k ρ ds w' ⟨z, cur, u, rfl, hk, hcur, e9, e11, e13, rfl, hE4, hO4⟩
        cases k with
        | zero =>
          simp at hcur
          subst hcur
          simp [e11, e13, e2, hw, hws]
          exact ⟨hE1.trans hE4, sl_of_own hO4⟩
        | succ k =>
          have hcl : cur.length + (k + 1) = ws.length := by rw [← hcur]; simp; omega
          have ez : ((k + 1 : Nat) : Int) - 1 = (k : Int) := by omega
          rw [ez] at e11
          have s5' := s5.ext hE4
          have d1 := s5'.at_ k (u32 l'[k]) (by simp)
          have ix := fun W => s5.index (P := Try.prog) (t := 30) (by simp) .i64 k (by omega) (by omega) W
          have wk : IntKind.i64.wrap ((k : Int) - 1) = (k : Int) - 1 := wrap64 _ (by omega) (by omega)
          simp [e9, e11, e13, ix, d1]
          have eB := (Ext.refl w').alloc (.cells #[u32 l'[k]] 23)
          have hO5 := own_ext hO4 eB
          have hsB : (w'.alloc (.cells #[u32 l'[k]] 23)).heap.size = w'.heap.size + 1 := by simp
          have hs4 := hE4.size
          obtain ⟨u'', W5, hr5, hO6, hM6, hnew6⟩ := append_own (P := Try.prog) (t := 30) (ty := 30) (e := 23) (s := 1) (by simp) (by simp) (by kernel_rfl) hO5 (Sl.one w' (u32 l'[k]) 23) (by intro z hz; rw [List.mem_singleton] at hz; subst hz; rfl) (by omega) (by omega)
          have hE6 : Ext W1 W5 := ((hE4.trans eB).mod (S := fun k => W1.heap.size ≤ k)).trans (hM6.weaken fun i hi => by have := own_ge hO5 hi.1; omega) |>.ext fun _ h => h
          simp [hr5, e9, e11, wk]
          refine ⟨k, by omega, by omega, cur ++ [l'[k]], ?_, rfl, hE6, by simpa using hO6⟩
          refine Eq.trans ?_ hcur
          have e : l'.take (k + 1) = l'.take k ++ [l'[k]] := by rw [List.take_add_one, List.getElem?_eq_getElem (by omega)]; rfl
          rw [e, List.reverse_append, List.reverse_singleton, ← List.append_assoc]
      · simp [hin, e8, e9, e10]
        rw [wi]
        refine ⟨l.length - (i + 1), by omega, i + 1, rfl, by omega, fun j z hj hz => ?_, rfl⟩
        by_cases hji : j = i
        · subst hji
          rw [List.getElem?_eq_getElem hlt] at hz
          cases hz
          exact hin
        · exact hno j z (by omega) hz
    · have hn : wayL l l' = none := by
        unfold wayL
        have : l.findIdx? (fun x => decide (x ∈ l')) = none := by
          rw [List.findIdx?_eq_none_iff]
          intro z hz
          obtain ⟨j, hj⟩ := List.mem_iff_getElem?.1 hz
          simpa using hno j z (by have := (List.getElem?_eq_some_iff.1 hj).1; omega) hj
        rw [this]
      have e2 : rwayE l l' x y = 322 := by unfold rwayE; rw [if_neg hxy, hn]; rfl
      simp [e8, e10, hlen, hlt, e2]
      exact hE1
def rnextE (l l' : List Int) (x y : Int) : Int := if x = y then 2 else rwayE l l' x y
theorem rnext_c {w : World} {v : Value} {s : ML} (h : Rws w v s) (hs : Asc s) {x y : Int} {l l' : List Int} (hl : Lin s x l) (hl' : Lin s y l') (hb : s.length ≤ 1000) (hws : rnextE l l' x y = 0 → 1 < ((wayL l l').getD []).length) :
    FN Try.prog 41 [.agg #[v], u32 x, u32 y] w fun e w' => e = .returned (.tuple #[u32 (if rnextE l l' x y = 0 then ((wayL l l').getD []).getD 1 0 else 0), .bool (if rnextE l l' x y = 0 then decide ((mget s x).getD 0 = ((wayL l l').getD []).getD 1 0) else false), .int .i64 (rnextE l l' x y)]) ∧ Ext w w' := by
  refine FN_enter Try.func41 rfl rfl (by kernel_rfl) ?_
  obtain ⟨w1, hw1⟩ : ∃ w1, w1 = (w.alloc (.cells #[v] 45)) := ⟨_, rfl⟩
  have hE : Ext w w1 := by rw [hw1]; exact ((Ext.refl w).alloc _)
  obtain ⟨b, hbb⟩ : ∃ b, b = w.heap.size := ⟨_, rfl⟩
  have hV : Var w1 b v := by rw [hw1, hbb]; exact Var.new w v 45
  have h1 := h.ext hE
  simp
  rw [← hw1, ← hbb]
  refine FN.mono (rway_c h1 hs hl hl' hb) ?_
  rintro _ w2 ⟨u, rfl, hE2, hu⟩
  simp
  by_cases hxy : x = y
  · have hxb : (x == y) = true := by simpa using hxy
    have e2 : rnextE l l' x y = 2 := by unfold rnextE; rw [if_pos hxy]
    simp [hxb, e2]
    exact hE.trans hE2
  · have hxb : (x == y) = false := by simpa using hxy
    have e2 : rnextE l l' x y = rwayE l l' x y := by unfold rnextE; rw [if_neg hxy]
    by_cases h0 : rwayE l l' x y = 0
    · have hb0 : (rwayE l l' x y != 0) = false := by simpa using h0
      have hlen := hws (by rw [e2]; exact h0)
      rw [if_pos h0] at hu
      have hV2 := hV.ext hE2
      simp [hxb, hb0, hV2.cell]
      refine FN.mono (rparent_c (h1.ext hE2) hs x hb) ?_
      rintro _ w3 ⟨rfl, hE3⟩
      simp
      have hu3 := hu.ext hE3
      generalize (wayL l l').getD [] = ws at *
      refine WC_drQ 9 rfl (by kernel_rfl) fun W hW => ?_
      have hu4 := hu3.ext (hW ▸ Ext.drew w3)
      have d1 := hu4.at_ 1 (u32 ws[1]) (by simp [hlen])
      have ix := fun W => hu4.index (P := Try.prog) (t := 30) (by simp) .i64 1 (by omega) (by omega) W
      simp [ix, d1, h0, e2, List.getElem?_eq_getElem hlen]
      refine ⟨?_, ((hE.trans hE2).trans hE3).trans (hW ▸ Ext.drew w3)⟩
      by_cases hq : (mget s x).getD 0 = ws[1] <;> simp [hq]
    · have hb0 : (rwayE l l' x y != 0) = true := by simpa using h0
      simp [hxb, hb0, e2, h0]
      exact hE.trans hE2
/-- The document's children. -/
theorem rchildren_c {w : World} {v : Value} {s : ML} (h : Rws w v s) (x : Int) (hb : s.length ≤ 1000) :
    FN Try.prog 45 [.agg #[v], u32 x] w fun e w' => ∃ u, e = .returned u ∧ Ext w w' ∧ Sl w' 1 u (kids s x).length ((kids s x).map u32) := by
  refine FN_enter Try.func45 rfl rfl (by kernel_rfl) ?_
  obtain ⟨w1, hw1⟩ : ∃ w1, w1 = (w.alloc (.cells #[v] 45)) := ⟨_, rfl⟩
  have hE : Ext w w1 := by rw [hw1]; exact ((Ext.refl w).alloc _)
  obtain ⟨b, hbb⟩ : ∃ b, b = w.heap.size := ⟨_, rfl⟩
  have hV : Var w1 b v := by rw [hw1, hbb]; exact Var.new w v 45
  have h1 := h.ext hE
  have hkb : ∀ i, (kids (s.take i) x).length ≤ s.length := fun i => by
    unfold kids
    rw [List.length_map]
    exact Nat.le_trans (List.length_filter_le _ _) (by simp; omega)
  simp
  rw [← hw1, ← hbb]
  refine WC_loop (fun k ρ ds w' => ∃ (i : Nat) (u : Value), k = s.length - i ∧ i ≤ s.length ∧ ρ 1 = u32 x ∧ ρ 2 = ptr b ∧ ρ 5 = u ∧ ρ 6 = .int .i64 i ∧ ds = [] ∧ Ext w1 w' ∧ w'.ownsRow w1.heap.size 23 1 u (kids (s.take i) x).length ((kids (s.take i) x).map u32)) s.length
    ⟨0, .slice none 0 0, by simp, by simp, by simp, by simp, by simp, by simp, rfl, Ext.refl _, World.ownsRow_nil _ _ _ _⟩ ?_
  rintro k ρ ds w' ⟨i, u, rfl, hi, e1, e2, e5, e6, rfl, hE1, hO⟩
  have wi : IntKind.i64.wrap ((i : Int) + 1) = ((i + 1 : Nat) : Int) := wnat _ _ (by omega) (by omega)
  have h' := h1.ext hE1
  have hV' := hV.ext hE1
  have hlen := fun ty W => h'.isLen (P := Try.prog) (t := 43) (by simp) ty W
  by_cases hlt : i < s.length
  · obtain ⟨c1, c2⟩ := pairCells_at s i s[i] (List.getElem?_eq_getElem hlt)
    have d1 := h'.at_ _ _ c1
    have d2 := h'.at_ _ _ c2
    simp only [← Nat.add_assoc] at d2
    have ix := fun W => h'.index (P := Try.prog) (t := 43) (by simp) .i64 i (by omega) (by omega) W
    have htk : kids (s.take (i + 1)) x = kids (s.take i) x ++ (if s[i].2 = x then [s[i].1] else []) := by
      unfold kids
      rw [List.take_add_one, List.getElem?_eq_getElem hlt, List.filter_append, List.map_append]
      congr 1
      by_cases hq : s[i].2 = x <;> simp [hq]
    by_cases hq : s[i].2 = x
    · have hqb : (s[i].2 == x) = true := by simpa using hq
      rw [if_pos hq] at htk
      simp [e1, e2, e5, e6, hV'.cell, hlen, hlt, ix, d2, hqb, d1]
      have eB := (Ext.refl w').alloc (.cells #[u32 s[i].1] 23)
      have hO5 := own_ext hO eB
      have hs4 := hE1.size
      have hkl := hkb i
      obtain ⟨u'', W5, hr5, hO6, hM6, hnew6⟩ := append_own (P := Try.prog) (t := 30) (ty := 30) (e := 23) (s := 1) (by simp) (by simp) (by kernel_rfl) hO5 (Sl.one w' (u32 s[i].1) 23) (by intro z hz; rw [List.mem_singleton] at hz; subst hz; rfl) (by omega) (by simp; omega)
      have hE6 : Ext w1 W5 := ((hE1.trans eB).mod (S := fun k => w1.heap.size ≤ k)).trans (hM6.weaken fun i hi => by have := own_ge hO5 hi.1; omega) |>.ext fun _ h => h
      simp [hr5, e1, e2, e6]
      rw [wi]
      refine ⟨s.length - (i + 1), by omega, i + 1, rfl, by omega, rfl, hE6, ?_⟩
      rw [htk]
      simpa using hO6
    · have hqb : (s[i].2 == x) = false := by simpa using hq
      rw [if_neg hq, List.append_nil] at htk
      simp [e1, e2, e5, e6, hV'.cell, hlen, hlt, ix, d2, hqb]
      rw [wi]
      refine ⟨s.length - (i + 1), by omega, i + 1, rfl, by omega, rfl, hE1, ?_⟩
      rw [htk]; exact hO
  · have hie : i = s.length := by omega
    rw [hie, List.take_length] at hO
    simp [e2, e5, e6, hV'.cell, hlen, hlt]
    exact ⟨hE.trans hE1, sl_of_own hO⟩
end Go.Proofs
