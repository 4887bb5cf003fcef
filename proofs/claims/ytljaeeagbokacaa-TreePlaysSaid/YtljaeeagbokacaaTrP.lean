/-
  Contracts of the functions that the law reaches, step by step.
-/
import Derived.Test.YtljaeeagbokacaaTrO
namespace Go.Proofs
open Pk
set_option maxRecDepth 10000
/-- Rows with one more, or another. -/
def rset (s : ML) (x y : Int) : ML := s.take (spot s x) ++ (x, y) :: s.drop (if there s x then spot s x + 1 else spot s x)
def rdel (s : ML) (x : Int) : ML := s.take (spot s x) ++ s.drop (spot s x + 1)
theorem pairCells_len (s : ML) : (pairCells s).length = s.length * 2 := by
  unfold pairCells; induction s with
  | nil => rfl
  | cons a s ih => simp [List.flatMap_cons, ih]; omega
theorem pairCells_append (s t : ML) : pairCells (s ++ t) = pairCells s ++ pairCells t := by unfold pairCells; simp
theorem pairCells_take (s : ML) (k : Nat) : pairCells (s.take k) = (pairCells s).take (k * 2) := by
  induction s generalizing k with
  | nil => simp [pairCells]
  | cons a s ih =>
    cases k with
    | zero => simp [pairCells]
    | succ k =>
      have := ih k
      simp only [pairCells] at this
      have e : (k + 1) * 2 = k * 2 + 1 + 1 := by omega
      simp only [pairCells, List.take_succ_cons, List.flatMap_cons, List.cons_append, List.nil_append, e]
      rw [this]
theorem pairCells_drop (s : ML) (k : Nat) : pairCells (s.drop k) = (pairCells s).drop (k * 2) := by
  induction s generalizing k with
  | nil => simp [pairCells]
  | cons a s ih =>
    cases k with
    | zero => simp [pairCells]
    | succ k =>
      have := ih k
      simp only [pairCells] at this
      have e : (k + 1) * 2 = k * 2 + 1 + 1 := by omega
      simp only [pairCells, List.drop_succ_cons, List.flatMap_cons, List.cons_append, List.nil_append, e]
      rw [this]
theorem pair_one (s : ML) : ∀ u ∈ pairCells s, u.oneCell' = true := by
  intro u hu
  unfold pairCells at hu
  obtain ⟨p, _, hp⟩ := List.mem_flatMap.1 hu
  simp at hp
  rcases hp with rfl | rfl <;> rfl
/-- A block of one row. -/
def One (base : Nat) (x y : Int) (u : Value) (W : World) : Prop := ∃ b, u = .slice (some ⟨b, 0, none⟩) 1 1 ∧ base ≤ b ∧ W.heap[b]? = some (.cells #[u32 x, u32 y] 84 (0, 0))
theorem One.sl {base : Nat} {x y : Int} {u : Value} {W : World} (h : One base x y u W) : Sl W 2 u 1 (pairCells [(x, y)]) := by
  obtain ⟨b, rfl, _, hb⟩ := h
  refine ⟨by simp [pairCells], .inr ⟨b, 0, 1, rfl, Nat.le_refl _⟩, fun j v hj => ?_⟩
  simp only [slB, slO, Nat.zero_add]
  rw [cell_of_row _ b j _ _ _ hb]
  simpa [pairCells] using hj
theorem One.keep {base : Nat} {x y : Int} {u : Value} {a b : World} {X : Nat → Bool} {Z : List Value} (h : One base x y u a) (hk : Kc base X 84 2 Z a b) : One base x y u b := by
  obtain ⟨c, h1, h2, h3⟩ := h
  exact ⟨c, h1, h2, hk.one c h2 _ _ _ h3 (by simp)⟩
theorem rset_new {s : ML} {x y : Int} (h : there s x = false) : rset s x y = s.take (spot s x) ++ [(x, y)] ++ s.drop (spot s x) := by unfold rset; rw [h]; simp
theorem own_set {w : World} {base e s : Nat} {v : Value} {n : Nat} {xs : List Value} (h : w.ownsRow base e s v n xs) (j : Nat) (hj : j < xs.length) (u : Value) : (w.setCell ⟨slB v, slO v + j, none⟩ u).ownsRow base e s v n (xs.set j u) := by
  obtain ⟨h1, h2⟩ := h
  refine ⟨by simpa using h1, ?_⟩
  rcases h2 with ⟨rfl, rfl⟩ | ⟨g, cap, cur, rfl, a1, a2, a3, a4, a5, a6⟩
  · simp at h1; subst h1; simp at hj
  · refine .inr ⟨g, cap, cur.setIfInBounds j u, rfl, a1, ?_, a3, a4, by simpa using a5, ?_⟩
    · simp only [slB, slO, Nat.zero_add]
      unfold World.setCell
      simp only [Array.getElem?_modify, if_pos]
      rw [a2]; rfl
    · rw [← a6]
      apply List.ext_getElem?
      intro k
      simp only [List.getElem?_take, Array.getElem?_toList, List.getElem?_set, Array.getElem?_setIfInBounds, List.length_take, Array.length_toList]
      have hjs : j < n * s := by rw [← h1]; exact hj
      have hn : n * s ≤ cur.size := by rw [a5]; exact Nat.mul_le_mul_right _ a3
      by_cases hk : k < n * s
      · rw [if_pos hk, if_pos hk]
        by_cases hkj : j = k
        · subst hkj
          rw [if_pos rfl, if_pos (by omega), if_pos rfl, if_pos (by omega)]
        · rw [if_neg hkj, if_neg hkj]
      · rw [if_neg hk, if_neg hk]
        rw [if_neg (by omega)]
theorem pairCells_set {s : ML} {k : Nat} (hk : k < s.length) (y : Int) : (pairCells s).set (k * 2 + 1) (u32 y) = pairCells (s.set k (s[k].1, y)) := by
  induction s generalizing k with
  | nil => simp at hk
  | cons a s ih =>
    cases k with
    | zero => simp [pairCells]
    | succ k =>
      have e : (k + 1) * 2 + 1 = k * 2 + 1 + 1 + 1 := by omega
      have := ih (k := k) (by simpa using hk)
      simp only [pairCells] at this
      simp only [pairCells, List.flatMap_cons, List.cons_append, List.nil_append, e, List.set_cons_succ, this, List.getElem_cons_succ]
theorem there_spot {s : ML} (hs : Asc s) {x : Int} (h : there s x = true) : ∃ hk : spot s x < s.length, (s[spot s x]'hk).1 = x := by
  have hm := asc_mget hs (x := x)
  unfold there at h
  have hlt : spot s x < s.length := by
    rcases Nat.lt_or_ge (spot s x) s.length with h' | h'
    · exact h'
    · rw [List.getElem?_eq_none h'] at hm
      rw [hm] at h; cases h
  refine ⟨hlt, ?_⟩
  rw [List.getElem?_eq_getElem hlt, Option.bind_some] at hm
  by_cases hx : s[spot s x].1 = x
  · exact hx
  · rw [if_neg hx] at hm; rw [hm] at h; cases h
theorem rset_old {s : ML} (hs : Asc s) {x y : Int} (h : there s x = true) : rset s x y = s.set (spot s x) (x, y) := by
  obtain ⟨hk, _⟩ := there_spot hs h
  unfold rset
  rw [h, if_pos rfl, List.set_eq_take_append_cons_drop, if_pos hk]
theorem zstep {zs a b c : ML} {n m : Nat} {Z : List Value} (hZ : Z = pairCells zs) (h1 : zs.take n = a) (h2 : zs.take (n + m) = b) (h3 : b = a ++ c) : Z.take ((n + m) * 2) = Z.take (n * 2) ++ pairCells c := by
  rw [hZ, ← pairCells_take, ← pairCells_take, h1, h2, h3, pairCells_append]
set_option maxHeartbeats 1000000 in
theorem rset_c {w : World} {v : Value} {s : ML} (h : Rws w v s) (hs : Asc s) {x y : Int} {l : List Int} (hl : Lin s y l) (hb : s.length ≤ 1000) :
    FN Try.prog 38 [.agg #[v], u32 x, u32 y] w fun e w' => ∃ v', e = .returned (.tuple #[.agg #[v'], .int .i64 (setE s l x y)]) ∧ Ext w w' ∧ Rws w' v' (if setE s l x y = 0 then rset s x y else s) := by
  refine FN_enter Try.func38 rfl rfl (by kernel_rfl) ?_
  obtain ⟨w1, hw1⟩ : ∃ w1, w1 = (w.alloc (.cells #[v] 45)).alloc (.cells #[.slice none 0 0] 45) := ⟨_, rfl⟩
  have hE : Ext w w1 := by rw [hw1]; exact ((Ext.refl w).alloc _).alloc _
  obtain ⟨b, hbb⟩ : ∃ b, b = w.heap.size := ⟨_, rfl⟩
  have hV : Var w1 b v := by rw [hw1, hbb]; exact (Var.new w v 45).ext ((Ext.refl _).alloc _)
  have hZ : Var w1 (b + 1) (.slice none 0 0) := by
    have := Var.new (w.alloc (.cells #[v] 45)) (.slice none 0 0) 45
    rw [World.size_alloc, ← hbb] at this
    rw [hw1]; exact this
  have h1 := h.ext hE
  have hsb : ∀ W, 0 < s.length → Rws W v s → Ext w W → slB v ≠ b + 1 := fun W h0 hr he => by
    have := h.lt (by rw [pairCells_len]; omega); omega
  have ans : ∀ (w2 : World) (u : Value) (s' : ML), Ext w1 w2 → Rws w2 u s' → (0 < s'.length → slB u ≠ b + 1) → Ext w (w2.setCell ⟨b + 1, 0, none⟩ u) ∧ Rws (w2.setCell ⟨b + 1, 0, none⟩ u) u s' := by
    intro w2 u s' hx hr hne
    refine ⟨(hE.trans hx).setCell _ _ (by simp only; omega), hr.len, hr.val, fun j c hj => ?_⟩
    have hj' := (List.getElem?_eq_some_iff.1 hj).1
    rw [pairCells_len] at hj'
    rw [World.cell?_setCell_other _ _ _ _ (fun e => hne (by omega) (by simpa using (congrArg Addr.block e).symm))]
    exact hr.at_ j c hj
  have hsl := spot_le s x
  obtain ⟨c, p, hv⟩ := h.isSlice
  by_cases hx0 : x = 0 ∨ x = y
  · have e2 : setE s l x y = 2 := by unfold setE; rw [if_pos hx0]
    obtain ⟨a1, a2⟩ := ans w1 v s (Ext.refl _) h1 fun h0 => hsb _ h0 h1 hE
    rw [e2]
    simp only [hv] at a1 a2 hV h1
    by_cases hz : x = 0
    · have hx0b : (x == 0) = true := by simpa using hz
      simp [hx0b]
      rw [← hw1, ← hbb]
      simp [hv, hZ.cell, hZ.thaw, (hZ.set (.slice c s.length p)).cell]
      exact ⟨a1, a2⟩
    · have hx0b : (x == 0) = false := by simpa using hz
      have hxy : (x == y) = true := by simpa using hx0.resolve_left hz
      simp [hx0b, hxy]
      rw [← hw1, ← hbb]
      simp [hv, hZ.cell, hZ.thaw, (hZ.set (.slice c s.length p)).cell]
      exact ⟨a1, a2⟩
  · have hx0b : (x == 0) = false := by simp; omega
    have hxy : (x == y) = false := by simp; omega
    simp [hx0b, hxy]
    rw [← hw1, ← hbb]
    refine FN.mono (rline_c h1 hs hl hb) ?_
    rintro _ w2 ⟨u, rfl, hE2, hu⟩
    have hll := hl.bound
    simp
    refine FN.mono (in_c hu x (by omega)) ?_
    rintro _ _ ⟨rfl, rfl⟩
    rename_i w2
    simp
    by_cases hin : x ∈ l
    · have e2 : setE s l x y = 320 := by unfold setE; rw [if_neg hx0, if_pos hin]
      have hV2 := hV.ext hE2
      have hZ2 := hZ.ext hE2
      obtain ⟨a1, a2⟩ := ans w2 v s hE2 (h1.ext hE2) fun h0 => hsb _ h0 (h1.ext hE2) (hE.trans hE2)
      rw [e2]
      simp only [hv] at a1 a2 hV2
      simp [hin, hV2.cell, hZ2.cell, hZ2.thaw, (hZ2.set (.slice c s.length p)).cell]
      exact ⟨a1, a2⟩
    · have hV2 := hV.ext hE2
      have hZ2 := hZ.ext hE2
      simp [hin, hV2.cell]
      refine FN.mono (find_c (h1.ext hE2) hs x hb) ?_
      rintro _ w3 ⟨rfl, hE3⟩
      have hV3 := hV2.ext hE3
      have hZ3 := hZ2.ext hE3
      have h3 := (h1.ext hE2).ext hE3
      have hE13 : Ext w1 w3 := hE2.trans hE3
      have hl3 := fun ty W => h3.isLen (P := Try.prog) (t := 43) (by simp) ty W
      simp
      cases ht : there s x with
      | true =>
        obtain ⟨hk, hkx⟩ := there_spot hs ht
        have e2 : setE s l x y = 0 := by
          unfold setE; rw [if_neg hx0, if_neg hin, if_neg]
          unfold there at ht
          rintro ⟨h', _⟩
          cases hg : mget s x <;> simp_all
        rw [e2, if_pos rfl, rset_old hs ht]
        simp [hV3.cell]
        have eA := (Ext.refl w3).alloc (.cells #[] 84)
        have hO := (Ch.start (base := w3.heap.size) (e := 84) (s := 2) (Z := []) w3 (Nat.le_refl _)).1
        have hsA : (w3.alloc (.cells #[] 84)).heap.size = w3.heap.size + 1 := by simp
        obtain ⟨w4, hw4⟩ : ∃ w4, w4 = w3.alloc (.cells #[] 84) := ⟨_, rfl⟩
        rw [← hw4] at eA hO hsA ⊢
        have h4 := h3.ext eA
        obtain ⟨u', w5, hr, hO5, hM5, hnew⟩ := append_own (P := Try.prog) (t := 43) (ty := 43) (e := 84) (s := 2) (by simp) (by simp) (by kernel_rfl) hO h4 (pair_one s) (by omega) (by omega)
        simp at hO5
        simp [hr]
        have hE5 : Ext w3 w5 := ((eA.mod (S := fun k => w3.heap.size ≤ k)).trans (hM5.weaken fun i hi => by have := own_ge hO hi.1; omega)).ext fun _ h => h
        have hn5 := own_nil hO5 (by omega)
        have hge5 := own_ge hO5 hn5
        have hsl5 := sl_of_own hO5
        have ix := fun W => hsl5.index (P := Try.prog) (t := 43) (by simp) .i64 (spot s x) (by omega) (by omega) W
        obtain ⟨c1, c2⟩ := pairCells_at s _ s[spot s x] (List.getElem?_eq_getElem hk)
        have d2 := hsl5.at_ _ _ c2
        have f2 := own_thaw hO5 (by omega) (slO u' + (spot s x * 2 + 1))
        simp only [← Nat.add_assoc] at d2 f2
        simp [ix, d2, f2]
        obtain ⟨w6, hw6⟩ : ∃ w6, w6 = w5.setCell ⟨slB u', slO u' + spot s x * 2 + 1, none⟩ (u32 y) := ⟨_, rfl⟩
        have hO6 := own_set hO5 (spot s x * 2 + 1) (by rw [pairCells_len]; omega) (u32 y)
        rw [pairCells_set hk, hkx, ← Nat.add_assoc, ← hw6] at hO6
        rw [← hw6]
        have hE6 : Ext w3 w6 := by rw [hw6]; exact hE5.setCell _ _ (by simpa using hge5)
        have hZ6 := hZ3.ext hE6
        have hs6 := sl_of_own hO6
        have hsl6 : s.length = (s.set (spot s x) (x, y)).length := by simp
        have hbz := hZ3.lt
        obtain ⟨a1, a2⟩ := ans w6 u' (s.set (spot s x) (x, y)) (hE13.trans hE6) (by show Sl w6 2 u' _ _; rw [← hsl6]; exact hs6) (fun _ => by omega)
        obtain ⟨z1, z2, rfl⟩ := own_val hO6
        simp [hZ6.cell, hZ6.thaw, (hZ6.set (.slice z1 s.length z2)).cell]
        exact ⟨a1, a2⟩
      | false =>
        simp [hV3.cell, hl3]
        by_cases hful : 64 ≤ s.length
        · have hfi : (64 : Int) ≤ (s.length : Int) := by omega
          have e2 : setE s l x y = 321 := by
            unfold setE; rw [if_neg hx0, if_neg hin, if_pos]
            unfold there at ht
            exact ⟨by simpa using ht, hful⟩
          obtain ⟨a1, a2⟩ := ans w3 v s hE13 h3 fun h0 => hsb _ h0 h3 (hE.trans hE13)
          rw [e2]
          simp only [hv] at a1 a2 hV3
          simp [hfi, hV3.cell, hZ3.cell, hZ3.thaw, (hZ3.set (.slice c s.length p)).cell]
          exact ⟨a1, a2⟩
        · have hfi : ¬ (64 : Int) ≤ (s.length : Int) := by omega
          have e2 : setE s l x y = 0 := by
            unfold setE; rw [if_neg hx0, if_neg hin, if_neg (by omega)]
          rw [e2, if_pos rfl, rset_new ht]
          simp [hfi]
          obtain ⟨k, hk⟩ : ∃ k, k = spot s x := ⟨_, rfl⟩
          rw [← hk] at hsl ⊢
          obtain ⟨B, hB⟩ : ∃ B, B = w3.heap.size := ⟨_, rfl⟩
          obtain ⟨Z, hZd⟩ : ∃ Z, Z = pairCells (s.take k ++ [(x, y)] ++ s.drop k) := ⟨_, rfl⟩
          have hZl : Z.length = (s.length + 1) * 2 := by rw [hZd, pairCells_len]; simp; omega
          obtain ⟨zs, hzs⟩ : ∃ zs, zs = s.take k ++ [(x, y)] ++ s.drop k := ⟨_, rfl⟩
          rw [← hzs] at hZd ⊢
          have lk0 : (s.take k).length = k := by rw [List.length_take]; omega
          have t1 : zs.take k = s.take k := by rw [hzs, List.append_assoc, List.take_append_of_le_length (by omega), List.take_of_length_le (by omega)]
          have t2 : zs.take (k + 1) = s.take k ++ [(x, y)] := by rw [hzs, List.take_append_of_le_length (by simp; omega), List.take_of_length_le (by simp; omega)]
          have t3 : zs.take (s.length + 1) = s.take k ++ [(x, y)] ++ s.drop k := by rw [hzs, List.take_of_length_le (by simp; omega)]
          refine WC_drawX 17 [some (fun u W => Ch B 84 2 Z W u 0), none, none, none, none, some (fun u W => Ch B 84 2 Z W u k), none, none, none, some (fun u W => One B x y u W), some (fun u W => Ch B 84 2 Z W u (k + 1)), none, none, none, none,
            some (fun u W => Ch B 84 2 Z W u (s.length + 1)), some (fun u W => ∃ z, u = .agg #[z] ∧ Ch B 84 2 Z W z (s.length + 1))] (Kc B (fun _ => false) 84 2 Z) rfl (by kernel_rfl) Kc.refl (fun _ _ _ => Kc.trans) (fun W h => hB ▸ h.old) ?_ fun W hW => ?_
          · intro A hA u a b h1 h2
            simp only [List.mem_cons, Option.some.injEq, List.mem_nil_iff, or_false, reduceCtorEq, false_or] at hA
            rcases hA with rfl | rfl | rfl | rfl | rfl | rfl
            · exact h2.row _ _ (by omega) h1
            · exact h2.row _ _ (by omega) h1
            · exact h1.keep h2
            · exact h2.row _ _ (by omega) h1
            · exact h2.row _ _ (by omega) h1
            · obtain ⟨z, e, h⟩ := h1
              exact ⟨z, e, h2.row _ _ (by omega) h⟩
          · have hV4 := hV3.ext (hW ▸ Ext.drew w3)
            have h4 := h3.ext (hW ▸ Ext.drew w3)
            have lk := ldOk_one (P := Try.prog) (t := 43) (by kernel_rfl) hV4.cell (fun _ => false) rfl
            have sh := fun W => h4.sliceH (P := Try.prog) (t := 43) (by simp) .i64 k (by omega) (by omega) W
            have slw := fun W => h4.sliceL (P := Try.prog) (t := 43) (by simp) .i64 k (by omega) (by omega) W
            simp [hV4.cell, lk, sh, slw]
            have hsz : ∀ W1, Kc B (fun _ => false) 84 2 Z W W1 → B ≤ W1.heap.size := fun W1 h => by have := h.old.size; have := (hW ▸ Ext.drew w3 : Ext w3 W).size; omega
            have old : ∀ W1, Kc B (fun _ => false) 84 2 Z W W1 → Rws W1 v s := fun W1 hK => h4.kept fun a u ha hu => hK.old.cell hu (by
              refine ⟨?_, rfl⟩
              have := World.block_lt_of_cell? _ _ hu
              have : W.heap.size = B := by rw [hW, hB]; rfl
              omega)
            refine GO_some (fun W1 hK _ => ?_) fun u0 => ?_
            · simp
              exact ⟨Kc.of_ext ((Ext.refl _).alloc _), Ch.start _ (hsz _ hK)⟩
            simp
            refine GO_some (fun W1 hK hp => ?_) fun u5 => ?_
            · have a0 := fact hp 0 rfl (by kernel_rfl)
              obtain ⟨u', W2, hr, hc2, hk2⟩ := a0.append (P := Try.prog) (t := 43) (ty := 43) (m := k) (ys := pairCells (s.take k)) (by simp) (by simp) (by kernel_rfl) (by rw [pairCells_take]; exact (old _ hK).takeH k hsl) (pair_one _)
                (zstep hZd (List.take_zero) (by rw [Nat.zero_add]; exact t1) rfl) (by omega) (by omega) (hsz _ hK)
              simp [hr]
              rw [Nat.zero_add] at hc2
              exact ⟨hk2, hc2⟩
            simp
            refine GO_some (fun W1 hK hp => ?_) fun u9 => ?_
            · simp
              refine ⟨Kc.of_ext ((Ext.refl _).alloc _), _, rfl, hsz _ hK, World.alloc_heap_new _ _⟩
            simp
            refine GO_some (fun W1 hK hp => ?_) fun u10 => ?_
            · have a5 := fact hp 5 rfl (by kernel_rfl)
              have a9 := fact hp 9 rfl (by kernel_rfl)
              obtain ⟨u', W2, hr, hc2, hk2⟩ := Ch.append (P := Try.prog) (t := 43) (ty := 43) (by simp) (by simp) (by kernel_rfl) a5 a9.sl (pair_one _) (zstep hZd t1 t2 rfl) (by omega) (by omega) (hsz _ hK)
              simp [hr]
              exact ⟨hk2, hc2⟩
            simp
            refine GO_some (fun W1 hK hp => ?_) fun u15 => ?_
            · have a10 := fact hp 10 rfl (by kernel_rfl)
              obtain ⟨u', W2, hr, hc2, hk2⟩ := Ch.append (P := Try.prog) (t := 43) (ty := 43) (m := s.length - k) (ys := pairCells (s.drop k)) (by simp) (by simp) (by kernel_rfl) a10 (by rw [pairCells_drop]; exact (old _ hK).dropL k hsl) (pair_one _)
                (zstep hZd t2 (by rw [show k + 1 + (s.length - k) = s.length + 1 by omega]; exact t3) rfl) (by omega) (by omega) (hsz _ hK)
              simp [hr]
              rw [show k + 1 + (s.length - k) = s.length + 1 by omega] at hc2
              exact ⟨hk2, hc2⟩
            simp
            refine GO_some (fun W1 hK hp => ?_) fun u16 => ?_
            · have a15 := fact hp 15 rfl (by kernel_rfl)
              obtain ⟨z1, z2, rfl⟩ := own_val a15.1
              simp
              exact ⟨Kc.refl _, a15⟩
            refine GO_fin fun W1 hK _ hp => ?_
            obtain ⟨z, rfl, hz⟩ := fact' hp 16 rfl
            have hWE : Ext w3 W := hW ▸ Ext.drew w3
            have hWs : W.heap.size = B := by rw [hW, hB]; rfl
            have hZ4 : Var W1 (b + 1) (.slice none 0 0) := (hZ3.ext hWE).agr hK.old ⟨by have := hZ3.lt; omega, rfl⟩
            have hE4 : Ext w3 W1 := by
              have h2 := hK.old
              exact hWE.trans ⟨h2.os, h2.tape, h2.out, h2.size, fun g hg => h2.blk g hg ⟨by omega, rfl⟩⟩
            have hzs := sl_of_own hz.1
            rw [List.take_of_length_le (by omega)] at hzs
            have hzl : zs.length = s.length + 1 := by have := hzs.len; rw [hZd, pairCells_len] at this; omega
            have hzn := own_nil hz.1 (by omega)
            have hzg := own_ge hz.1 hzn
            obtain ⟨a1, a2⟩ := ans W1 z zs (hE13.trans hE4) (by show Sl W1 2 z zs.length (pairCells zs); rw [hzl, ← hZd]; exact hzs) (fun _ => by have := hZ3.lt; omega)
            obtain ⟨z1, z2, rfl⟩ := own_val hz.1
            simp [hZ4.cell, hZ4.thaw, (hZ4.set (.slice z1 (s.length + 1) z2)).cell]
            exact ⟨a1, a2⟩
end Go.Proofs
