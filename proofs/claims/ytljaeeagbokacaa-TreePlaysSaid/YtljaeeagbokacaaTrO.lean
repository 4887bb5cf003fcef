/-
  Contracts of the functions that the law reaches, step by step.
-/
import Derived.Test.YtljaeeagbokacaaTrM
import Derived.Test.YtljaeeagbokacaaTrI
import Derived.Test.YtljaeeagbokacaaEngP
namespace Go.Proofs
open Pk
set_option maxRecDepth 10000
/-- The document's tree: rows, by regions. -/
abbrev Rws (w : World) (v : Value) (s : ML) := Sl w 2 v s.length (pairCells s)
/-- Regions rise. -/
def Asc (s : ML) : Prop := s.Pairwise fun p q => p.1 < q.1
/-- Where a region is, or would be. -/
def spot (s : ML) (x : Int) : Nat := (s.takeWhile fun p => decide (p.1 < x)).length
def there (s : ML) (x : Int) : Bool := (mget s x).isSome
theorem spot_le (s : ML) (x : Int) : spot s x ≤ s.length := by unfold spot; exact (List.takeWhile_prefix _).length_le
theorem spot_lt {s : ML} {x : Int} {k : Nat} (h : k < spot s x) : ∃ p, s[k]? = some p ∧ p.1 < x := by
  unfold spot at h
  induction s generalizing k with
  | nil => simp at h
  | cons a s ih =>
    by_cases ha : a.1 < x
    · simp only [List.takeWhile_cons, ha, decide_true, if_true, List.length_cons] at h
      cases k with
      | zero => exact ⟨a, rfl, ha⟩
      | succ k => exact ih (by omega)
    · simp [ha] at h
theorem spot_end {s : ML} {x : Int} {p : Int × Int} (h : s[spot s x]? = some p) : ¬ p.1 < x := by
  unfold spot at h
  induction s with
  | nil => simp at h
  | cons a s ih =>
    by_cases ha : a.1 < x
    · simp [ha] at h
      exact ih (by simpa using h)
    · simp [ha] at h
      rw [← h]; exact ha
theorem asc_mget {s : ML} (hs : Asc s) {x : Int} : mget s x = (s[spot s x]?).bind fun p => if p.1 = x then some p.2 else none := by
  unfold mget spot
  induction s with
  | nil => rfl
  | cons a s ih =>
    have hs' := List.pairwise_cons.1 hs
    by_cases ha : a.1 < x
    · have hne : ¬ a.1 = x := by omega
      simp only [List.find?_cons, List.takeWhile_cons, ha, hne, decide_true, decide_false, if_true, List.length_cons, List.getElem?_cons_succ]
      exact ih hs'.2
    · simp only [List.takeWhile_cons, ha, decide_false, Bool.false_eq_true, if_false, List.length_nil, List.getElem?_cons_zero, Option.bind_some]
      by_cases he : a.1 = x
      · simp [he]
      · rw [if_neg he]
        have : (a :: s).find? (fun p => decide (p.1 = x)) = none := by
          rw [List.find?_eq_none]
          intro p hp
          rcases List.mem_cons.1 hp with rfl | hp
          · simpa using he
          · have := hs'.1 p hp
            simp; omega
        rw [this]; rfl
theorem find_c {w : World} {v : Value} {s : ML} (h : Rws w v s) (hs : Asc s) (x : Int) (hb : s.length ≤ 1000) :
    FN Try.prog 59 [.agg #[v], u32 x] w fun e w' => e = .returned (.tuple #[.int .i64 (spot s x), .bool (there s x)]) ∧ Ext w w' := by
  refine FN_enter Try.func59 rfl rfl (by kernel_rfl) ?_
  simp
  have hE := (Ext.refl w).alloc (.cells #[v] 45)
  have hV := Var.new w v 45
  obtain ⟨b, hbb⟩ : ∃ b, b = w.heap.size := ⟨_, rfl⟩
  rw [← hbb] at hV ⊢
  generalize (w.alloc (.cells #[v] 45)) = w1 at *
  replace h := h.ext hE
  refine WC_loop (fun k ρ ds w' => ∃ i : Nat, k = spot s x - i ∧ i ≤ spot s x ∧ ρ 1 = u32 x ∧ ρ 2 = ptr b ∧ ρ 6 = .int .i64 i ∧ ds = [] ∧ w' = w1) (spot s x) ⟨0, by simp⟩ ?_
  rintro k ρ ds w' ⟨i, rfl, hi, e1, e2, e6, rfl, rfl⟩
  have hsl := spot_le s x
  have wi : IntKind.i64.wrap ((i : Int) + 1) = ((i + 1 : Nat) : Int) := wnat _ _ (by omega) (by omega)
  have hl := fun ty W => h.isLen (P := Try.prog) (t := 43) (by simp) ty W
  by_cases hlt : i < s.length
  · obtain ⟨c1, c2⟩ := pairCells_at s i s[i] (List.getElem?_eq_getElem hlt)
    have d1 := h.at_ _ _ c1
    have ix := fun W => h.index (P := Try.prog) (t := 43) (by simp) .i64 i (by omega) (by omega) W
    by_cases hsp : i < spot s x
    · obtain ⟨p, hp, hpx⟩ := spot_lt hsp
      rw [List.getElem?_eq_getElem hlt] at hp
      cases hp
      have hd : decide (s[i].1 < x) = true := by simpa using hpx
      simp [e1, e2, e6, hV.cell, hl, hlt, ix, d1, hd]
      rw [wi]
      exact ⟨spot s x - (i + 1), by omega, i + 1, rfl, by omega, rfl⟩
    · have hie : i = spot s x := by omega
      have hnx := spot_end (s := s) (x := x) (p := s[i]) (by rw [← hie]; exact List.getElem?_eq_getElem hlt)
      have hd : decide (s[i].1 < x) = false := by simpa using hnx
      have hm := asc_mget hs (x := x)
      rw [← hie, List.getElem?_eq_getElem hlt, Option.bind_some] at hm
      simp [e1, e2, e6, hV.cell, hl, hlt, ix, d1, hd]
      refine WC_drQ 17 rfl (by kernel_rfl) fun W hW => ?_
      have hVW := hV.ext (hW ▸ Ext.drew _)
      have dW := (h.ext (hW ▸ Ext.drew _)).at_ _ _ c1
      simp [e1, e2, e6, hVW.cell, hl, hlt, ix, dW]
      refine ⟨⟨by omega, ?_⟩, hE.trans (hW ▸ Ext.drew _)⟩
      unfold there
      rw [hm]
      by_cases hx : s[i].1 = x
      · simp [hx]
      · simp [hx]
  · have hie : i = spot s x := by omega
    have hm := asc_mget hs (x := x)
    rw [← hie, List.getElem?_eq_none (by omega)] at hm
    simp [e2, e6, hV.cell, hl, hlt]
    refine WC_drQ 17 rfl (by kernel_rfl) fun W hW => ?_
    have hVW := hV.ext (hW ▸ Ext.drew _)
    simp [e2, e6, hVW.cell, hl, hlt]
    refine ⟨⟨by omega, ?_⟩, hE.trans (hW ▸ Ext.drew _)⟩
    unfold there
    rw [hm]; rfl
theorem rparent_c {w : World} {v : Value} {s : ML} (h : Rws w v s) (hs : Asc s) (x : Int) (hb : s.length ≤ 1000) :
    FN Try.prog 42 [.agg #[v], u32 x] w fun e w' => e = .returned (.tuple #[u32 ((mget s x).getD 0), .bool (mget s x).isSome]) ∧ Ext w w' := by
  refine FN_enter Try.func42 rfl rfl (by kernel_rfl) ?_
  simp
  have hE := (Ext.refl w).alloc (.cells #[v] 45)
  have hV := Var.new w v 45
  obtain ⟨b, hbb⟩ : ∃ b, b = w.heap.size := ⟨_, rfl⟩
  rw [← hbb] at hV ⊢
  generalize (w.alloc (.cells #[v] 45)) = w1 at *
  refine FN.mono (find_c (h.ext hE) hs x hb) ?_
  rintro _ w2 ⟨rfl, hE2⟩
  have hV2 := hV.ext hE2
  have h2 := (h.ext hE).ext hE2
  have hm := asc_mget hs (x := x)
  simp
  cases ht : there s x with
  | false =>
    simp
    unfold there at ht
    have : mget s x = none := by simpa using ht
    rw [this]
    exact ⟨⟨rfl, rfl⟩, hE.trans hE2⟩
  | true =>
    unfold there at ht
    have hlt : spot s x < s.length := by
      rcases Nat.lt_or_ge (spot s x) s.length with h | h
      · exact h
      · rw [List.getElem?_eq_none h] at hm
        rw [hm] at ht; cases ht
    rw [List.getElem?_eq_getElem hlt, Option.bind_some] at hm
    have hx : s[spot s x].1 = x := by
      by_cases hx : s[spot s x].1 = x
      · exact hx
      · rw [if_neg hx] at hm; rw [hm] at ht; cases ht
    rw [if_pos hx] at hm
    obtain ⟨c1, c2⟩ := pairCells_at s _ s[spot s x] (List.getElem?_eq_getElem hlt)
    have d2 := h2.at_ _ _ c2
    have ix := fun W => h2.index (P := Try.prog) (t := 43) (by simp) .i64 (spot s x) (by omega) (by omega) W
    simp only [← Nat.add_assoc] at d2
    simp [hV2.cell, ix, d2, hm]
    exact hE.trans hE2
theorem rline_c {w : World} {v : Value} {s : ML} (h : Rws w v s) (hs : Asc s) {x : Int} {l : List Int} (hl : Lin s x l) (hb : s.length ≤ 1000) :
    FN Try.prog 43 [.agg #[v], u32 x] w fun e w' => ∃ u, e = .returned u ∧ Ext w w' ∧ Sl w' 1 u l.length (l.map u32) := by
  refine FN_enter Try.func43 rfl rfl (by kernel_rfl) ?_
  simp
  have hE := (Ext.refl w).alloc (.cells #[v] 45)
  have hV := Var.new w v 45
  obtain ⟨b, hbb⟩ : ∃ b, b = w.heap.size := ⟨_, rfl⟩
  rw [← hbb] at hV ⊢
  have hsz : (w.alloc (.cells #[v] 45)).heap.size = w.heap.size + 1 := by simp
  generalize (w.alloc (.cells #[v] 45)) = w1 at *
  have hll := hl.bound
  refine WC_loop (fun k ρ ds w' => ∃ (y : Int) (pre post : List Int) (u : Value), k = post.length ∧ l = pre ++ post ∧ Lin s y post ∧ ρ 1 = u32 y ∧ ρ 2 = ptr b ∧ ρ 5 = u ∧ ds = [] ∧ Ext w1 w' ∧ w'.ownsRow w1.heap.size 23 1 u pre.length (pre.map u32)) l.length
    ⟨x, [], l, .slice none 0 0, by simp, by simp, hl, by simp, by simp, by simp, rfl, Ext.refl _, World.ownsRow_nil _ _ _ _⟩ ?_
  rintro k ρ ds w' ⟨y, pre, post, u, rfl, hpp, hL, e1, e2, e5, rfl, hE1, hO⟩
  by_cases hy : y = 0
  · subst hy
    have := hL.zero
    subst this
    simp [e1, e5]
    have hs1 := sl_of_own hO
    rw [hpp, List.append_nil]
    exact ⟨hE.trans hE1, hs1⟩
  · obtain ⟨post', rfl, hL'⟩ := hL.step hy
    have hyb : (y != 0) = true := by simpa using hy
    have hV' := hV.ext hE1
    have hplen : pre.length + (post'.length + 1) = l.length := by rw [hpp]; simp
    simp [e1, e5, hyb]
    have eA := (Ext.refl w').alloc (.cells #[u32 y] 23)
    have hO2 := own_ext hO eA
    have hV2 := hV'.ext eA
    have hsA : (w'.alloc (.cells #[u32 y] 23)).heap.size = w'.heap.size + 1 := by simp
    have h1s := hE1.size
    obtain ⟨u', w2, hr, hO3, hM3, hnew⟩ := append_own (P := Try.prog) (t := 30) (ty := 30) (e := 23) (s := 1) (by simp) (by simp) (by kernel_rfl) hO2 (Sl.one w' (u32 y) 23) (by intro z hz; rw [List.mem_singleton] at hz; subst hz; rfl) (by omega) (by omega)
    simp [hr]
    have hE2 : Ext w1 w2 := ((hE1.trans eA).mod (S := fun k => w1.heap.size ≤ k)).trans (hM3.weaken fun i hi => by have := own_ge hO2 hi.1; omega) |>.ext fun _ h => h
    have hV3 := hV.ext hE2
    simp [e1, e2, hV3.cell]
    refine FN.mono (rparent_c ((h.ext hE).ext hE2) hs y hb) ?_
    rintro _ w3 ⟨rfl, hE3⟩
    simp [e2]
    refine ⟨post'.length, by omega, (mget s y).getD 0, pre ++ [y], post', rfl, by rw [hpp]; simp, hL', rfl, hE2.trans hE3, ?_⟩
    have := own_ext hO3 hE3
    simpa using this
theorem in_c {w : World} {v : Value} {xs : List Int} (h : Sl w 1 v xs.length (xs.map u32)) (x : Int) (hb : xs.length ≤ 1048576) :
    FN Try.prog 58 [v, u32 x] w fun e w' => e = .returned (.tuple #[.int .i64 (if x ∈ xs then (placeOf xs x : Int) else 0), .bool (decide (x ∈ xs))]) ∧ w' = w := by
  refine FN_enter Try.func58 rfl rfl (by kernel_rfl) ?_
  simp
  refine WC_loop (fun k ρ ds w' => ∃ i : Nat, k = xs.length - i ∧ i ≤ xs.length ∧ (∀ j, j < i → xs[j]? ≠ some x) ∧ ρ 0 = v ∧ ρ 1 = u32 x ∧ ρ 6 = .int .i64 i ∧ ds = [] ∧ w' = w) xs.length ⟨0, by simp⟩ ?_
  rintro k ρ ds w' ⟨i, rfl, hi, hno, e0, e1, e6, rfl, rfl⟩
  have wi : IntKind.i64.wrap ((i : Int) + 1) = ((i + 1 : Nat) : Int) := wnat _ _ (by omega) (by omega)
  have hl := fun ty W => h.isLen (P := Try.prog) (t := 30) (by simp) ty W
  by_cases hlt : i < xs.length
  · have d1 := h.at_ i (u32 xs[i]) (by simp [hlt])
    have ix := fun W => h.index (P := Try.prog) (t := 30) (by simp) .i64 i (by omega) (by omega) W
    by_cases hx : xs[i] = x
    · have hxb : (xs[i] == x) = true := by simpa using hx
      have hmem : x ∈ xs := by rw [← hx]; exact List.getElem_mem hlt
      have hpl : placeOf xs x = i := by
        unfold placeOf
        rw [List.findIdx_eq hlt]
        refine ⟨by simpa using hx, fun j hj => ?_⟩
        have := hno j hj
        rw [List.getElem?_eq_getElem (by omega)] at this
        simpa using this
      simp [e0, e1, e6, hl, hlt, ix, d1, hxb, hmem, hpl]
    · have hxb : (xs[i] == x) = false := by simpa using hx
      simp [e0, e1, e6, hl, hlt, ix, d1, hxb]
      rw [wi]
      refine ⟨xs.length - (i + 1), by omega, i + 1, rfl, by omega, fun j hj => ?_, rfl⟩
      by_cases hji : j = i
      · subst hji
        rw [List.getElem?_eq_getElem hlt]
        simpa using hx
      · exact hno j (by omega)
  · have hmem : ¬ x ∈ xs := fun hm => by
      obtain ⟨j, hj⟩ := List.mem_iff_getElem?.1 hm
      exact hno j (by have := (List.getElem?_eq_some_iff.1 hj).1; omega) hj
    simp [e0, e6, hl, hlt, hmem]
end Go.Proofs
