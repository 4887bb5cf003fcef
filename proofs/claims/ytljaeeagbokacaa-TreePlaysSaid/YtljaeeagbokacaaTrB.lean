/-
  Contracts of the functions that the law reaches, step by step.
-/
import Derived.Test.YtljaeeagbokacaaTrA
namespace Go.Proofs
open Pk
set_option maxRecDepth 10000
theorem TreeAt.put {w w' : World} {t r : Nat} {m m' : ML} (h : TreeAt w t r m) (hm : MA w' r m') (hM : Mod (· = r) w w') : TreeAt w' t r m' :=
  ⟨(h.map.cells hM ⟨t, 0, none⟩ (by rw [h.cell]; rfl)).trans h.cell, hm⟩
/-- What Set answers. -/
def setE (m : ML) (l : List Int) (x y : Int) : Int :=
  if x = 0 ∨ x = y then 2 else if x ∈ l then 320 else if (mget m x).isNone ∧ 64 ≤ m.length then 321 else 0
theorem set_c {w : World} {t r : Nat} {m : ML} {x y : Int} {l : List Int} (ht : TreeAt w t r m) (hl : Lin m y l) (hlen : m.length ≤ 1000) :
    FN Try.prog 9 [ptr t, u32 x, u32 y] w fun e w' => e = .returned (.int .i64 (setE m l x y)) ∧ TreeAt w' t r (if setE m l x y = 0 then mset m x y else m) ∧ Mod (· = r) w w' := by
  refine FN_enter Try.func9 rfl rfl (by kernel_rfl) ?_
  simp
  have he : Ext w (((w.alloc (.cells #[ptr t] 25)).alloc (.cells #[u32 x] 23)).alloc (.cells #[u32 y] 23)) := (((Ext.refl w).alloc _).alloc _).alloc _
  have v0 : Var (((w.alloc (.cells #[ptr t] 25)).alloc (.cells #[u32 x] 23)).alloc (.cells #[u32 y] 23)) w.heap.size (ptr t) := (Var.new w _ _).ext (((Ext.refl _).alloc _).alloc _)
  have v1 : Var (((w.alloc (.cells #[ptr t] 25)).alloc (.cells #[u32 x] 23)).alloc (.cells #[u32 y] 23)) (w.heap.size + 1) (u32 x) := by
    have := (Var.new (w.alloc (.cells #[ptr t] 25)) (u32 x) 23).ext ((Ext.refl _).alloc (.cells #[u32 y] 23)); simpa using this
  have v2 : Var (((w.alloc (.cells #[ptr t] 25)).alloc (.cells #[u32 x] 23)).alloc (.cells #[u32 y] 23)) (w.heap.size + 1 + 1) (u32 y) := by
    have := Var.new ((w.alloc (.cells #[ptr t] 25)).alloc (.cells #[u32 x] 23)) (u32 y) 23; simpa using this
  generalize (((w.alloc (.cells #[ptr t] 25)).alloc (.cells #[u32 x] 23)).alloc (.cells #[u32 y] 23)) = w1 at *
  refine FN.mono (is_c w1 t) ?_
  rintro _ w2 ⟨rfl, h1⟩
  simp
  have he2 := he.trans h1
  let qs : List Qn := [⟨.func (.func 37) #[ptr t] #[], 1, false⟩, ⟨.func (.func 27) #[] #[ptr (w.heap.size + 1), ptr (w.heap.size + 1 + 1)], 2, decide (x = 0) || decide (x = y)⟩,
    ⟨.func (.func 28) #[] #[ptr w.heap.size, ptr (w.heap.size + 1 + 1), ptr (w.heap.size + 1)], 320, decide (x ∈ l)⟩, ⟨.func (.func 32) #[] #[ptr w.heap.size, ptr (w.heap.size + 1)], 321, (mget m x).isNone && decide (64 ≤ m.length)⟩]
  have hsl := Sl.made w2 (askCells qs) 68 2 4 rfl
  have he3 := (Ext.refl w2).alloc (.cells (askCells qs).toArray 68)
  refine FN.mono (asked_c qs hsl (by simp [qs]) ?_ ?_) ?_
  · intro q hq
    simp [qs] at hq
    rcases hq with rfl | rfl | rfl | rfl <;> exact ⟨_, _, _, rfl⟩
  · intro i q hq hno w' hw'
    have hx := (h1.trans he3).trans hw'
    match i, hq with
    | 0, hq => 
      simp [qs] at hq; subst hq
      exact FN.mono (none_c ((ht.ext he).ext hx)) fun _ _ h => ⟨h.1, h.2 ▸ Ext.refl _⟩
    | 1, hq =>
      simp [qs] at hq; subst hq
      exact FN.mono (set1_c (v1.ext hx) (v2.ext hx)) fun _ _ h => ⟨h.1, h.2 ▸ Ext.refl _⟩
    | 2, hq =>
      simp [qs] at hq; subst hq
      exact set2_c (v0.ext hx) (v2.ext hx) (v1.ext hx) ((ht.ext he).ext hx) hl hlen
    | 3, hq =>
      simp [qs] at hq; subst hq
      exact FN.mono (set3_c (v0.ext hx) (v1.ext hx) ((ht.ext he).ext hx) hlen) fun _ _ h => ⟨h.1, h.2 ▸ Ext.refl _⟩
    | i + 4, hq => simp [qs] at hq
  · rintro _ w3 ⟨rfl, h2⟩
    have hE : askE qs = setE m l x y := by
      simp [qs, askE, setE]
    rw [hE]
    have hx := (h1.trans he3).trans h2
    have ht3 := (ht.ext he).ext hx
    by_cases h0 : setE m l x y = 0
    · simp [h0]
      refine WC_drawQ 6 rfl (by kernel_rfl) ?_
      have hd := hx.trans (Ext.drew w3)
      obtain ⟨w4, hu, hm, hM, hsz⟩ := (ht3.ext (Ext.drew w3)).map.update (P := Try.prog) kq tm63 x y
      simp [(v0.ext hd).cell, (v1.ext hd).cell, (v2.ext hd).cell, (ht3.ext (Ext.drew w3)).cell, hu]
      have hE3 := he.trans hd
      exact ⟨(ht3.ext (Ext.drew w3)).put hm hM, hE3.mod.trans hM⟩
    · have hb : (setE m l x y == 0) = false := by simpa using h0
      simp [h0, hb]
      exact ⟨ht3, (he.trans hx).mod⟩
theorem indexFunc_c {w : World} {v g : Value} {xs : List Int} (p : Int → Bool) (h : Sl w 1 v xs.length (xs.map u32)) (hg : ∀ x w', Ext w w' → CV Try.prog g [u32 x] w' fun e w'' => e = .returned (.bool (p x)) ∧ Ext w' w'') (hb : xs.length ≤ 1048576) :
    FN Try.prog 63 [v, g] w fun e w' => e = .returned (.int .i64 (match xs.findIdx? p with | some i => (i : Int) | none => -1)) ∧ Ext w w' := by
  refine FN_enter Try.func63 rfl rfl (by kernel_rfl) ?_
  simp [h.isLen]
  refine WC_loop (fun k ρ ds w' => ∃ i : Nat, k = xs.length - i ∧ i ≤ xs.length ∧ ρ 0 = v ∧ ρ 1 = g ∧ ρ 7 = .int .i64 xs.length ∧ ρ 8 = .int .i64 i ∧ ds = [] ∧ Ext w w' ∧ ∀ (j : Nat) (x : Int), j < i → xs[j]? = some x → p x = false) xs.length ⟨0, by simp [Ext.refl]⟩ ?_
  rintro k ρ ds w1 ⟨i, rfl, hi, e0, e1, e7, e8, rfl, hE, hno⟩
  by_cases hlt : i < xs.length
  · have h1 := h.ext hE
    have hc := h1.at_ i (u32 xs[i]) (by simp [hlt])
    have hix := h1.index (P := Try.prog) (t := 30) (by simp) .i64 i (by omega) (by omega) w1
    simp [e0, e1, e7, e8, hlt, hix, hc]
    refine CV.mono (hg xs[i] w1 hE) ?_
    rintro _ w2 ⟨rfl, hE2⟩
    cases hp : p xs[i] with
    | true =>
      simp
      refine ⟨?_, hE.trans hE2⟩
      have : xs.findIdx? p = some i := by
        rw [List.findIdx?_eq_some_iff_getElem]
        refine ⟨hlt, hp, fun j hj => ?_⟩
        have := hno j xs[j] hj (by simp)
        simpa using this
      rw [this]
    | false =>
      simp [e0, e1, e7, e8]
      refine ⟨xs.length - (i + 1), by omega, i + 1, rfl, by omega, ?_, hE.trans hE2, ?_⟩
      · rw [wrap64 _ (by omega) (by omega)]; rfl
      · intro j x hj hx
        rcases Nat.lt_succ_iff_lt_or_eq.1 hj with h1 | rfl
        · exact hno j x h1 hx
        · rw [List.getElem?_eq_getElem hlt] at hx; cases hx; exact hp
  · simp [e7, e8, hlt]
    refine ⟨?_, hE⟩
    have : xs.findIdx? p = none := by
      rw [List.findIdx?_eq_none_iff]
      intro y hy
      obtain ⟨j, hj, rfl⟩ := List.mem_iff_getElem.1 hy
      exact hno j xs[j] (by omega) (by simp)
    rw [this]
theorem first_c {w : World} {v g : Value} {xs : List Int} (p : Int → Bool) (h : Sl w 1 v xs.length (xs.map u32)) (hg : ∀ x w', Ext w w' → CV Try.prog g [u32 x] w' fun e w'' => e = .returned (.bool (p x)) ∧ Ext w' w'') (hb : xs.length ≤ 1048576) :
    FN Try.prog 55 [v, g] w fun e w' => e = .returned (.int .i64 (match xs.findIdx? p with | some i => (i : Int) | none => -1)) ∧ Ext w w' := by
  refine FN_enter Try.func55 rfl rfl (by kernel_rfl) ?_
  simp
  refine FN.mono (indexFunc_c p h hg hb) ?_
  rintro _ w2 ⟨rfl, hE⟩
  simp
  exact hE
theorem same_c {w : World} {v v' : Value} {xs ys : List Int} (h : Sl w 1 v xs.length (xs.map u32)) (h' : Sl w 1 v' ys.length (ys.map u32)) (hb : xs.length ≤ 1048576) :
    FN Try.prog 24 [v, v'] w fun e w' => e = .returned (.bool (decide (xs = ys))) ∧ Ext w w' := by
  refine FN_enter Try.func24 rfl rfl (by kernel_rfl) ?_
  by_cases hl : xs.length = ys.length
  · simp [h.isLen, h'.isLen, hl]
    refine WC_loop (fun k ρ ds w' => ∃ i : Nat, k = xs.length - i ∧ i ≤ xs.length ∧ ρ 0 = v ∧ ρ 1 = v' ∧ ρ 5 = .int .i64 i ∧ ds = [] ∧ Ext w w' ∧ xs.take i = ys.take i) xs.length ⟨0, by simp [Ext.refl]⟩ ?_
    rintro k ρ ds w1 ⟨i, rfl, hi, e0, e1, e5, rfl, hE, hno⟩
    by_cases hlt : i < xs.length
    · have hlt' : i < ys.length := by omega
      have hd := hE.trans (Ext.drew w1)
      have c1 := (h.ext hd).at_ i (u32 xs[i]) (by simp [hlt])
      have c2 := (h'.ext hd).at_ i (u32 ys[i]) (by simp [hlt'])
      have i1 := h.index (P := Try.prog) (t := 30) (by simp) .i64 i (by omega) (by omega) w1.drew
      have i2 := h'.index (P := Try.prog) (t := 30) (by simp) .i64 i (by omega) (by omega) w1.drew
      simp [e0, e5, h.isLen, hlt]
      refine WC_drawQ 9 rfl (by kernel_rfl) ?_
      simp [e0, e1, e5, i1, i2, c1, c2]
      refine GIt_split ?_ ?_
      · intro hx
        simp at hx
        simp
        refine ⟨?_, hd⟩
        rintro rfl
        exact hx rfl
      · intro hx
        simp at hx
        simp [e0, e1, e5]
        refine ⟨xs.length - (i + 1), by omega, i + 1, rfl, by omega, ?_, hd, ?_⟩
        · rw [wrap64 _ (by omega) (by omega)]; rfl
        · rw [List.take_add_one, List.take_add_one, hno, List.getElem?_eq_getElem hlt, List.getElem?_eq_getElem hlt', hx]
    · simp [e0, e5, h.isLen, hlt]
      refine ⟨?_, hE⟩
      have e : i = xs.length := by omega
      rw [e, List.take_length, hl, List.take_length] at hno
      exact hno
  · have hb' : ((xs.length : Int) != (ys.length : Int)) = true := by simp; omega
    simp [h.isLen, h'.isLen, hb']
    refine ⟨?_, Ext.refl _⟩
    rintro rfl
    exact hl rfl
end Go.Proofs
