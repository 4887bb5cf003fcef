/-
  Contracts of the functions that the law reaches, step by step.
-/
import Derived.Test.YtfppepjaopbanaaRkA
import Derived.Test.YtfppepjaopbanaaEngZ
namespace Go.Proofs
open Pk
set_option maxRecDepth 10000
/-! ### Questions -/
structure Qn where
  f : Value
  e : Int
  b : Bool
def askE : List Qn → Int
  | [] => 0
  | q :: qs => if q.b then q.e else askE qs
def askCells (qs : List Qn) : List Value := qs.flatMap fun q => [q.f, .int .i64 q.e]
theorem askCells_at : ∀ (qs : List Qn) (i : Nat) (q : Qn), qs[i]? = some q → (askCells qs)[i * 2]? = some q.f ∧ (askCells qs)[i * 2 + 1]? = some (.int .i64 q.e)
  | [], i, q, h => by simp at h
  | a :: qs, 0, q, h => by
    simp at h; subst h
    simp [askCells]
  | a :: qs, i + 1, q, h => by
    have := askCells_at qs i q (by simpa using h)
    have e1 : (i + 1) * 2 = i * 2 + 1 + 1 := by omega
    have e2 : (i + 1) * 2 + 1 = i * 2 + 1 + 1 + 1 := by omega
    rw [e1]
    simp only [askCells, List.flatMap_cons] at this ⊢
    simpa using this
theorem askE_none : ∀ (qs : List Qn), (∀ (j : Nat) (q : Qn), qs[j]? = some q → q.b = false) → askE qs = 0
  | [], _ => rfl
  | q :: qs, h => by
    have h0 := h 0 q rfl
    simp [askE, h0]
    exact askE_none qs fun j q hj => h (j + 1) q hj
theorem askE_at : ∀ (qs : List Qn) (i : Nat) (q : Qn), qs[i]? = some q → q.b = true → (∀ (j : Nat) (q : Qn), j < i → qs[j]? = some q → q.b = false) → askE qs = q.e
  | [], i, q, h, _, _ => by simp at h
  | a :: qs, 0, q, h, hb, _ => by
    simp at h; subst h
    simp [askE, hb]
  | a :: qs, i + 1, q, h, hb, hn => by
    have h0 := hn 0 a (by omega) rfl
    simp [askE, h0]
    exact askE_at qs i q (by simpa using h) hb fun j q hj hq => hn (j + 1) q (by omega) (by simpa using hq)
theorem asked_c {w : World} {v : Value} (qs : List Qn) (hs : Sl w 2 v qs.length (askCells qs)) (hb : qs.length ≤ 1000) (hf : ∀ q ∈ qs, ∃ f x y, q.f = .func f x y)
    (hq : ∀ (i : Nat) (q : Qn), qs[i]? = some q → (∀ (j : Nat) (p : Qn), j < i → qs[j]? = some p → p.b = false) → ∀ w', Ext w w' → CV Try.prog q.f [] w' fun e w'' => e = .returned (.bool q.b) ∧ Ext w' w'') :
    FN Try.prog 22 [v] w fun e w' => e = .returned (.int .i64 (askE qs)) ∧ Ext w w' := by
  refine FN_enter Try.func22 rfl rfl (by kernel_rfl) ?_
  simp
  refine WC_scope 0 _ rfl ?_
  simp [hs.isLen]
  refine WC_loop (fun k ρ ds w' => ∃ i : Nat, k = qs.length - i ∧ i ≤ qs.length ∧ ρ 5 = v ∧ ρ 6 = .int .i64 qs.length ∧ ρ 7 = .int .i64 i ∧ ds = [] ∧ Ext w w' ∧ ∀ (j : Nat) (q : Qn), j < i → qs[j]? = some q → q.b = false) qs.length ⟨0, by simp [Ext.refl]⟩ ?_
  rintro k ρ ds w1 ⟨i, rfl, hi, e5, e6, e7, rfl, hE, hno⟩
  by_cases hlt : i < qs.length
  · have hq0 : qs[i]? = some qs[i] := by simp [hlt]
    obtain ⟨c1, c2⟩ := askCells_at qs i _ hq0
    have hs1 := hs.ext hE
    have d1 := hs1.at_ _ _ c1
    have d2 := hs1.at_ _ _ c2
    rw [← Nat.add_assoc] at d2
    have hix := hs1.index (P := Try.prog) (t := 112) (by simp) .i64 i (by omega) (by omega) w1
    obtain ⟨f, x, y, hfv⟩ := hf qs[i] (by simp)
    have hcall := hq i _ hq0 hno
    rw [hfv] at d1 hcall
    simp [e5, e6, e7, hlt, hix, d1, d2]
    have hE1 := (Ext.refl w1).alloc (.cells #[.func f x y, .int .i64 qs[i].e] 73)
    refine CV.mono (hcall _ (hE.trans hE1)) ?_
    rintro _ w2 ⟨rfl, hE2⟩
    cases hqb : qs[i].b with
    | true =>
      simp
      exact ⟨(askE_at qs i _ hq0 hqb hno).symm, (hE.trans hE1).trans hE2⟩
    | false =>
      simp [e5, e6, e7]
      refine ⟨qs.length - (i + 1), by omega, i + 1, rfl, by omega, ?_, (hE.trans hE1).trans hE2, ?_⟩
      · rw [wrap64 _ (by omega) (by omega)]; rfl
      · intro j q hj hjq
        rcases Nat.lt_succ_iff_lt_or_eq.1 hj with h1 | rfl
        · exact hno j q h1 hjq
        · rw [hq0] at hjq; cases hjq; exact hqb
  · simp [e6, e7, hlt]
    exact ⟨(askE_none qs fun j q hj => hno j q (by have := (List.getElem?_eq_some_iff.1 hj).1; omega) hj).symm, hE⟩
/-- The rest of a list of questions, one by one. -/
theorem asked_go {w w0 : World} {v : Value} {R : Ending → World → Prop} (qs : List Qn) (hs : Sl w 2 v qs.length (askCells qs)) (hb : qs.length ≤ 1000) (hf : ∀ q ∈ qs, ∃ f x y, q.f = .func f x y) (hE : Ext w0 w)
    (hq : ∀ (i : Nat) (q : Qn), qs[i]? = some q → (∀ (j : Nat) (p : Qn), j < i → qs[j]? = some p → p.b = false) → ∀ w', Ext w0 w' → CV Try.prog q.f [] w' fun e w'' => e = .returned (.bool q.b) ∧ Ext w' w'')
    (h : ∀ w', Ext w0 w' → R (.returned (.int .i64 (askE qs))) w') : FN Try.prog 22 [v] w R := by
  refine FN.mono (asked_c qs hs hb hf fun i q h1 h2 w' h3 => hq i q h1 h2 w' (hE.trans h3)) ?_
  rintro _ w' ⟨rfl, h2⟩
  exact h _ (hE.trans h2)
theorem num_c (a : Int) (w : World) : FN Try.prog 7 [.int .i64 a] w fun e w' => e = .returned (.int .i64 a) ∧ w' = w := by
  refine FN_enter Try.func7 rfl rfl (by kernel_rfl) ?_
  simp
def badN (n : Nm) : Bool := decide (n.1 = 0) || decide (4611686018427387903 < n.2.2.1)
theorem check_c (n : Nm) (w : World) : FN Try.prog 56 [nmV n] w fun e w' => e = .returned (i64 (if badN n then 2 else 0)) ∧ Ext w w' := by
  refine FN_enter Try.func56 rfl rfl (by kernel_rfl) ?_
  simp
  have hE := (Ext.refl w).alloc (.cells #[u32 n.1, u32 n.2.1, u64 n.2.2.1, u32 n.2.2.2] 28)
  by_cases h1 : n.1 = 0
  · simp [h1, badN]
    simpa [h1] using hE
  · by_cases h2 : 4611686018427387903 < n.2.2.1
    · simp [h1, h2, badN]; exact hE
    · simp [h1, h2, badN]; exact hE
theorem rightF_c {w : World} {b : Nat} {n : Nm} (h : NmAt w b n) : FN Try.prog 55 [ptr b] w fun e w' => e = .returned (.bool (badN n)) ∧ Ext w w' := by
  refine FN_enter Try.func55 rfl rfl (by kernel_rfl) ?_
  simp [h.c0, h.c1, h.c2, h.c3]
  refine FN.mono (check_c n w) ?_
  rintro _ w1 ⟨rfl, hE⟩
  cases badN n <;> simp <;> exact hE
theorem nodeF_c {w : World} {b : Nat} {n : Int} (h : Var w b (u32 n)) : FN Try.prog 57 [ptr b] w fun e w' => e = .returned (.bool (n == 0)) ∧ w' = w := by
  refine FN_enter Try.func57 rfl rfl (by kernel_rfl) ?_
  simp [h.cell]
/-- One of 0, 1, 2. -/
theorem index_c {w : World} {v : Value} (h : Sl w 1 v 3 [i64 0, i64 1, i64 2]) (r : Int) : FN Try.prog 58 [v, i64 r] w fun e w' => e = .returned (i64 (if r = 0 then 0 else if r = 1 then 1 else if r = 2 then 2 else -1)) ∧ w' = w := by
  refine FN_enter Try.func58 rfl rfl (by kernel_rfl) ?_
  have ix := fun (i : Int) (h0 : 0 ≤ i) (h1 : i < 3) W => h.index (P := Try.prog) (t := 78) (by simp) .i64 i h0 h1 W
  have c0 := h.at_ 0 _ rfl
  have c1 := h.at_ 1 _ rfl
  have c2 := h.at_ 2 _ rfl
  have hlen := fun ty W => h.isLen (P := Try.prog) (t := 78) (by simp) ty W
  have i0 := fun W => ix 0 (by omega) (by omega) W
  have i1 := fun W => ix 1 (by omega) (by omega) W
  have i2 := fun W => ix 2 (by omega) (by omega) W
  simp at c0 c1 c2 hlen i0 i1 i2
  simp [hlen]
  refine WC_loop (fun k ρ ds w' => ρ 0 = v ∧ ρ 1 = i64 r ∧ ρ 7 = i64 3 ∧ ds = [] ∧ w' = w ∧ (k = 3 ∧ ρ 8 = i64 0 ∨ k = 2 ∧ ρ 8 = i64 1 ∧ r ≠ 0 ∨ k = 1 ∧ ρ 8 = i64 2 ∧ r ≠ 0 ∧ r ≠ 1 ∨ k = 0 ∧ ρ 8 = i64 3 ∧ r ≠ 0 ∧ r ≠ 1 ∧ r ≠ 2)) 3 (by simp) ?_
  rintro k ρ ds w' ⟨e0, e1, e7, rfl, hw, hk⟩
  subst hw
  rcases hk with ⟨rfl, e8⟩ | ⟨rfl, e8, g0⟩ | ⟨rfl, e8, g0, g1⟩ | ⟨rfl, e8, g0, g1, g2⟩
  · by_cases g : r = 0
    · simp [e0, e1, e7, e8, i0, c0, g]
    · have g' : (r == 0) = false := by simpa using g
      simp [e0, e1, e7, e8, i0, c0, g']
      exact ⟨2, by omega, .inr (.inl ⟨rfl, by decide, g⟩)⟩
  · by_cases g : r = 1
    · simp [e0, e1, e7, e8, i1, c1, g]
    · have g' : (r == 1) = false := by simpa using g
      simp [e0, e1, e7, e8, i1, c1, g']
      exact ⟨1, by omega, .inr (.inr (.inl ⟨rfl, by decide, g0, g⟩))⟩
  · by_cases g : r = 2
    · simp [e0, e1, e7, e8, i2, c2, g]
    · have g' : (r == 2) = false := by simpa using g
      simp [e0, e1, e7, e8, i2, c2, g']
      exact ⟨wrap64 _ (by omega) (by omega), g0, g1, g⟩
  · simp [e7, e8, g0, g1, g2]
theorem contains_c {w : World} {v : Value} (h : Sl w 1 v 3 [i64 0, i64 1, i64 2]) (r : Int) : FN Try.prog 27 [v, i64 r] w fun e w' => e = .returned (.bool (decide (0 ≤ r ∧ r ≤ 2))) ∧ w' = w := by
  refine FN_enter Try.func27 rfl rfl (by kernel_rfl) ?_
  simp
  refine FN.mono (index_c h r) ?_
  rintro _ w1 ⟨rfl, hw⟩
  rw [hw]
  simp
  by_cases g0 : r = 0
  · simp [g0]
  by_cases g1 : r = 1
  · simp [g1]
  by_cases g2 : r = 2
  · simp [g2]
  simp [g0, g1, g2]
  omega
/-- Has it this name? -/
theorem isNm_c {w : World} {b : Nat} {n : Nm} (h : NmAt w b n) (x : Wt) : FN Try.prog 62 [wtV x, ptr b] w fun e w' => e = .returned (.bool (nmB x.1 n)) ∧ Ext w w' := by
  refine FN_enter Try.func62 rfl rfl (by kernel_rfl) ?_
  have hE := (Ext.refl w).alloc (.cells #[u32 x.1.1, u32 x.1.2.1, u64 x.1.2.2.1, u32 x.1.2.2.2, u32 x.2.1, i64 x.2.2.1, i64 x.2.2.2] 30)
  simp [h.c0, h.c1, h.c2, h.c3]
  exact hE
def noNm (l : List Wt) (n : Nm) : Prop := ∀ x ∈ l, x.1 ≠ n
theorem noNm_snoc {l : List Wt} {n : Nm} {i : Nat} (hi : i < l.length) (h : noNm (l.take i) n) (hx : l[i].1 ≠ n) : noNm (l.take (i + 1)) n := by
  intro x hx'
  rw [List.take_add_one, List.getElem?_eq_getElem hi] at hx'
  rcases List.mem_append.1 hx' with h1 | h1
  · exact h x h1
  · simp only [Option.toList_some, List.mem_singleton] at h1
    rw [h1]; exact hx
theorem indexF_c {w : World} {v : Value} {l : List Wt} {b : Nat} {n : Nm} (h : WSl w v l) (hn : NmAt w b n) (hb : l.length ≤ 1048576) :
    FN Try.prog 61 [v, .func (.func 62) #[] #[ptr b]] w fun e w' => e = .returned (i64 (match l.findIdx? (fun x => decide (x.1 = n)) with | some i => (i : Int) | none => -1)) ∧ Ext w w' := by
  refine FN_enter Try.func61 rfl rfl (by kernel_rfl) ?_
  have hlen := fun ty W => h.isLen (P := Try.prog) (t := 22) (by simp) ty W
  simp [hlen]
  refine WC_loop (fun k ρ ds w' => ∃ i : Nat, k = l.length - i ∧ i ≤ l.length ∧ ρ 0 = v ∧ ρ 1 = .func (.func 62) #[] #[ptr b] ∧ ρ 7 = i64 l.length ∧ ρ 8 = i64 i ∧ ds = [] ∧ Ext w w' ∧ noNm (l.take i) n) l.length ⟨0, by simp, by simp, by simp, by simp, by simp, by simp, rfl, Ext.refl _, fun x hx => by simp at hx⟩ ?_
  rintro k ρ ds w1 ⟨i, rfl, hi, e0, e1, e7, e8, rfl, hE, hno⟩
  by_cases hlt : i < l.length
  · have hq := List.getElem?_eq_getElem hlt
    have r := (WSl.row h hq).ext hE
    have ix := WSl.index h i hlt w1
    simp [e0, e1, e7, e8, hlt, ix, r.c0, r.c1, r.c2, r.c3, r.c4, r.c5, r.c6]
    refine FN.mono (isNm_c (hn.ext hE) l[i]) ?_
    rintro _ w2 ⟨rfl, hE2⟩
    by_cases hx : l[i].1 = n
    · simp [nmB_t hx]
      have : l.findIdx? (fun x => decide (x.1 = n)) = some i := by
        rw [List.findIdx?_eq_some_iff_getElem]
        exact ⟨hlt, by simpa using hx, fun j hj => by simpa using hno l[j] (List.mem_iff_getElem.2 ⟨j, by simp; omega, by simp⟩)⟩
      rw [this]
      exact ⟨rfl, hE.trans hE2⟩
    · simp [nmB_f hx, e0, e1, e7, e8]
      refine ⟨l.length - (i + 1), by omega, i + 1, rfl, by omega, by rw [wrap64 _ (by omega) (by omega)]; rfl, hE.trans hE2, noNm_snoc hlt hno hx⟩
  · simp [e7, e8, hlt]
    have : l.findIdx? (fun x => decide (x.1 = n)) = none := by
      rw [List.findIdx?_eq_none_iff]
      intro x hx
      have := hno x (by rw [show i = l.length by omega, List.take_length]; exact hx)
      simpa using this
    rw [this]
    exact ⟨rfl, hE⟩
theorem wone (l : List Wt) : ∀ u ∈ l.flatMap wtC, u.oneCell' = true := by
  intro u hu
  obtain ⟨x, _, h⟩ := List.mem_flatMap.1 hu
  simp only [List.mem_cons, List.not_mem_nil, or_false] at h
  rcases h with rfl | rfl | rfl | rfl | rfl | rfl | rfl <;> rfl
theorem clone_c {w : World} {v : Value} {l : List Wt} (h : WSl w v l) (hn : slN v = false) (hne : l ≠ []) (hb : l.length ≤ 1048576) :
    FN Try.prog 34 [v] w fun e w' => ∃ v', e = .returned v' ∧ w'.ownsRow w.heap.size 30 7 v' l.length (l.flatMap wtC) ∧ Ext w w' ∧ slN v' = false := by
  refine FN_enter Try.func34 rfl rfl (by kernel_rfl) ?_
  have hnl := h.isNil (P := Try.prog) (t := 22) (by simp) w
  rw [hn] at hnl
  simp [hnl]
  have hO := (Ch.start (base := w.heap.size) (e := 30) (s := 7) (Z := []) w (Nat.le_refl _)).1
  have hE := (Ext.refl w).alloc (.cells #[] 30)
  obtain ⟨v', w2, hr, ho, hM, hv⟩ := append_own (P := Try.prog) (t := 22) (ty := 22) (e := 30) (s := 7) (by simp) (by simp) (by kernel_rfl) hO (h.ext hE) (wone l) (by omega) (by simp)
  simp [hr]
  simp at ho
  refine ⟨ho, ?_, ?_⟩
  · exact ((hE.mod (S := fun k => w.heap.size ≤ k)).trans (hM.weaken fun i hi => by have := hi.2; simp only [slB] at this; omega)).ext fun _ h => h
  · exact own_nil ho (List.length_pos_iff.2 hne)
theorem equal_c {w : World} {v v' : Value} {l l' : List Wt} (h : WSl w v l) (h' : WSl w v' l') (hb : l.length ≤ 1048576) (hb' : l'.length ≤ 1048576) :
    FN Try.prog 38 [v, v'] w fun e w' => e = .returned (.bool (decide (l = l'))) ∧ Ext w w' := by
  refine FN_enter Try.func38 rfl rfl (by kernel_rfl) ?_
  have hlen := fun ty W => h.isLen (P := Try.prog) (t := 22) (by simp) ty W
  have hlen' := fun ty W => h'.isLen (P := Try.prog) (t := 22) (by simp) ty W
  by_cases hll : l.length = l'.length
  rotate_left
  · have hll' : ¬ ((l.length : Int) = (l'.length : Int)) := by omega
    simp [hlen, hlen', hll']
    exact ⟨fun h => hll (by rw [h]), Ext.refl _⟩
  simp [hlen, hlen', hll]
  refine WC_loop (fun k ρ ds w' => ∃ i : Nat, k = l.length - i ∧ i ≤ l.length ∧ ρ 0 = v ∧ ρ 1 = v' ∧ ρ 12 = i64 l.length ∧ ρ 13 = i64 i ∧ ds = [] ∧ Ext w w' ∧ l.take i = l'.take i) l.length ⟨0, by simp, by simp, by simp, by simp, by simp [hll], by simp, rfl, Ext.refl _, rfl⟩ ?_
  rintro k ρ ds w1 ⟨i, rfl, hi, e0, e1, e12, e13, rfl, hE, heq⟩
  by_cases hlt : i < l.length
  · have hq := List.getElem?_eq_getElem hlt
    have hlt' : i < l'.length := by omega
    have hq' := List.getElem?_eq_getElem hlt'
    simp [e12, e13, hlt]
    refine WC_drawQ 9 rfl (by kernel_rfl) ?_
    have hE1 := hE.trans (Ext.drew w1)
    have r := (WSl.row h hq).ext hE1
    have r' := (WSl.row h' hq').ext hE1
    have ix := WSl.index h i hlt w1.drew
    have ix' := WSl.index h' i hlt' w1.drew
    simp [e0, e1, ix, ix', r.c0, r.c1, r.c2, r.c3, r.c4, r.c5, r.c6, r'.c0, r'.c1, r'.c2, r'.c3, r'.c4, r'.c5, r'.c6]
    by_cases hx : l[i] = l'[i]
    · simp [wtB_t hx, e0, e1, e12, e13]
      refine ⟨l'.length - (i + 1), by omega, i + 1, by omega, by omega, by rw [wrap64 _ (by omega) (by omega)]; rfl, hE1, ?_⟩
      rw [List.take_add_one, List.take_add_one, heq, hq, hq', hx]
    · simp [wtB_f hx]
      refine ⟨?_, hE1⟩
      intro hl
      subst hl
      exact hx rfl
  · simp [e12, e13, hlt]
    have : i = l.length := by omega
    rw [this, List.take_length, hll, List.take_length] at heq
    exact ⟨heq, hE⟩
theorem zWt (w : World) : (zeroValue 30).run Try.prog w = .ok (wtV ((0, 0, 0, 0), 0, 0, 0)) w := by simp
theorem flat_take (l : List Wt) (i : Nat) : (l.flatMap wtC).take (i * 7) = (l.take i).flatMap wtC := by
  induction l generalizing i with
  | nil => simp
  | cons a l ih =>
    cases i with
    | zero => simp
    | succ i =>
      rw [List.take_succ_cons, List.flatMap_cons, List.flatMap_cons, ← ih, show (i + 1) * 7 = (wtC a).length + i * 7 from by simp; omega, List.take_length_add_append]
theorem flat_drop (l : List Wt) (i : Nat) : (l.flatMap wtC).drop (i * 7) = (l.drop i).flatMap wtC := by
  induction l generalizing i with
  | nil => simp
  | cons a l ih =>
    cases i with
    | zero => simp
    | succ i =>
      rw [List.drop_succ_cons, List.flatMap_cons, ← ih, show (i + 1) * 7 = (wtC a).length + i * 7 from by simp; omega, List.drop_length_add_append]
/-- A row that one owns. -/
abbrev WOwn (w : World) (v : Value) (l : List Wt) := w.ownsRow 0 30 7 v l.length (l.flatMap wtC)
theorem delete_c {w : World} {v : Value} {l : List Wt} (h : WOwn w v l) (i : Nat) (hi : i < l.length) (hb : l.length ≤ 1048576) :
    FN Try.prog 63 [v, i64 i, i64 ((i : Int) + 1)] w fun e w' => ∃ v', e = .returned v' ∧ WOwn w' v' (l.eraseIdx i) ∧ slN v' = false ∧ slB v' = slB v ∧ Mod (· = slB v) w w' := by
  refine FN_enter Try.func63 rfl rfl (by kernel_rfl) ?_
  have hlen := fun ty W => (sl_of_own h).isLen (P := Try.prog) (t := 22) (by simp) ty W
  obtain ⟨g, cap, hv, hcap, hcm⟩ : ∃ g cap, v = .slice (some ⟨g, 0, none⟩) l.length cap ∧ l.length ≤ cap ∧ cap ≤ maxLen := by
    rcases h.2 with ⟨_, h2⟩ | ⟨g, cap, cur, hv, _, _, h3, h4, _⟩
    · omega
    · exact ⟨g, cap, hv, h3, h4⟩
  subst hv
  have s1 := fun W => sl_lhm (P := Try.prog) (t := 22) (by simp) (some ⟨g, 0, none⟩) l.length cap .i64 .i64 .i64 i ((i : Int) + 1) l.length (by omega) (by omega) (by omega) (by omega) W
  have hne : ¬ ((i : Int) = (i : Int) + 1) := by omega
  simp [hlen, s1, hne]
  refine WC_drawQ 6 rfl (by kernel_rfl) ?_
  have s2 := fun W => (sl_of_own h).sliceH (P := Try.prog) (t := 22) (by simp) .i64 i (by omega) (by omega) W
  have s3 := fun W => sl_l (P := Try.prog) (t := 22) (by simp) (some ⟨g, 0, none⟩) l.length cap .i64 ((i : Int) + 1) (by omega) (by omega) W
  have e1 : ((i : Int) + 1).toNat = i + 1 := by omega
  have ht := own_take h i (by omega)
  have hd := own_drop h (i + 1) (by omega)
  rw [flat_take] at ht
  rw [flat_drop] at hd
  have hD := Ext.drew w
  obtain ⟨w2, hr, ho, hM, hsz⟩ := append_room (P := Try.prog) (t := 22) (ty := 22) (e := 30) (s := 7) (by simp) (by simp) (by kernel_rfl) (own_ext ht hD) (hd.ext hD) (wone _) (by omega) (Nat.zero_le _) (by omega)
  simp [slcH] at s2
  simp [e1] at s3
  have hN : i + (l.length - (i + 1)) = l.length - 1 := by omega
  rw [hN] at hr ho
  have hfl : (l.take i).flatMap wtC ++ (l.drop (i + 1)).flatMap wtC = (l.eraseIdx i).flatMap wtC := by rw [← List.flatMap_append, ← List.eraseIdx_eq_take_drop_succ]
  rw [hfl] at ho
  obtain ⟨w3, hr3, ho3, hM3, hsz3⟩ := clear_tail (P := Try.prog) (t := 22) (ty := 0) (by simp) (by simp) (zWt w2) (by simp) (by omega) (by simp; decide) ho (by omega)
  have e2 : l.length - 1 + 1 = l.length := by omega
  rw [e2] at hr3
  have s4 := sl_lh (P := Try.prog) (t := 22) (by simp) (some ⟨g, 0, none⟩) (l.length - 1) cap .i64 .i64 ((l.length - 1 : Nat) : Int) l.length (by omega) (by omega) (by omega) w2
  simp at s4
  simp [s2, s3, hr, s4, hr3]
  have hel : (l.eraseIdx i).length = l.length - 1 := List.length_eraseIdx_of_lt hi
  exact ⟨by show w3.ownsRow 0 30 7 _ (l.eraseIdx i).length _; rw [hel]; exact ho3, rfl, rfl, hD.mod.trans (hM.trans hM3)⟩
end Go.Proofs
