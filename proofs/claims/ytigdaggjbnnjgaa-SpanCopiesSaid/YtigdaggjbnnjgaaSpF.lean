/-
  Contracts of the functions that the law reaches, step by step.
-/
import Derived.Test.YtigdaggjbnnjgaaSpD
import Derived.Test.YtigdaggjbnnjgaaEngX
namespace Go.Proofs
open Pk
set_option maxRecDepth 10000
/-! ### Questions -/
structure Qn where
  f : Value
  e : Int
  b : Bool
def askE : List Qn → Int
  | [] => 0
  | q :: qs => if q.b then q.e else askE qs
def askCells (qs : List Qn) : List Value := qs.flatMap fun q => [q.f, .int .i64 q.e]
theorem askCells_at : ∀ (qs : List Qn) (i : Nat) (q : Qn), qs[i]? = some q → (askCells qs)[i * 2]? = some q.f ∧ (askCells qs)[i * 2 + 1]? = some (.int .i64 q.e)
  | [], i, q, h => by simp at h
  | a :: qs, 0, q, h => by
    simp at h; subst h
    simp [askCells]
  | a :: qs, i + 1, q, h => by
    have := askCells_at qs i q (by simpa using h)
    have e1 : (i + 1) * 2 = i * 2 + 1 + 1 := by omega
    have e2 : (i + 1) * 2 + 1 = i * 2 + 1 + 1 + 1 := by omega
    rw [e1]
    simp only [askCells, List.flatMap_cons] at this ⊢
    simpa using this
theorem askE_none : ∀ (qs : List Qn), (∀ (j : Nat) (q : Qn), qs[j]? = some q → q.b = false) → askE qs = 0
  | [], _ => rfl
  | q :: qs, h => by
    have h0 := h 0 q rfl
    simp [askE, h0]
    exact askE_none qs fun j q hj => h (j + 1) q hj
theorem askE_at : ∀ (qs : List Qn) (i : Nat) (q : Qn), qs[i]? = some q → q.b = true → (∀ (j : Nat) (q : Qn), j < i → qs[j]? = some q → q.b = false) → askE qs = q.e
  | [], i, q, h, _, _ => by simp at h
  | a :: qs, 0, q, h, hb, _ => by
    simp at h; subst h
    simp [askE, hb]
  | a :: qs, i + 1, q, h, hb, hn => by
    have h0 := hn 0 a (by omega) rfl
    simp [askE, h0]
    exact askE_at qs i q (by simpa using h) hb fun j q hj hq => hn (j + 1) q (by omega) (by simpa using hq)
theorem asked_c {w : World} {v : Value} (qs : List Qn) (hs : Sl w 2 v qs.length (askCells qs)) (hb : qs.length ≤ 1000) (hf : ∀ q ∈ qs, ∃ f x y, q.f = .func f x y)
    (hq : ∀ (i : Nat) (q : Qn), qs[i]? = some q → (∀ (j : Nat) (p : Qn), j < i → qs[j]? = some p → p.b = false) → ∀ w', Ext w w' → CV Try.prog q.f [] w' fun e w'' => e = .returned (.bool q.b) ∧ Ext w' w'') :
    FN Try.prog 22 [v] w fun e w' => e = .returned (.int .i64 (askE qs)) ∧ Ext w w' := by
  refine FN_enter Try.func22 rfl rfl (by kernel_rfl) ?_
  simp
  refine WC_scope 0 _ rfl ?_
  simp [hs.isLen]
  refine WC_loop (fun k ρ ds w' => ∃ i : Nat, k = qs.length - i ∧ i ≤ qs.length ∧ ρ 5 = v ∧ ρ 6 = .int .i64 qs.length ∧ ρ 7 = .int .i64 i ∧ ds = [] ∧ Ext w w' ∧ ∀ (j : Nat) (q : Qn), j < i → qs[j]? = some q → q.b = false) qs.length ⟨0, by simp [Ext.refl]⟩ ?_
  rintro k ρ ds w1 ⟨i, rfl, hi, e5, e6, e7, rfl, hE, hno⟩
  by_cases hlt : i < qs.length
  · have hq0 : qs[i]? = some qs[i] := by simp [hlt]
    obtain ⟨c1, c2⟩ := askCells_at qs i _ hq0
    have hs1 := hs.ext hE
    have d1 := hs1.at_ _ _ c1
    have d2 := hs1.at_ _ _ c2
    rw [← Nat.add_assoc] at d2
    have hix := hs1.index (P := Try.prog) (t := 93) (by simp) .i64 i (by omega) (by omega) w1
    obtain ⟨f, x, y, hfv⟩ := hf qs[i] (by simp)
    have hcall := hq i _ hq0 hno
    rw [hfv] at d1 hcall
    simp [e5, e6, e7, hlt, hix, d1, d2]
    have hE1 := (Ext.refl w1).alloc (.cells #[.func f x y, .int .i64 qs[i].e] 70)
    refine CV.mono (hcall _ (hE.trans hE1)) ?_
    rintro _ w2 ⟨rfl, hE2⟩
    cases hqb : qs[i].b with
    | true =>
      simp
      exact ⟨(askE_at qs i _ hq0 hqb hno).symm, (hE.trans hE1).trans hE2⟩
    | false =>
      simp [e5, e6, e7]
      refine ⟨qs.length - (i + 1), by omega, i + 1, rfl, by omega, ?_, (hE.trans hE1).trans hE2, ?_⟩
      · rw [wrap64 _ (by omega) (by omega)]; rfl
      · intro j q hj hjq
        rcases Nat.lt_succ_iff_lt_or_eq.1 hj with h1 | rfl
        · exact hno j q h1 hjq
        · rw [hq0] at hjq; cases hjq; exact hqb
  · simp [e6, e7, hlt]
    exact ⟨(askE_none qs fun j q hj => hno j q (by have := (List.getElem?_eq_some_iff.1 hj).1; omega) hj).symm, hE⟩

/-! ### Set -/
structure St where
  f : Int
  t : Int
  a : Int
  k : Int
def stCells (s : St) : List Value := [u32 s.f, u32 s.t, u64 s.a, u64 s.k]
abbrev stV (s : St) : Value := .agg #[u32 s.f, u32 s.t, u64 s.a, u64 s.k]
def badS (s : St) : Bool := decide (min s.f s.t = 0) || decide (s.f = s.t) || decide (4611686018427387903 ≤ s.a) || decide (1099511627776 < s.k)
/-- A step's cells, in a block. -/
structure StAt (w : World) (b : Nat) (s : St) : Prop where
  c0 : w.cell? ⟨b, 0, none⟩ = some (u32 s.f)
  c1 : w.cell? ⟨b, 1, none⟩ = some (u32 s.t)
  c2 : w.cell? ⟨b, 2, none⟩ = some (u64 s.a)
  c3 : w.cell? ⟨b, 3, none⟩ = some (u64 s.k)
theorem StAt.ext {w w' : World} {b : Nat} {s : St} (h : StAt w b s) (hE : Ext w w') : StAt w' b s := ⟨hE.cell_eq h.c0, hE.cell_eq h.c1, hE.cell_eq h.c2, hE.cell_eq h.c3⟩
theorem StAt.new (w : World) (s : St) (t : TypeId) : StAt (w.alloc (.cells #[u32 s.f, u32 s.t, u64 s.a, u64 s.k] t)) w.heap.size s :=
  ⟨cells_new w _ t 0, cells_new w _ t 1, cells_new w _ t 2, cells_new w _ t 3⟩
theorem set1_c {w : World} {b : Nat} {s : St} (h : StAt w b s) : FN Try.prog 24 [ptr b] w fun e w' => e = .returned (.bool (badS s)) ∧ w' = w := by
  refine FN_enter Try.func24 rfl rfl (by kernel_rfl) ?_
  simp [h.c0, h.c1]
  cases h1 : (min s.f s.t == 0) with
  | true =>
    have : min s.f s.t = 0 := by simpa using h1
    simp [badS, this]
  | false =>
    have h1' : ¬ min s.f s.t = 0 := by simpa using h1
    simp [h.c0, h.c1]
    cases h2 : (s.f == s.t) with
    | true =>
      have : s.f = s.t := by simpa using h2
      simp [badS, this]
    | false =>
      have h2' : ¬ s.f = s.t := by simpa using h2
      simp [h.c2]
      by_cases h3 : 4611686018427387903 ≤ s.a
      · simp [badS, h3]
      · simp [badS, h3, h1', h2', h.c3]
theorem set2_c {w : World} {b0 b1 b2 t R : Nat} {M : ME} {s : St} (v0 : Var w b0 (ptr t)) (c0 : w.cell? ⟨b1, 0, none⟩ = some (u32 s.f)) (c1 : w.cell? ⟨b1, 1, none⟩ = some (u32 s.t)) (hs : StAt w b2 s) (ht : TabAt w t R M) :
    FN Try.prog 25 [ptr b0, ptr b1, ptr b2] w fun e w' => e = .returned (.bool ((mget (sps M (s.f, s.t)) s.a).isNone && decide (512 ≤ total M))) ∧ Ext w w' := by
  refine FN_enter Try.func25 rfl rfl (by kernel_rfl) ?_
  simp [v0.cell, c0, c1, hs.c2]
  refine FN.mono (has_c ht s.f s.t s.a) ?_
  rintro _ w1 ⟨rfl, hE⟩
  cases hg : mget (sps M (s.f, s.t)) s.a with
  | some u =>
    simp
    exact hE
  | none =>
    simp [(v0.ext hE).cell]
    refine FN.mono (full_c (ht.ext hE)) ?_
    rintro _ _ ⟨rfl, hw⟩
    subst hw
    simp
    exact hE
def setE (M : ME) (s : St) : Int := if badS s then 2 else if (mget (sps M (s.f, s.t)) s.a).isNone && decide (512 ≤ total M) then 280 else 0
def wasS (M : ME) (s : St) : Bool := decide (setE M s = 0) && (mget (sps M (s.f, s.t)) s.a).isSome
/-- Ahead of the write: there is a map for the pair. -/
structure PreS (w : World) (t R : Nat) (M : ME) (s : St) (W : World) (M1 : ME) (r : Nat) : Prop where
  cnt : W.cell? ⟨t, 0, none⟩ = some (.int .i64 (total M))
  thaw : W.frozen? ⟨t, 0, none⟩ = false
  cell : W.cell? ⟨t, 1, none⟩ = some (.map (some R))
  map : MapAt ekP ewN W R M1
  inner : ∀ x ∈ M1, MA W x.2.1 x.2.2
  refs : (M1.map (·.2.1)).Nodup
  notR : ∀ x ∈ M1, x.2.1 ≠ R
  full : ∀ x ∈ M1, x.1 ≠ (s.f, s.t) → x.2.2 ≠ []
  get : mget M1 (s.f, s.t) = some (r, sps M (s.f, s.t))
  oth : ∀ q, q ≠ (s.f, s.t) → mget M1 q = mget M q
  tot : total M1 = total M
  foot : ∀ k, Foot t R M1 k → Foot t R M k ∨ w.heap.size ≤ k
  mod : Mod (Foot t R M) w W
  v0 : Var W w.heap.size (ptr t)
  st : StAt W (w.heap.size + 1) s
  p0 : W.cell? ⟨w.heap.size + 1 + 1, 0, none⟩ = some (u32 s.f)
  p1 : W.cell? ⟨w.heap.size + 1 + 1, 1, none⟩ = some (u32 s.t)
theorem total_eq (M : ME) : total M = tot (fun x : Nat × ML => x.2.length) M := rfl
theorem PreS.some' {w W : World} {t R r : Nat} {l : ML} {M : ME} {s : St} (ht : TabAt W t R M) (hg : mget M (s.f, s.t) = some (r, l)) (hM : Mod (Foot t R M) w W) (v0 : Var W w.heap.size (ptr t)) (st : StAt W (w.heap.size + 1) s)
    (p0 : W.cell? ⟨w.heap.size + 1 + 1, 0, none⟩ = some (u32 s.f)) (p1 : W.cell? ⟨w.heap.size + 1 + 1, 1, none⟩ = some (u32 s.t)) : PreS w t R M s W M r :=
  ⟨ht.cnt, ht.thaw, ht.cell, ht.map, ht.inner, ht.refs, ht.notR, fun x hx _ => ht.full x hx, by rw [hg]; simp [sps, hg], fun _ _ => rfl, rfl, fun k h => .inl h, hM, v0, st, p0, p1⟩
theorem map_off {κ ν : Type} {ek : κ → Value} {ew : ν → Value} {w w' : World} {r : Nat} {m : List (κ × ν)} (h : MapAt ek ew w r m) (hM : Mod (· = r) w w') {a : Addr} {v : Value} (ha : w.cell? a = some v) : w'.cell? a = some v :=
  (h.cells hM a (by rw [ha]; rfl)).trans ha
theorem var_off {κ ν : Type} {ek : κ → Value} {ew : ν → Value} {w w' : World} {r b : Nat} {v : Value} {m : List (κ × ν)} (h : MapAt ek ew w r m) (hM : Mod (· = r) w w') (hv : Var w b v) : Var w' b v := by
  refine hv.mod hM fun e => ?_
  subst e
  obtain ⟨⟨es, c, h1, _⟩, _⟩ := h
  have := hv.cell
  unfold World.cell? at this
  simp only [h1] at this
  cases this
theorem st_off {κ ν : Type} {ek : κ → Value} {ew : ν → Value} {w w' : World} {r b : Nat} {s : St} {m : List (κ × ν)} (h : MapAt ek ew w r m) (hM : Mod (· = r) w w') (hs : StAt w b s) : StAt w' b s :=
  ⟨map_off h hM hs.c0, map_off h hM hs.c1, map_off h hM hs.c2, map_off h hM hs.c3⟩
theorem thaw_off {κ ν : Type} {ek : κ → Value} {ew : ν → Value} {w w' : World} {r : Nat} {m : List (κ × ν)} (h : MapAt ek ew w r m) (hM : Mod (· = r) w w') {a : Addr} {v : Value} (ha : w.cell? a = some v) (hf : w.frozen? a = false) : w'.frozen? a = false := by
  have hne : a.block ≠ r := fun e => by
    obtain ⟨⟨es, c, h1, _⟩, _⟩ := h
    obtain ⟨c', t', fr', h2⟩ := cell_blk ha
    rw [e, h1] at h2; cases h2
  have hb := hM.blk a.block (World.block_lt_of_cell? _ _ ha) hne
  rw [← hf]; unfold World.frozen?; rw [hb]
/-- A new map is laid for the pair. -/
theorem PreS.none' {w W W' : World} {t R r : Nat} {M : ME} {s : St} (ht : TabAt W t R M) (hg : mget M (s.f, s.t) = none) (hM : Mod (Foot t R M) w W) (v0 : Var W w.heap.size (ptr t)) (st : StAt W (w.heap.size + 1) s)
    (p0 : W.cell? ⟨w.heap.size + 1 + 1, 0, none⟩ = some (u32 s.f)) (p1 : W.cell? ⟨w.heap.size + 1 + 1, 1, none⟩ = some (u32 s.t)) (hr : MA W r []) (hfr : w.heap.size ≤ r) (hnf : ¬ Foot t R M r) (hm : MapAt ekP ewN W' R (mset M (s.f, s.t) (r, []))) (hM' : Mod (· = R) W W') :
    PreS w t R M s W' (mset M (s.f, s.t) (r, [])) r := by
  have hmem : ∀ x ∈ mset M (s.f, s.t) (r, ([] : ML)), x = ((s.f, s.t), (r, [])) ∨ x ∈ M := fun x hx => by
    rcases kset_mem hx with h | h
    · exact .inl h
    · exact .inr h.1
  refine ⟨map_off ht.map hM' ht.cnt, thaw_off ht.map hM' ht.cnt ht.thaw, map_off ht.map hM' ht.cell, hm, ?_, ?_, ?_, ?_, ?_, ?_, ?_, ?_, ?_, var_off ht.map hM' v0, st_off ht.map hM' st, map_off ht.map hM' p0, map_off ht.map hM' p1⟩
  · intro x hx
    rcases hmem x hx with rfl | hx
    · exact hr.mod hM' (fun e => hnf (.inr (.inl e)))
    · exact (ht.inner x hx).mod hM' (ht.notR x hx)
  · unfold mset
    rw [hg]
    simp only [Option.isSome_none, Bool.false_eq_true, if_false, List.map_append, List.map_cons, List.map_nil]
    rw [List.nodup_append]
    refine ⟨ht.refs, by simp, fun a ha b hb => ?_⟩
    simp at hb
    subst hb
    rintro rfl
    obtain ⟨x, hx, e⟩ := List.mem_map.1 ha
    exact hnf (.inr (.inr ⟨x, hx, e.symm⟩))
  · intro x hx
    rcases hmem x hx with rfl | hx
    · exact fun e => hnf (.inr (.inl e))
    · exact ht.notR x hx
  · intro x hx hne
    rcases hmem x hx with rfl | hx
    · exact (hne rfl).elim
    · exact ht.full x hx
  · rw [kget_mset, if_pos rfl]
    simp [sps, hg]
  · intro q hq
    rw [kget_mset, if_neg hq]
  · have := tot_set (fun x : Nat × ML => x.2.length) ht.map.nodup (s.f, s.t) (r, ([] : ML))
    rw [hg] at this
    simpa [total_eq] using this
  · rintro k (h | h | ⟨x, hx, h⟩)
    · exact .inl (.inl h)
    · exact .inl (.inr (.inl h))
    · rcases hmem x hx with rfl | hx
      · right; rw [h]; exact hfr
      · exact .inl (.inr (.inr ⟨x, hx, h⟩))
  · exact hM.trans (hM'.weaken fun i hi => .inr (.inl hi))
theorem refs_off {M : ME} (hn : (M.map (·.1)).Nodup) (hr : (M.map (·.2.1)).Nodup) {p : PK} {r : Nat} {l : ML} (hg : mget M p = some (r, l)) : ∀ x ∈ M, x.1 ≠ p → x.2.1 ≠ r := by
  intro x hx hne e
  have hm := kget_mem hg
  obtain ⟨i, hi, rfl⟩ := List.mem_iff_getElem.1 hx
  obtain ⟨j, hj, e2⟩ := List.mem_iff_getElem.1 hm
  have h1 : (M.map (·.2.1))[i]'(by simpa using hi) = (M.map (·.2.1))[j]'(by simpa using hj) := by simp [e, e2]
  have := (List.getElem_inj hr).1 h1
  subst this
  rw [e2] at hne
  exact hne rfl
theorem PreS.done {w W W' : World} {t R r : Nat} {M M1 : ME} {s : St} (h : PreS w t R M s W M1 r) (n : Nat) (hn : n = (if (mget (sps M (s.f, s.t)) s.a).isSome then total M else total M + 1))
    (hi : MA W' r (mset (sps M (s.f, s.t)) s.a s.k)) (hM' : Mod (fun k => k = t ∨ k = r) W W') (hc : W'.cell? ⟨t, 0, none⟩ = some (.int .i64 n)) (hf : W'.frozen? ⟨t, 0, none⟩ = false) (hs : W'.cell? ⟨t, 1, none⟩ = some (.map (some R))) :
    ∃ M', TabAt W' t R M' ∧ Mod (Foot t R M) w W' ∧ (∀ k, Foot t R M' k → Foot t R M k ∨ w.heap.size ≤ k) ∧ (∀ q, sps M' q = if q = (s.f, s.t) then mset (sps M q) s.a s.k else sps M q) ∧ total M' = n := by
  have ht0 := cell_blk h.cnt
  have notT : ∀ {κ ν : Type} {ek : κ → Value} {ew : ν → Value} {r' : Nat} {m : List (κ × ν)}, MapAt ek ew W r' m → r' ≠ t := by
    rintro κ ν ek ew r' m ⟨⟨es, c, h1, _⟩, _⟩ e
    obtain ⟨c', t', fr', h2⟩ := ht0
    simp only at h2
    rw [← e, h1] at h2; cases h2
  have hro := refs_off h.map.nodup h.refs h.get
  have hmm := kget_mem h.get
  have hrR : R ≠ r := fun e => h.notR _ hmm e.symm
  have htt := tot_set (fun x : Nat × ML => x.2.length) h.map.nodup (s.f, s.t) (r, mset (sps M (s.f, s.t)) s.a s.k)
  rw [h.get] at htt
  simp only [← total_eq, h.tot, kset_len] at htt
  have hn' : total (mset M1 (s.f, s.t) (r, mset (sps M (s.f, s.t)) s.a s.k)) = n := by
    cases hh : (mget (sps M (s.f, s.t)) s.a).isSome <;> simp only [hh, if_true, if_false, Bool.false_eq_true] at htt hn <;> omega
  have hmem : ∀ x ∈ mset M1 (s.f, s.t) (r, mset (sps M (s.f, s.t)) s.a s.k), x = ((s.f, s.t), (r, mset (sps M (s.f, s.t)) s.a s.k)) ∨ x ∈ M1 ∧ x.1 ≠ (s.f, s.t) := fun x hx => kset_mem hx
  refine ⟨_, ⟨by rw [hn']; exact hc, hf, hs, ?_, ?_, ?_, ?_, ?_⟩, ?_, ?_, ?_, hn'⟩
  · have hk := h.map.mod hM' (fun e => by rcases e with e | e; exact notT h.map e; exact hrR e)
    obtain ⟨⟨es, c, h1, h2, h3⟩, h4⟩ := hk
    refine ⟨⟨es, c, h1, ?_, h3⟩, kset_nodup h4 _ _⟩
    rw [h2]
    exact (kset_map (v := (r, mset (sps M (s.f, s.t)) s.a s.k)) h4 h.get (fun p => (ekP p.1, ewN p.2)) rfl).symm
  · intro x hx
    rcases hmem x hx with rfl | ⟨hx, hne⟩
    · exact hi
    · exact (h.inner x hx).mod hM' (fun e => by rcases e with e | e; exact notT (h.inner x hx) e; exact hro x hx hne e)
  · rw [kset_map (v := (r, mset (sps M (s.f, s.t)) s.a s.k)) h.map.nodup h.get (fun p => p.2.1) rfl]
    exact h.refs
  · intro x hx
    rcases hmem x hx with rfl | ⟨hx, hne⟩
    · exact fun e => hrR e.symm
    · exact h.notR x hx
  · intro x hx
    rcases hmem x hx with rfl | ⟨hx, hne⟩
    · intro e
      have := kget_mset (sps M (s.f, s.t)) s.a s.k s.a
      simp only at e
      rw [e] at this
      simp [kget_nil] at this
    · exact h.full x hx hne
  · refine h.mod.trans' hM' fun i hi => ?_
    rcases hi with rfl | rfl
    · exact .inl (.inl rfl)
    · rcases h.foot i (.inr (.inr ⟨_, hmm, rfl⟩)) with h' | h'
      · exact .inl h'
      · exact .inr h'
  · rintro k (h' | h' | ⟨x, hx, h'⟩)
    · exact .inl (.inl h')
    · exact .inl (.inr (.inl h'))
    · rcases hmem x hx with rfl | ⟨hx, hne⟩
      · exact h.foot k (.inr (.inr ⟨_, hmm, h'⟩))
      · exact h.foot k (.inr (.inr ⟨x, hx, h'⟩))
  · intro q
    by_cases hq : q = (s.f, s.t)
    · subst hq
      rw [if_pos rfl]
      simp [sps, kget_mset]
    · rw [if_neg hq]
      simp only [sps, kget_mset, hq, if_false]
      rw [h.oth q hq]
/-- What the write reads. -/
structure PreC (w : World) (t R : Nat) (s : St) (W : World) (M1 : ME) (r : Nat) (l : ML) : Prop where
  cell : W.cell? ⟨t, 1, none⟩ = some (.map (some R))
  map : MapAt ekP ewN W R M1
  inn : MA W r l
  v0 : Var W w.heap.size (ptr t)
  st : StAt W (w.heap.size + 1) s
  p0 : W.cell? ⟨w.heap.size + 1 + 1, 0, none⟩ = some (u32 s.f)
  p1 : W.cell? ⟨w.heap.size + 1 + 1, 1, none⟩ = some (u32 s.t)
theorem PreC.ext {w W W' : World} {t R r : Nat} {s : St} {M1 : ME} {l : ML} (h : PreC w t R s W M1 r l) (hE : Ext W W') : PreC w t R s W' M1 r l :=
  ⟨hE.cell_eq h.cell, h.map.ext hE, h.inn.ext hE, h.v0.ext hE, h.st.ext hE, hE.cell_eq h.p0, hE.cell_eq h.p1⟩
theorem not_cells {κ ν : Type} {ek : κ → Value} {ew : ν → Value} {W : World} {r : Nat} {m : List (κ × ν)} {a : Addr} {v : Value} (hm : MapAt ek ew W r m) (hc : W.cell? a = some v) : r ≠ a.block := by
  obtain ⟨⟨es, c, h1, _⟩, _⟩ := hm
  obtain ⟨c', t', fr', h2⟩ := cell_blk hc
  rintro rfl
  rw [h1] at h2; cases h2
theorem PreC.set {w W : World} {t R r : Nat} {s : St} {M1 : ME} {l : ML} (h : PreC w t R s W M1 r l) (ht : t < w.heap.size) (u : Value) : PreC w t R s (W.setCell ⟨t, 0, none⟩ u) M1 r l := by
  have hM := Mod.setCell (S := (· = t)) (Mod.refl _ W) ⟨t, 0, none⟩ u (.inl rfl)
  refine ⟨?_, h.map.mod hM (not_cells h.map h.cell), h.inn.mod hM (not_cells h.inn h.cell), h.v0.mod hM (by omega), ⟨hM.cell h.st.c0 (by simp only; omega), hM.cell h.st.c1 (by simp only; omega), hM.cell h.st.c2 (by simp only; omega), hM.cell h.st.c3 (by simp only; omega)⟩, hM.cell h.p0 (by simp only; omega), hM.cell h.p1 (by simp only; omega)⟩
  rw [World.cell?_setCell_other _ _ _ _ (by simp)]
  exact h.cell
theorem PreS.pc {w W : World} {t R r : Nat} {M M1 : ME} {s : St} (h : PreS w t R M s W M1 r) : PreC w t R s W M1 r (sps M (s.f, s.t)) :=
  ⟨h.cell, h.map, h.inner _ (kget_mem h.get), h.v0, h.st, h.p0, h.p1⟩
set_option maxHeartbeats 2000000 in
theorem set_c {w : World} {t R : Nat} {M : ME} (ht : TabAt w t R M) (hfew : total M ≤ 1048576) (s : St) : FN Try.prog 8 [ptr t, stV s] w fun e w' => e = .returned (.tuple #[.bool (wasS M s), .int .i64 (setE M s)]) ∧ ∃ M', TabAt w' t R M' ∧ Mod (Foot t R M) w w' ∧ (∀ k, Foot t R M' k → Foot t R M k ∨ w.heap.size ≤ k) ∧
    (∀ q, sps M' q = if setE M s = 0 ∧ q = (s.f, s.t) then mset (sps M q) s.a s.k else sps M q) ∧ total M' = (if setE M s = 0 ∧ wasS M s = false then total M + 1 else total M) := by
  refine FN_enter Try.func8 rfl rfl (by kernel_rfl) ?_
  simp
  have he : Ext w (((w.alloc (.cells #[ptr t] 28)).alloc (.cells #[u32 s.f, u32 s.t, u64 s.a, u64 s.k] 35)).alloc (.cells #[u32 s.f, u32 s.t] 67)) := (((Ext.refl w).alloc _).alloc _).alloc _
  have v0 : Var (((w.alloc (.cells #[ptr t] 28)).alloc (.cells #[u32 s.f, u32 s.t, u64 s.a, u64 s.k] 35)).alloc (.cells #[u32 s.f, u32 s.t] 67)) w.heap.size (ptr t) := (Var.new w _ _).ext (((Ext.refl _).alloc _).alloc _)
  have hs : StAt (((w.alloc (.cells #[ptr t] 28)).alloc (.cells #[u32 s.f, u32 s.t, u64 s.a, u64 s.k] 35)).alloc (.cells #[u32 s.f, u32 s.t] 67)) (w.heap.size + 1) s := by
    have := (StAt.new (w.alloc (.cells #[ptr t] 28)) s 35).ext ((Ext.refl _).alloc (.cells #[u32 s.f, u32 s.t] 67))
    simpa using this
  have p0 : (((w.alloc (.cells #[ptr t] 28)).alloc (.cells #[u32 s.f, u32 s.t, u64 s.a, u64 s.k] 35)).alloc (.cells #[u32 s.f, u32 s.t] 67)).cell? ⟨w.heap.size + 1 + 1, 0, none⟩ = some (u32 s.f) := by
    simp
  have p1 : (((w.alloc (.cells #[ptr t] 28)).alloc (.cells #[u32 s.f, u32 s.t, u64 s.a, u64 s.k] 35)).alloc (.cells #[u32 s.f, u32 s.t] 67)).cell? ⟨w.heap.size + 1 + 1, 1, none⟩ = some (u32 s.t) := by
    simp
  have hsz : (((w.alloc (.cells #[ptr t] 28)).alloc (.cells #[u32 s.f, u32 s.t, u64 s.a, u64 s.k] 35)).alloc (.cells #[u32 s.f, u32 s.t] 67)).heap.size = w.heap.size + 1 + 1 + 1 := by simp
  generalize (((w.alloc (.cells #[ptr t] 28)).alloc (.cells #[u32 s.f, u32 s.t, u64 s.a, u64 s.k] 35)).alloc (.cells #[u32 s.f, u32 s.t] 67)) = w1 at *
  have ht1 := ht.ext he
  let qs : List Qn := [⟨.func (.func 23) #[ptr t] #[], 1, false⟩, ⟨.func (.func 24) #[] #[ptr (w.heap.size + 1)], 2, badS s⟩,
    ⟨.func (.func 25) #[] #[ptr w.heap.size, ptr (w.heap.size + 1 + 1), ptr (w.heap.size + 1)], 280, (mget (sps M (s.f, s.t)) s.a).isNone && decide (512 ≤ total M)⟩]
  have hsl := Sl.made w1 (askCells qs) 70 2 3 rfl
  rw [hsz] at hsl
  have he3 := (Ext.refl w1).alloc (.cells (askCells qs).toArray 70)
  refine FN.mono (asked_c qs hsl (by simp [qs]) ?_ ?_) ?_
  · intro q hq
    simp [qs] at hq
    rcases hq with rfl | rfl | rfl <;> exact ⟨_, _, _, rfl⟩
  · intro i q hq hno w' hw'
    have hx := he3.trans hw'
    match i, hq with
    | 0, hq =>
      simp [qs] at hq; subst hq
      exact FN.mono (none_c (ht1.ext hx)) fun _ _ h => ⟨h.1, h.2 ▸ Ext.refl _⟩
    | 1, hq =>
      simp [qs] at hq; subst hq
      exact FN.mono (set1_c (hs.ext hx)) fun _ _ h => ⟨h.1, h.2 ▸ Ext.refl _⟩
    | 2, hq =>
      simp [qs] at hq; subst hq
      exact set2_c (v0.ext hx) (hx.cell_eq p0) (hx.cell_eq p1) (hs.ext hx) (ht1.ext hx)
    | i + 3, hq => simp [qs] at hq
  · rintro _ w3 ⟨rfl, h2⟩
    have hE : askE qs = setE M s := by
      simp [qs, askE, setE]
    rw [hE]
    have hx := he3.trans h2
    have hX := he.trans hx
    have ht3 := ht1.ext hx
    have v03 := v0.ext hx
    have hs3 := hs.ext hx
    have p03 := hx.cell_eq p0
    have p13 := hx.cell_eq p1
    by_cases h0 : setE M s = 0
    · simp [h0]
      refine WC_drawQ 5 rfl (by kernel_rfl) ?_
      have hd := Ext.drew w3
      have ht4 := ht3.ext hd
      have hnF : ∀ k, Foot t R M k → k < w.heap.size := ht.lt
      refine with_tail (T := ∀ (σ : Env) (W : World), (σ 2 = ptr w.heap.size ∧ σ 3 = ptr (w.heap.size + 1) ∧ σ 6 = ptr (w.heap.size + 1 + 1)) ∧ (∃ M1 r, PreS w t R M s W M1 r) → FN Try.prog 26 [ptr t, .agg #[u32 s.f, u32 s.t], u64 s.a] W (RC (some 41) ?K ?Q σ [])) (fun tail => ?_) ?_
      rotate_left 2
      · cases hg : mget M (s.f, s.t) with
        | none =>
          have hmv : mv M (s.f, s.t) = .map none := by simp [mv, hg]
          simp [(v03.ext hd).cell, hd.cell_eq p03, hd.cell_eq p13, ht4.cell, ht4.find, hmv]
          refine WC_drawC 6 (.F 0 <| .F 1 <| .F 2 <| .F 3 <| .F 4 <| .C 5 <| .Z) (fun _ => false) rfl (by kernel_rfl) fun W hW => ?_
          have hWE : Ext w3.drew W := hW ▸ Ext.drew _
          have hx5 := hd.trans hWE
          simp [(v03.ext hx5).cell, hx5.cell_eq p03, hx5.cell_eq p13, (ht4.ext hWE).cell]
          have hm0 := MapAt.alloc0 (Value.int .u64) (Value.int .u64) W
          have hWA := (Ext.refl W).alloc (.map #[] 0)
          have hsW := (hX.trans hx5).size
          refine KR_ext hWA ?_
          obtain ⟨r, hr⟩ : ∃ r, r = W.heap.size := ⟨_, rfl⟩
          obtain ⟨W5, hW5⟩ : ∃ W5, W5 = W.alloc (.map #[] 0) := ⟨_, rfl⟩
          rw [← hr, ← hW5] at hm0 ⊢
          rw [← hW5] at hWA
          have hx6 := hx5.trans hWA
          have ht6 := ht3.ext hx6
          obtain ⟨W6, hu, hm, hM, hsz6⟩ := ht6.map.update (P := Try.prog) k67 tm61 (s.f, s.t) (r, [])
          have hP := PreS.none' (w := w) ht6 hg (hX.trans hx6).mod (v03.ext hx6) (hs3.ext hx6) (hx6.cell_eq p03) (hx6.cell_eq p13) hm0 (by omega) (fun h => by have := hnF _ h; omega) hm hM
          simp [ekP, pkc, ewN] at hu
          simp [hu, hP.v0.cell, hP.st.c2, hP.p0, hP.p1]
          refine tail _ _ ⟨?_, _, _, hP⟩
          simp
        | some x =>
          obtain ⟨r, l⟩ := x
          have hmv : mv M (s.f, s.t) = .map (some r) := by simp [mv, hg, ewN]
          simp [(v03.ext hd).cell, hd.cell_eq p03, hd.cell_eq p13, ht4.cell, ht4.find, hmv, (hs3.ext hd).c2]
          refine tail _ _ ⟨?_, _, _, PreS.some' ht4 hg (hX.trans hd).mod (v03.ext hd) (hs3.ext hd) (hd.cell_eq p03) (hd.cell_eq p13)⟩
          simp
      · rintro σ W ⟨⟨e2, e3, e6⟩, M1, r, hP⟩
        have hmv : mv M1 (s.f, s.t) = .map (some r) := by simp [mv, hP.get, ewN]
        have hsp : sps M1 (s.f, s.t) = sps M (s.f, s.t) := by simp [sps, hP.get]
        have hir := hP.inner _ (kget_mem hP.get)
        have hh := has_c' (f := s.f) (g := s.t) hP.cell hP.map (by rw [hmv, hsp]; exact hir.val) s.a
        rw [hsp] at hh
        refine FN.mono hh ?_
        rintro _ W1 ⟨rfl, hE1⟩
        have htl := hnF t (.inl rfl)
        cases hh : mget (sps M (s.f, s.t)) s.a with
        | none =>
          have hC1 := hP.pc.ext hE1
          have c1 := hE1.cell_eq hP.cnt
          have f1 : W1.frozen? ⟨t, 0, none⟩ = false := by
            have hb := hE1.blk t (World.block_lt_of_cell? _ _ hP.cell)
            rw [← hP.thaw]; unfold World.frozen?; simp only [hb]
          simp [e2, hC1.v0.cell, c1, f1]
          rw [wrap64 _ (by omega) (by omega)]
          have hC2 := (hC1.set htl (.int .i64 ((total M : Int) + 1))).ext (Ext.drew _)
          have c2 : (W1.setCell ⟨t, 0, none⟩ (.int .i64 ((total M : Int) + 1))).cell? ⟨t, 0, none⟩ = some (.int .i64 ((total M : Int) + 1)) := World.cell?_setCell_same _ _ _ c1
          have f2 : (W1.setCell ⟨t, 0, none⟩ (.int .i64 ((total M : Int) + 1))).frozen? ⟨t, 0, none⟩ = false := by rw [World.frozen?_setCell]; exact f1
          have hM2 : Mod (fun k => k = t ∨ k = r) W (W1.setCell ⟨t, 0, none⟩ (.int .i64 ((total M : Int) + 1))) := hE1.mod.trans (Mod.setCell (Mod.refl _ W1) ⟨t, 0, none⟩ _ (.inl (.inl rfl)))
          generalize (W1.setCell ⟨t, 0, none⟩ (.int .i64 ((total M : Int) + 1))) = W2 at *
          refine WC_drawQ 10 rfl (by kernel_rfl) ?_
          obtain ⟨W3, hu, hm3, hM3, hsz3⟩ := hC2.inn.update (P := Try.prog) k23 tm72 s.a s.k
          simp [e2, e3, e6, hC2.v0.cell, hC2.p0, hC2.p1, hC2.cell, find' hC2.map, hmv, hC2.st.c2, hC2.st.c3, hu]
          have hwas : wasS M s = false := by simp [wasS, hh]
          have hd2 := Ext.drew W2
          obtain ⟨M', g1, g2, g3, g4, g5⟩ := hP.done (total M + 1) (by simp [hh]) hm3 (hM2.trans (hd2.mod.trans (hM3.weaken fun i hi => .inr hi))) (by push_cast; exact map_off hC2.inn hM3 (hd2.cell_eq c2))
            (thaw_off hC2.inn hM3 (hd2.cell_eq c2) (by simpa using f2)) (map_off hC2.inn hM3 hC2.cell)
          exact ⟨by simp [hwas], M', g1, g2, g3, fun a b => by simpa using g4 (a, b), by simp [hwas, g5]⟩
        | some u =>
          simp
          refine WC_drawQ 10 rfl (by kernel_rfl) ?_
          have hE2 := hE1.trans (Ext.drew W1)
          have hC2 := hP.pc.ext hE2
          have c2 := hE2.cell_eq hP.cnt
          have f2 : W1.drew.frozen? ⟨t, 0, none⟩ = false := by
            have hb := hE2.blk t (World.block_lt_of_cell? _ _ hP.cell)
            rw [← hP.thaw]; unfold World.frozen?; simp only [hb]
          obtain ⟨W3, hu, hm3, hM3, hsz3⟩ := hC2.inn.update (P := Try.prog) k23 tm72 s.a s.k
          simp [e2, e3, e6, hC2.v0.cell, hC2.p0, hC2.p1, hC2.cell, find' hC2.map, hmv, hC2.st.c2, hC2.st.c3, hu]
          have hwas : wasS M s = true := by simp [wasS, h0, hh]
          obtain ⟨M', g1, g2, g3, g4, g5⟩ := hP.done (total M) (by simp [hh]) hm3 (hE2.mod.trans (hM3.weaken fun i hi => .inr hi)) (map_off hC2.inn hM3 c2)
            (thaw_off hC2.inn hM3 c2 f2) (map_off hC2.inn hM3 hC2.cell)
          exact ⟨by simp [hwas], M', g1, g2, g3, fun a b => by simpa using g4 (a, b), by simp [hwas, g5]⟩
    · have hb : (setE M s != 0) = true := by simpa using h0
      have hw : wasS M s = false := by simp [wasS, h0]
      simp [h0, hb, hw]
      exact ⟨M, ht3, hX.mod, fun k h => .inl h, fun _ _ => rfl, rfl⟩
end Go.Proofs
namespace Go.Proofs
open Pk
set_option maxRecDepth 10000
theorem new_obj (w : World) (o : Obj) : (w.alloc o).heap[w.heap.size]? = some o := World.alloc_heap_new w o
def hasS (M : ME) (f g a : Int) : Bool := (mget (sps M (f, g)) a).isSome
theorem drop1_c {w : World} {b0 b1 b2 t R : Nat} {M : ME} {f g a : Int} (v0 : Var w b0 (ptr t)) (c0 : w.cell? ⟨b1, 0, none⟩ = some (u32 f)) (c1 : w.cell? ⟨b1, 1, none⟩ = some (u32 g)) (va : Var w b2 (u64 a)) (ht : TabAt w t R M) :
    FN Try.prog 47 [ptr b0, ptr b1, ptr b2] w fun e w' => e = .returned (.bool (!hasS M f g a)) ∧ Ext w w' := by
  refine FN_enter Try.func47 rfl rfl (by kernel_rfl) ?_
  simp [v0.cell, c0, c1, va.cell]
  refine FN.mono (has_c ht f g a) ?_
  rintro _ w1 ⟨rfl, hE⟩
  simp [hasS]
  exact hE
structure PreD (w : World) (t R : Nat) (M : ME) (p : PK) (a : Int) (W W' : World) (r : Nat) (l : ML) : Prop where
  tab : TabAt W t R M
  get : mget M p = some (r, l)
  has : (mget l a).isSome = true
  inn : MA W' r (mdel l a)
  mod : Mod (fun k => k = t ∨ k = R ∨ k = r) W W'
  cnt : W'.cell? ⟨t, 0, none⟩ = some (.int .i64 ((total M : Int) - 1))
  thaw : W'.frozen? ⟨t, 0, none⟩ = false
  cell : W'.cell? ⟨t, 1, none⟩ = some (.map (some R))
theorem len_le_total {M : ME} {p : PK} {r : Nat} {l : ML} (hn : (M.map (·.1)).Nodup) (hg : mget M p = some (r, l)) : l.length ≤ total M := by
  have := tot_del (fun x : Nat × ML => x.2.length) hn p
  rw [hg] at this
  simp only [← total_eq] at this
  omega
theorem PreD.done {w W W' : World} {t R r : Nat} {M M1 : ME} {p : PK} {a : Int} {l : ML} (h : PreD w t R M p a W W' r l) (hm : MapAt ekP ewN W' R M1) (h1 : M1 = if mdel l a = [] then mdel M p else M) :
    ∃ M', TabAt W' t R M' ∧ Mod (Foot t R M) W W' ∧ (∀ k, Foot t R M' k → Foot t R M k) ∧ (∀ q, sps M' q = if q = p then mdel (sps M q) a else sps M q) ∧ total M' + 1 = total M := by
  have ht := h.tab
  have hmm := kget_mem h.get
  have hro := refs_off ht.map.nodup ht.refs h.get
  have hrR : r ≠ R := ht.notR _ hmm
  have hlen := kdel_len (ht.inner _ hmm).nodup a
  simp only [h.has, if_true] at hlen
  have hltot := len_le_total ht.map.nodup h.get
  have hF : Mod (Foot t R M) W W' := h.mod.weaken fun k hk => by
    rcases hk with rfl | rfl | rfl
    · exact .inl rfl
    · exact .inr (.inl rfl)
    · exact .inr (.inr ⟨_, hmm, rfl⟩)
  have keepI : ∀ x ∈ M, x.1 ≠ p → MA W' x.2.1 x.2.2 := fun x hx hne => (ht.inner x hx).mod h.mod fun e => by
    rcases e with e | e | e
    · exact not_cells (ht.inner x hx) ht.cell e
    · exact ht.notR x hx e
    · exact hro x hx hne e
  by_cases h0 : mdel l a = []
  · rw [if_pos h0] at h1
    subst h1
    have htt := tot_del (fun x : Nat × ML => x.2.length) ht.map.nodup p
    rw [h.get] at htt
    simp only [← total_eq] at htt
    rw [h0] at hlen
    simp at hlen
    have hmem : ∀ x ∈ mdel M p, x ∈ M ∧ x.1 ≠ p := fun x hx => kdel_mem.1 hx
    have hn1 : total (mdel M p) + 1 = total M := by omega
    refine ⟨mdel M p, ⟨?_, h.thaw, h.cell, hm, fun x hx => keepI x (hmem x hx).1 (hmem x hx).2, ht.refs.sublist ((List.filter_sublist).map _), fun x hx => ht.notR x (hmem x hx).1, fun x hx => ht.full x (hmem x hx).1⟩, hF, ?_, ?_, hn1⟩
    · rw [h.cnt]
      congr 2; omega
    · rintro k (hk | hk | ⟨x, hx, hk⟩)
      · exact .inl hk
      · exact .inr (.inl hk)
      · exact .inr (.inr ⟨x, (hmem x hx).1, hk⟩)
    · intro q
      by_cases hq : q = p
      · subst hq
        simp [sps, kget_mdel, h.get, h0]
      · simp [sps, kget_mdel, hq]
  · rw [if_neg h0] at h1
    subst h1
    have htt := tot_set (fun x : Nat × ML => x.2.length) ht.map.nodup p (r, mdel l a)
    rw [h.get] at htt
    simp only [← total_eq] at htt
    have hn1 : total (mset M1 p (r, mdel l a)) + 1 = total M1 := by omega
    refine ⟨mset M1 p (r, mdel l a), ⟨?_, h.thaw, h.cell, ?_, ?_, ?_, ?_, ?_⟩, hF, ?_, ?_, hn1⟩
    · rw [h.cnt]
      congr 2; omega
    · obtain ⟨⟨es, c, h1, h2, h3⟩, h4⟩ := hm
      refine ⟨⟨es, c, h1, ?_, h3⟩, kset_nodup h4 _ _⟩
      rw [h2]
      exact (kset_map (v := (r, mdel l a)) h4 h.get (fun p => (ekP p.1, ewN p.2)) rfl).symm
    · intro x hx
      rcases kset_mem hx with rfl | ⟨hx, hne⟩
      · exact h.inn
      · exact keepI x hx hne
    · rw [kset_map (v := (r, mdel l a)) ht.map.nodup h.get (fun p => p.2.1) rfl]
      exact ht.refs
    · intro x hx
      rcases kset_mem hx with rfl | ⟨hx, hne⟩
      · exact hrR
      · exact ht.notR x hx
    · intro x hx
      rcases kset_mem hx with rfl | ⟨hx, hne⟩
      · exact h0
      · exact ht.full x hx
    · rintro k (hk | hk | ⟨x, hx, hk⟩)
      · exact .inl hk
      · exact .inr (.inl hk)
      · rcases kset_mem hx with rfl | ⟨hx, hne⟩
        · exact .inr (.inr ⟨_, hmm, hk⟩)
        · exact .inr (.inr ⟨x, hx, hk⟩)
    · intro q
      by_cases hq : q = p
      · subst hq
        simp [sps, kget_mset, h.get]
      · simp [sps, kget_mset, hq]
structure LocD (B b t : Nat) (f g a vv : Int) (W : World) : Prop where
  v0 : Var W B (ptr t)
  va : Var W (B + 1) (u64 a)
  p0 : W.cell? ⟨B + 1 + 1 + 1, 0, none⟩ = some (u32 f)
  p1 : W.cell? ⟨B + 1 + 1 + 1, 1, none⟩ = some (u32 g)
  st : StAt W b ⟨f, g, a, vv⟩
  ob : W.heap[B + 1 + 1]? = some (.cells #[u32 0, u32 0, u64 0, u64 0] 35 (0, 0))
theorem LocD.mod {B b t : Nat} {f g a vv : Int} {W W' : World} {S : Nat → Prop} (h : LocD B b t f g a vv W) (hM : Mod S W W') (h0 : ¬ S B) (h1 : ¬ S (B + 1)) (h2 : ¬ S (B + 1 + 1)) (h3 : ¬ S (B + 1 + 1 + 1)) (h4 : ¬ S b) : LocD B b t f g a vv W' :=
  ⟨h.v0.mod hM h0, h.va.mod hM h1, hM.cell h.p0 h3, hM.cell h.p1 h3, ⟨hM.cell h.st.c0 h4, hM.cell h.st.c1 h4, hM.cell h.st.c2 h4, hM.cell h.st.c3 h4⟩, hM.obj h.ob h2⟩
theorem LocD.ext {B b t : Nat} {f g a vv : Int} {W W' : World} (h : LocD B b t f g a vv W) (hE : Ext W W') : LocD B b t f g a vv W' :=
  h.mod (S := fun _ => False) hE.mod id id id id id
def dropSt (M : ME) (f g a : Int) : St := if hasS M f g a then ⟨f, g, a, (mget (sps M (f, g)) a).getD 0⟩ else ⟨0, 0, 0, 0⟩
set_option maxHeartbeats 2000000 in
theorem drop_c {w : World} {t R : Nat} {M : ME} (ht : TabAt w t R M) (hfew : total M ≤ 1048576) (f g a : Int) : FN Try.prog 21 [ptr t, u32 f, u32 g, u64 a] w fun e w' => e = .returned (.tuple #[stV (dropSt M f g a), .int .i64 (if hasS M f g a then 0 else 5)]) ∧ ∃ M', TabAt w' t R M' ∧ Mod (Foot t R M) w w' ∧ (∀ k, Foot t R M' k → Foot t R M k ∨ w.heap.size ≤ k) ∧
    (∀ q, sps M' q = if hasS M f g a = true ∧ q = (f, g) then mdel (sps M q) a else sps M q) ∧ total M' + (if hasS M f g a then 1 else 0) = total M := by
  refine FN_enter Try.func21 rfl rfl (by kernel_rfl) ?_
  simp
  have he : Ext w ((((w.alloc (.cells #[ptr t] 28)).alloc (.cells #[u64 a] 23)).alloc (.cells #[u32 0, u32 0, u64 0, u64 0] 35)).alloc (.cells #[u32 f, u32 g] 67)) := ((((Ext.refl w).alloc _).alloc _).alloc _).alloc _
  have v0 : Var ((((w.alloc (.cells #[ptr t] 28)).alloc (.cells #[u64 a] 23)).alloc (.cells #[u32 0, u32 0, u64 0, u64 0] 35)).alloc (.cells #[u32 f, u32 g] 67)) w.heap.size (ptr t) := (Var.new w _ _).ext ((((Ext.refl _).alloc _).alloc _).alloc _)
  have va : Var ((((w.alloc (.cells #[ptr t] 28)).alloc (.cells #[u64 a] 23)).alloc (.cells #[u32 0, u32 0, u64 0, u64 0] 35)).alloc (.cells #[u32 f, u32 g] 67)) (w.heap.size + 1) (u64 a) := by
    have := (Var.new (w.alloc (.cells #[ptr t] 28)) (u64 a) 23).ext (((Ext.refl _).alloc (.cells #[u32 0, u32 0, u64 0, u64 0] 35)).alloc (.cells #[u32 f, u32 g] 67)); simpa using this
  have ho : ((((w.alloc (.cells #[ptr t] 28)).alloc (.cells #[u64 a] 23)).alloc (.cells #[u32 0, u32 0, u64 0, u64 0] 35)).alloc (.cells #[u32 f, u32 g] 67)).heap[w.heap.size + 1 + 1]? = some (.cells #[u32 0, u32 0, u64 0, u64 0] 35 (0, 0)) := by
    have := ((Ext.refl ((((w.alloc (.cells #[ptr t] 28)).alloc (.cells #[u64 a] 23)).alloc (.cells #[u32 0, u32 0, u64 0, u64 0] 35)))).alloc (.cells #[u32 f, u32 g] 67)).obj (new_obj ((w.alloc (.cells #[ptr t] 28)).alloc (.cells #[u64 a] 23)) (.cells #[u32 0, u32 0, u64 0, u64 0] 35 (0, 0)))
    simpa using this
  have p0 : ((((w.alloc (.cells #[ptr t] 28)).alloc (.cells #[u64 a] 23)).alloc (.cells #[u32 0, u32 0, u64 0, u64 0] 35)).alloc (.cells #[u32 f, u32 g] 67)).cell? ⟨w.heap.size + 1 + 1 + 1, 0, none⟩ = some (u32 f) := by
    simp
  have p1 : ((((w.alloc (.cells #[ptr t] 28)).alloc (.cells #[u64 a] 23)).alloc (.cells #[u32 0, u32 0, u64 0, u64 0] 35)).alloc (.cells #[u32 f, u32 g] 67)).cell? ⟨w.heap.size + 1 + 1 + 1, 1, none⟩ = some (u32 g) := by
    simp
  have hsz : ((((w.alloc (.cells #[ptr t] 28)).alloc (.cells #[u64 a] 23)).alloc (.cells #[u32 0, u32 0, u64 0, u64 0] 35)).alloc (.cells #[u32 f, u32 g] 67)).heap.size = w.heap.size + 1 + 1 + 1 + 1 := by simp
  generalize ((((w.alloc (.cells #[ptr t] 28)).alloc (.cells #[u64 a] 23)).alloc (.cells #[u32 0, u32 0, u64 0, u64 0] 35)).alloc (.cells #[u32 f, u32 g] 67)) = w1 at *
  have ht1 := ht.ext he
  let qs : List Qn := [⟨.func (.func 23) #[ptr t] #[], 1, false⟩, ⟨.func (.func 47) #[] #[ptr w.heap.size, ptr (w.heap.size + 1 + 1 + 1), ptr (w.heap.size + 1)], 5, !hasS M f g a⟩]
  have hsl := Sl.made w1 (askCells qs) 70 2 2 rfl
  rw [hsz] at hsl
  have he3 := (Ext.refl w1).alloc (.cells (askCells qs).toArray 70)
  refine FN.mono (asked_c qs hsl (by simp [qs]) ?_ ?_) ?_
  · intro q hq
    simp [qs] at hq
    rcases hq with rfl | rfl <;> exact ⟨_, _, _, rfl⟩
  · intro i q hq hno w' hw'
    have hx := he3.trans hw'
    match i, hq with
    | 0, hq =>
      simp [qs] at hq; subst hq
      exact FN.mono (none_c (ht1.ext hx)) fun _ _ h => ⟨h.1, h.2 ▸ Ext.refl _⟩
    | 1, hq =>
      simp [qs] at hq; subst hq
      exact drop1_c (v0.ext hx) (hx.cell_eq p0) (hx.cell_eq p1) (va.ext hx) (ht1.ext hx)
    | i + 2, hq => simp [qs] at hq
  · rintro _ w3 ⟨rfl, h2⟩
    have hE : askE qs = if hasS M f g a then 0 else 5 := by
      cases hh : hasS M f g a <;> simp [qs, askE, hh]
    rw [hE]
    have hx := he3.trans h2
    have hX := he.trans hx
    have ht3 := ht1.ext hx
    have v03 := v0.ext hx
    have va3 := va.ext hx
    have ho3 := hx.obj ho
    have p03 := hx.cell_eq p0
    have p13 := hx.cell_eq p1
    have q0 : w3.cell? ⟨w.heap.size + 1 + 1, 0, none⟩ = some (u32 0) := by simp [World.cell?, ho3]
    have q1 : w3.cell? ⟨w.heap.size + 1 + 1, 1, none⟩ = some (u32 0) := by simp [World.cell?, ho3]
    have q2 : w3.cell? ⟨w.heap.size + 1 + 1, 2, none⟩ = some (u64 0) := by simp [World.cell?, ho3]
    have q3 : w3.cell? ⟨w.heap.size + 1 + 1, 3, none⟩ = some (u64 0) := by simp [World.cell?, ho3]
    have qf : ∀ j, w3.frozen? ⟨w.heap.size + 1 + 1, j, none⟩ = false := fun j => by simp [World.frozen?, ho3]
    cases hh : hasS M f g a with
    | false =>
      simp [q0, q1, q2, q3, qf, dropSt, hh, cell_setCell]
      have hE4 := (((hX.setCell ⟨w.heap.size + 1 + 1, 0, none⟩ (u32 0) (by simp only; omega)).setCell ⟨w.heap.size + 1 + 1, 1, none⟩ (u32 0) (by simp only; omega)).setCell ⟨w.heap.size + 1 + 1, 2, none⟩ (u64 0) (by simp only; omega)).setCell ⟨w.heap.size + 1 + 1, 3, none⟩ (u64 0) (by simp only; omega)
      exact ⟨M, ht.ext hE4, hE4.mod, fun k h => .inl h, fun _ _ => rfl, rfl⟩
    | true =>
      simp
      obtain ⟨vv, hvv⟩ : ∃ vv, mget (sps M (f, g)) a = some vv := Option.isSome_iff_exists.1 hh
      obtain ⟨r, hget⟩ : ∃ r, mget M (f, g) = some (r, sps M (f, g)) := by
        cases hg : mget M (f, g) with
        | none => simp [sps, hg, kget_nil] at hvv
        | some x => exact ⟨x.1, by simp [sps, hg]⟩
      have hmv : mv M (f, g) = .map (some r) := by simp [mv, hget, ewN]
      refine WC_drawL 13 (.F 0 <| .F 1 <| .F 2 <| .F 3 <| .F 4 <| .F 5 <| .F 6 <| .F 7 <| .F 9 <| .D 12 <| .L 8 <| .L 10 <| .F 11 <| .W 12 <| .Z) (fun _ => false) (fun _ => false) (fun _ u W => ∃ b, u = ptr b ∧ W.heap[b]? = some (.cells #[u32 0, u32 0, u64 0, u64 0] 35 (0, 0)) ∧ w3.heap.size ≤ b) rfl (by kernel_rfl) (fun _ h => h)
        (fun _ _ _ _ ⟨b, h1, h2, h3⟩ h4 => ⟨b, h1, (agr_ext h4).obj h2, h3⟩) fun W hW => ?_
      have hWE : Ext w3 W := hW ▸ Ext.drew w3
      have ht4 := ht3.ext hWE
      have v04 := v03.ext hWE
      have va4 := va3.ext hWE
      have p04 := hWE.cell_eq p03
      have p14 := hWE.cell_eq p13
      simp [v04.cell, va4.cell, p04, p14, ht4.cell]
      refine RL_float (fun W1 h1 => ?_) ?_
      · simp
        have hs := (hWE.trans (agr_ext h1)).size
        refine ⟨(Ext.refl _).alloc _, ?_⟩
        omega
      simp
      refine RL_loose fun W1 h1 => ?_
      have ht5 := ht4.ext h1
      simp [ht5.find]
      refine KR_same ?_
      simp
      refine RL_loose fun W2 h2' => ?_
      have ht6 := ht5.ext h2'
      have hlk := (ht6.inn (f, g)).lookup k23 tm72 (z23 _) a false
      rw [hvv] at hlk
      simp [hlk]
      refine KR_same ?_
      simp
      refine RL_wait fun _ W3 h3 ⟨b, hb, ho4, hlb⟩ => ?_
      subst hb
      have hE3 : Ext w3 W3 := (hWE.trans h1).trans (h2'.trans h3)
      have z0 : W3.cell? ⟨b, 0, none⟩ = some (u32 0) := by simp [World.cell?, ho4]
      have z1 : W3.cell? ⟨b, 1, none⟩ = some (u32 0) := by simp [World.cell?, ho4]
      have z2 : W3.cell? ⟨b, 2, none⟩ = some (u64 0) := by simp [World.cell?, ho4]
      have z3 : W3.cell? ⟨b, 3, none⟩ = some (u64 0) := by simp [World.cell?, ho4]
      have zf : ∀ j, W3.frozen? ⟨b, j, none⟩ = false := fun j => by simp [World.frozen?, ho4]
      simp [z0, z1, z2, z3, zf, cell_setCell]
      have hLE : Ext w3 ((((W3.setCell ⟨b, 0, none⟩ (u32 f)).setCell ⟨b, 1, none⟩ (u32 g)).setCell ⟨b, 2, none⟩ (u64 a)).setCell ⟨b, 3, none⟩ (u64 vv)) :=
        (((hE3.setCell ⟨b, 0, none⟩ (u32 f) hlb).setCell ⟨b, 1, none⟩ (u32 g) hlb).setCell ⟨b, 2, none⟩ (u64 a) hlb).setCell ⟨b, 3, none⟩ (u64 vv) hlb
      have hst : StAt ((((W3.setCell ⟨b, 0, none⟩ (u32 f)).setCell ⟨b, 1, none⟩ (u32 g)).setCell ⟨b, 2, none⟩ (u64 a)).setCell ⟨b, 3, none⟩ (u64 vv)) b ⟨f, g, a, vv⟩ := by
        refine ⟨?_, ?_, ?_, ?_⟩ <;> simp [z0, z1, z2, z3, cell_setCell]
      obtain ⟨W4, hW4⟩ : ∃ W4, W4 = ((((W3.setCell ⟨b, 0, none⟩ (u32 f)).setCell ⟨b, 1, none⟩ (u32 g)).setCell ⟨b, 2, none⟩ (u64 a)).setCell ⟨b, 3, none⟩ (u64 vv)) := ⟨_, rfl⟩
      rw [← hW4] at hLE hst ⊢
      have hL4 : LocD w.heap.size b t f g a vv W4 := ⟨v03.ext hLE, va3.ext hLE, hLE.cell_eq p03, hLE.cell_eq p13, hst, hLE.obj ho3⟩
      have hFt := ht.lt
      have hrt : r < w.heap.size := hFt r (.inr (.inr ⟨_, kget_mem hget, rfl⟩))
      have hRt : R < w.heap.size := hFt R (.inr (.inl rfl))
      have htt : t < w.heap.size := hFt t (.inl rfl)
      have hbw : w.heap.size ≤ b := by have := hX.size; omega
      obtain ⟨W5, hW5⟩ : ∃ W5, W5 = W4.drew := ⟨_, rfl⟩
      have hE5 : Ext W4 W5 := hW5 ▸ Ext.drew W4
      have hL5 := hL4.ext hE5
      have ht5 := ht3.ext (hLE.trans hE5)
      have hX5 := hX.trans (hLE.trans hE5)
      have hi5 : MA W5 r (sps M (f, g)) := ht5.inner _ (kget_mem hget)
      have hrR : r ≠ R := ht.notR _ (kget_mem hget)
      obtain ⟨W6, hdel, hm6, hM6, hs6⟩ := hi5.delete (P := Try.prog) k23 tm72 a 23 0
      refine WC_drawQ 7 rfl (by kernel_rfl) ?_
      rw [← hW5]
      simp [hL5.v0.cell, hL5.va.cell, hL5.p0, hL5.p1, ht5.cell, ht5.find, hmv, hdel]
      have hL6 := hL5.mod hM6 (by omega) (by omega) (by omega) (by omega) (by omega)
      obtain ⟨W7, hW7⟩ : ∃ W7, W7 = W6.drew := ⟨_, rfl⟩
      have hE7 : Ext W6 W7 := hW7 ▸ Ext.drew W6
      have hL7 := hL6.ext hE7
      have hR7 : MapAt ekP ewN W7 R M := (ht5.map.mod hM6 hrR.symm).ext hE7
      have c7 := hE7.cell_eq (map_off hi5 hM6 ht5.cell)
      have n7 := hE7.cell_eq (map_off hi5 hM6 ht5.cnt)
      have hi7 := hm6.ext hE7
      have hM57 : Mod (fun k => k = t ∨ k = R ∨ k = r) W5 W7 := (hM6.weaken fun k hk => .inr (.inr hk)).trans hE7.mod
      have f7 : W7.frozen? ⟨t, 0, none⟩ = false := by
        have hf := thaw_off hi5 hM6 ht5.cnt ht5.thaw
        have hb := hE7.blk t (World.block_lt_of_cell? _ _ (map_off hi5 hM6 ht5.cell))
        rw [← hf]; unfold World.frozen?; simp only [hb]
      have fin : ∀ (W Wf : World) (M1 : ME), MapAt ekP ewN W R M1 → M1 = (if mdel (sps M (f, g)) a = [] then mdel M (f, g) else M) → MA W r (mdel (sps M (f, g)) a) → Mod (fun k => k = t ∨ k = R ∨ k = r) W5 W → W.cell? ⟨t, 0, none⟩ = some (.int .i64 (total M)) →
          W.frozen? ⟨t, 0, none⟩ = false → W.cell? ⟨t, 1, none⟩ = some (.map (some R)) →
          Wf = ((((W.setCell ⟨t, 0, none⟩ (.int .i64 ((total M : Int) - 1))).setCell ⟨w.heap.size + 1 + 1, 0, none⟩ (u32 f)).setCell ⟨w.heap.size + 1 + 1, 1, none⟩ (u32 g)).setCell ⟨w.heap.size + 1 + 1, 2, none⟩ (u64 a)).setCell ⟨w.heap.size + 1 + 1, 3, none⟩ (u64 vv) →
          ∃ M', TabAt Wf t R M' ∧ Mod (Foot t R M) w Wf ∧ (∀ k, Foot t R M' k → Foot t R M k ∨ w.heap.size ≤ k) ∧ (∀ a' b', sps M' (a', b') = if a' = f ∧ b' = g then mdel (sps M (a', b')) a else sps M (a', b')) ∧ total M' + 1 = total M := by
        intro W Wf M1 g1 g2 g3 g4 g5 g6 g7 hWf
        obtain ⟨Wa, hWa⟩ : ∃ Wa, Wa = W.setCell ⟨t, 0, none⟩ (.int .i64 ((total M : Int) - 1)) := ⟨_, rfl⟩
        rw [← hWa] at hWf
        have hMa : Mod (· = t) W Wa := hWa ▸ Mod.setCell (Mod.refl _ W) _ _ (.inl rfl)
        have hD : PreD w t R M (f, g) a W5 Wa r (sps M (f, g)) := by
          refine ⟨ht5, hget, hh, g3.mod hMa (not_cells g3 g5), g4.trans (hMa.weaken fun k hk => .inl hk), ?_, ?_, ?_⟩
          · rw [hWa]; exact World.cell?_setCell_same _ _ _ g5
          · rw [hWa, World.frozen?_setCell]; exact g6
          · rw [hWa, cell_setCell, if_neg (by omega)]; exact g7
        obtain ⟨M', e1, e2, e3, e4, e5⟩ := hD.done (g1.mod hMa (not_cells g1 g5)) g2
        have hMf : Mod (fun k => k = w.heap.size + 1 + 1) Wa Wf := by
          rw [hWf]
          have m := fun (X : World) (hX : Mod (fun k => k = w.heap.size + 1 + 1) Wa X) (j : Nat) (v : Value) => hX.setCell ⟨w.heap.size + 1 + 1, j, none⟩ v (.inl rfl)
          exact m _ (m _ (m _ (m _ (Mod.refl _ Wa) 0 _) 1 _) 2 _) 3 _
        refine ⟨M', e1.mod hMf fun k hk e => ?_, ?_, fun k hk => .inl (e3 k hk), fun a' b' => ?_, e5⟩
        · have := hFt k (e3 k hk); omega
        · exact (hX5.mod.trans e2).trans' hMf fun k hk => .inr (by omega)
        · simpa using e4 (a', b')
      have hlen := hi7.len (P := Try.prog) (T := 72) (by simp) 3
      have w1_ : IntKind.i64.wrap ((total M : Int) - 1) = (total M : Int) - 1 := wrap64 _ (by omega) (by omega)
      have hfind7 := find' hR7 f g
      rw [hmv] at hfind7
      have rc : ∀ W : World, W.heap[w.heap.size + 1 + 1]? = some (.cells #[u32 0, u32 0, u64 0, u64 0] 35 (0, 0)) → W.cell? ⟨w.heap.size + 1 + 1, 0, none⟩ = some (u32 0) ∧ W.cell? ⟨w.heap.size + 1 + 1, 1, none⟩ = some (u32 0) ∧ W.cell? ⟨w.heap.size + 1 + 1, 2, none⟩ = some (u64 0) ∧ W.cell? ⟨w.heap.size + 1 + 1, 3, none⟩ = some (u64 0) ∧ ∀ j, W.frozen? ⟨w.heap.size + 1 + 1, j, none⟩ = false := by
        intro W h
        refine ⟨?_, ?_, ?_, ?_, fun j => ?_⟩ <;> simp [World.cell?, World.frozen?, h]
      have ne2 : ¬ w.heap.size + 1 + 1 = t := by omega
      have ne3 : ¬ b = t := by omega
      refine WC_drawQ 5 rfl (by kernel_rfl) ?_
      rw [← hW7]
      by_cases h0 : mdel (sps M (f, g)) a = []
      · rw [h0] at hlen
        simp [hL7.v0.cell, hL7.p0, hL7.p1, c7, hfind7, hlen]
        obtain ⟨W8, hdel8, hm8, hM8, hs8⟩ := (hR7.ext (Ext.drew W7)).delete (P := Try.prog) k67 tm61 (f, g) 67 0
        have hL7d := hL7.ext (Ext.drew W7)
        refine WC_drawQ 5 rfl (by kernel_rfl) ?_
        simp [ekP, pkc] at hdel8
        simp [hL7d.v0.cell, hL7d.p0, hL7d.p1, c7, hdel8]
        have hL8 := hL7d.mod hM8 (by omega) (by omega) (by omega) (by omega) (by omega)
        have ⟨r0, r1, r2, r3, rf⟩ := rc W8 hL8.ob
        have hR7d := hR7.ext (Ext.drew W7)
        have n8 := map_off hR7d hM8 ((Ext.drew W7).cell_eq n7)
        have f8 := thaw_off hR7d hM8 ((Ext.drew W7).cell_eq n7) (by simpa using f7)
        have c8 := map_off hR7d hM8 ((Ext.drew W7).cell_eq c7)
        have hi8 := (hi7.ext (Ext.drew W7)).mod hM8 hrR
        have hfin := fin W8 _ _ hm8 (by rw [if_pos h0]) hi8 (hM57.trans ((Ext.drew W7).mod.trans (hM8.weaken fun k hk => .inr (.inl hk)))) n8 f8 c8 rfl
        simp [hL8.v0.cell, n8, f8, w1_, hL8.st.c0, hL8.st.c1, hL8.st.c2, hL8.st.c3, r0, r1, r2, r3, rf, cell_setCell, ne2, ne3]
        exact ⟨by simp [dropSt, hh, hvv], hfin⟩
      · have hl0 : (((mdel (sps M (f, g)) a).length : Int) == 0) = false := by simpa using h0
        have ⟨r0, r1, r2, r3, rf⟩ := rc W7 hL7.ob
        have hfin := fin W7 _ _ hR7 (by rw [if_neg h0]) hi7 hM57 n7 f7 c7 rfl
        simp [hL7.v0.cell, hL7.p0, hL7.p1, c7, hfind7, hlen, hl0, n7, f7, w1_, hL7.st.c0, hL7.st.c1, hL7.st.c2, hL7.st.c3, r0, r1, r2, r3, rf, cell_setCell, ne2, ne3]
        exact ⟨by simp [dropSt, hh, hvv], hfin⟩
end Go.Proofs
namespace Go.Proofs
open Pk
set_option maxRecDepth 10000
theorem gdT_of {w : World} {t R : Nat} {M : ME} (ht : TabAt w t R M) (h : ∀ q, gdI (sps M q)) : gdT M := by
  intro x hx
  have := h x.1
  rw [sps, (kget_iff ht.map.nodup).2 (show (x.1, x.2) ∈ M from hx)] at this
  exact this
/-- A table of one's own. -/
structure OwnT (w : World) (W : World) (t R : Nat) (M : ME) : Prop where
  tab : TabAt W t R M
  ext : Ext w W
  own : ∀ k, Foot t R M k → w.heap.size ≤ k
theorem OwnT.put {w W W' : World} {t R : Nat} {M M' : ME} (h : OwnT w W t R M) (h1 : TabAt W' t R M') (h2 : Mod (Foot t R M) W W') (h3 : ∀ k, Foot t R M' k → Foot t R M k ∨ W.heap.size ≤ k) : OwnT w W' t R M' :=
  ⟨h1, ((h.ext.mod (S := fun k => w.heap.size ≤ k)).trans (h2.weaken h.own)).ext fun _ h => h, fun k hk => by
    rcases h3 k hk with h4 | h4
    · exact h.own k h4
    · have := h.ext.size; omega⟩
theorem OwnT.ext' {w W W' : World} {t R : Nat} {M : ME} (h : OwnT w W t R M) (hE : Ext W W') : OwnT w W' t R M := ⟨h.tab.ext hE, h.ext.trans hE, h.own⟩
theorem OwnT.new {w W : World} {t R : Nat} (h : TabAt W t R []) (hE : Ext w W) (h1 : w.heap.size ≤ t) (h2 : w.heap.size ≤ R) : OwnT w W t R [] :=
  ⟨h, hE, fun k hk => by
    rcases hk with rfl | rfl | ⟨x, hx, _⟩
    · exact h1
    · exact h2
    · cases hx⟩
theorem step_c (a k : Int) (w : World) : FN Try.prog 20 [u64 a, u64 k] w fun e w' => e = .returned (stV ⟨1, 2, a, k⟩) ∧ Ext w w' := by
  refine FN_enter Try.func20 rfl rfl (by kernel_rfl) ?_
  simp
  exact (Ext.refl w).alloc _
theorem setM {W : World} {w : World} {t R : Nat} {M : ME} (h : OwnT w W t R M) (hf : total M ≤ 1048576) (s : St) :
    FN Try.prog 8 [ptr t, stV s] W fun e W' => e = .returned (.tuple #[.bool (wasS M s), .int .i64 (setE M s)]) ∧ ∃ M', OwnT w W' t R M' ∧ (∀ q, sps M' q = if setE M s = 0 ∧ q = (s.f, s.t) then mset (sps M q) s.a s.k else sps M q) ∧ total M' = (if setE M s = 0 ∧ wasS M s = false then total M + 1 else total M) := by
  refine FN.mono (set_c h.tab hf s) ?_
  rintro _ W' ⟨rfl, M', h1, h2, h3, h4, h5⟩
  exact ⟨rfl, M', h.put h1 h2 h3, h4, h5⟩
theorem lnd_ev {m : ML} {a b : Int} (h : lnd m a = b) : lnd m a = b := h
set_option maxHeartbeats 1000000 in
theorem works_c (w : World) : FN Try.prog 6 [] w fun e w' => e = .returned (.bool true) ∧ Ext w w' := by
  refine FN_enter Try.func6 rfl rfl (by kernel_rfl) ?_
  simp
  refine FN.mono (new_c w) ?_
  rintro _ w1 ⟨t, R, rfl, ht, hE, hlt, hlr⟩
  have o1 := OwnT.new ht hE hlt hlr
  simp
  refine FN.mono (step_c 10 5 w1) ?_
  rintro _ w2 ⟨rfl, hE2⟩
  have o2 := o1.ext' hE2
  simp
  refine FN.mono (setM o2 (by simp [total]) ⟨1, 2, 10, 5⟩) ?_
  rintro _ w3 ⟨rfl, M3, o3, s3, n3⟩
  have e3 : setE [] ⟨1, 2, 10, 5⟩ = 0 := by decide
  have e3' : wasS [] ⟨1, 2, 10, 5⟩ = false := by decide
  rw [e3] at s3 n3
  rw [e3'] at n3
  have n3' : total M3 = 1 := by simpa [total] using n3
  have s31 : sps M3 (1, 2) = [(10, 5)] := by rw [s3]; rfl
  have s32 : sps M3 (2, 1) = [] := by rw [s3]; rfl
  have g3 : gdT M3 := gdT_of o3.tab fun q => by
    rw [s3]
    split
    · rename_i h
      rw [h.2]
      intro q hq
      have : q = (10, 5) := by simpa [sps, kget_nil, mset] using hq
      subst this; simp
    · intro q hq; simp [sps, kget_nil] at hq
  simp [e3, e3']
  refine FN.mono (ticks_c o3.tab 1 2 9) ?_
  rintro _ w4 ⟨rfl, hE4⟩
  have o4 := o3.ext' hE4
  simp
  refine FN.mono (lands_c o4.tab g3 1 2 10 (by omega)) ?_
  rintro _ w5 ⟨rfl, hE5⟩
  have o5 := o4.ext' hE5
  simp
  refine FN.mono (lands_c o5.tab g3 2 1 10 (by omega)) ?_
  rintro _ w6 ⟨rfl, hE6⟩
  have o6 := o5.ext' hE6
  have l1 : tk (sps M3 (1, 2)) 9 = 0 := by rw [s31]; decide
  have l2 : lnd (sps M3 (1, 2)) 10 = 15 := by rw [s31]; decide
  have l3 : lnd (sps M3 (2, 1)) 10 = 10 := by rw [s32]; decide
  rw [l1, l2, l3]
  simp
  refine FN.mono (step_c 20 1 w6) ?_
  rintro _ w7 ⟨rfl, hE7⟩
  have o7 := o6.ext' hE7
  simp
  refine FN.mono (setM o7 (by omega) ⟨1, 2, 20, 1⟩) ?_
  rintro _ w8 ⟨rfl, M8, o8, s8, n8⟩
  have e8 : setE M3 ⟨1, 2, 20, 1⟩ = 0 := by
    have : badS ⟨1, 2, 20, 1⟩ = false := by decide
    simp [setE, this, n3', s31]
  have e8' : wasS M3 ⟨1, 2, 20, 1⟩ = false := by
    have : mget (sps M3 (1, 2)) 20 = none := by rw [s31]; decide
    simp [wasS, this]
  rw [e8] at s8 n8
  rw [e8'] at n8
  have n8' : total M8 = 2 := by simpa [n3'] using n8
  have s81 : sps M8 (1, 2) = [(10, 5), (20, 1)] := by rw [s8]; simp; rw [s31]; decide
  have g8 : gdT M8 := gdT_of o8.tab fun q => by
    rw [s8]
    split
    · rename_i h
      rw [h.2]
      show gdI (mset (sps M3 (1, 2)) 20 1)
      rw [s31]
      intro q hq
      have : q = (10, 5) ∨ q = (20, 1) := by simpa [mset, mget] using hq
      rcases this with rfl | rfl <;> simp
    · exact g3.sps q
  simp [e8, e8']
  have k8 : isKeys (sps M8 (1, 2)) [10, 20] := by rw [s81]; exact ⟨List.Perm.refl _, by decide⟩
  have b1 : bst (sps M8 (1, 2)) ⟨12, 30⟩ 12 [10, 20] = 12 := by rw [s81]; decide
  have b2 : bst (sps M8 (1, 2)) ⟨5, 15⟩ 5 [10, 20] = 5 := by rw [s81]; decide
  refine FN.mono (best_c o8.tab g8 1 2 ⟨12, 30⟩ (by simp) (by rw [s81]; simp) k8) ?_
  rintro _ w9 ⟨rfl, hE9⟩
  have o9 := o8.ext' hE9
  have i1 : inS ⟨12, 30⟩ 12 = true := by decide
  have i2 : inS ⟨5, 15⟩ 5 = true := by decide
  simp [i1, b1]
  refine FN.mono (best_c o9.tab g8 1 2 ⟨5, 15⟩ (by simp) (by rw [s81]; simp) k8) ?_
  rintro _ w10 ⟨rfl, hE10⟩
  have o10 := o9.ext' hE10
  simp [i2, b2]
  refine FN.mono (step_c 10 6 w10) ?_
  rintro _ w11 ⟨rfl, hE11⟩
  have o11 := o10.ext' hE11
  simp
  refine FN.mono (setM o11 (by omega) ⟨1, 2, 10, 6⟩) ?_
  rintro _ w12 ⟨rfl, M12, o12, s12, n12⟩
  have m12 : mget (sps M8 (1, 2)) 10 = some 5 := by rw [s81]; decide
  have e12 : setE M8 ⟨1, 2, 10, 6⟩ = 0 := by
    have : badS ⟨1, 2, 10, 6⟩ = false := by decide
    simp [setE, this, m12]
  have e12' : wasS M8 ⟨1, 2, 10, 6⟩ = true := by
    simp [wasS, e12, m12]
  rw [e12] at s12 n12
  rw [e12'] at n12
  have n12' : total M12 = 2 := by simpa [n8'] using n12
  have s121 : sps M12 (1, 2) = [(10, 6), (20, 1)] := by rw [s12]; simp; rw [s81]; decide
  simp [e12, e12']
  have h12 : hasS M12 1 2 11 = false := by unfold hasS; rw [s121]; decide
  refine FN.mono (drop_c o12.tab (by omega) 1 2 11) ?_
  rintro _ w13 ⟨rfl, M13, d1, d2, d3, d4, d5⟩
  have o13 := o12.put d1 d2 d3
  rw [h12] at d5
  have n13 : total M13 = 2 := by simpa [n12'] using d5
  simp [h12]
  have hA : Ext w13 (w13.alloc (.cells #[u32 (dropSt M12 1 2 11).f, u32 (dropSt M12 1 2 11).t, u64 (dropSt M12 1 2 11).a, u64 (dropSt M12 1 2 11).k] 35)) := (Ext.refl w13).alloc _
  have o14 := o13.ext' hA
  generalize (w13.alloc (.cells #[u32 (dropSt M12 1 2 11).f, u32 (dropSt M12 1 2 11).t, u64 (dropSt M12 1 2 11).a, u64 (dropSt M12 1 2 11).k] 35)) = w14 at *
  refine FN.mono (setM o14 (by omega) ⟨1, 1, 0, 0⟩) ?_
  rintro _ w15 ⟨rfl, M15, o15, s15, n15⟩
  have e15 : setE M13 ⟨1, 1, 0, 0⟩ = 2 := by
    have : badS ⟨1, 1, 0, 0⟩ = true := by decide
    simp [setE, this]
  simp [e15]
  have z0 : IntKind.i64.wrap 0 = 0 := by decide
  refine FN.mono (num_c 0 w15) ?_
  rintro _ _ ⟨rfl, hw⟩
  subst hw
  rename_i w15
  simp
  refine FN.mono (num_c 0 w15) ?_
  rintro _ _ ⟨rfl, hw⟩
  subst hw
  rename_i w15
  simp
  refine FN.mono (num_c 0 w15) ?_
  rintro _ _ ⟨rfl, hw⟩
  subst hw
  rename_i w15
  simp [z0]
  refine FN.mono (num_c 5 w15) ?_
  rintro _ _ ⟨rfl, hw⟩
  subst hw
  rename_i w15
  simp
  refine FN.mono (num_c 2 w15) ?_
  rintro _ _ ⟨rfl, hw⟩
  subst hw
  simp
  exact o15.ext
end Go.Proofs
namespace Go.Proofs
open Pk
set_option maxRecDepth 10000
/-! ### The plain law -/
theorem lk_same {ks : List Int} {c a : Int} (h : c ≤ a) (h2 : ∀ k, lk a ks = some k → k ≤ c) : lk c ks = lk a ks := by
  refine isLast.uniq (lk_last c ks) ?_
  have h1 := lk_last a ks
  cases ho : lk a ks with
  | none =>
    rw [ho] at h1
    intro k hk
    have := h1 k hk; omega
  | some x =>
    rw [ho] at h1
    exact ⟨h1.1, h2 x ho, fun k hk hkc => h1.2.2 k hk (by omega)⟩
theorem tk_same {m : ML} {c a : Int} (h : c ≤ a) (h2 : ∀ k, lk a (m.map (·.1)) = some k → k ≤ c) : tk m c = tk m a := by
  unfold tk
  rw [lk_same h h2]
theorem addT_mono {a b n : Int} (h : a ≤ b) : addT a n ≤ addT b n := by unfold addT top; omega
theorem lnd_mono {m : ML} {c a : Int} (h : c ≤ a) (h2 : ∀ k, lk a (m.map (·.1)) = some k → k ≤ c) : lnd m c ≤ lnd m a := by
  unfold lnd
  rw [tk_same h h2]
  exact addT_mono h
/-- What has been gone over has a best one. -/
structure BestOf (m : ML) (s : Sp2) (ks : List Int) (b : Int) : Prop where
  mem : b = s.from' ∨ (b ∈ ks ∧ inS s b = true)
  lef : lnd m b ≤ lnd m s.from'
  lek : ∀ k ∈ ks, inS s k = true → lnd m b ≤ lnd m k
  tie : ∀ k ∈ ks, inS s k = true → lnd m k = lnd m b → b ≤ k
  tief : lnd m s.from' = lnd m b → b ≤ s.from'
theorem inS_from {s : Sp2} {k : Int} (h : inS s k = true) : s.from' ≤ k := by
  unfold inS at h
  simp only [Bool.and_eq_true, decide_eq_true_eq] at h
  exact h.2.1
theorem bst_best {m : ML} {s : Sp2} : ∀ (ks pre : List Int) (b : Int), (pre ++ ks).Pairwise (· ≤ ·) → BestOf m s pre b → BestOf m s (pre ++ ks) (bst m s b ks)
  | [], pre, b, _, h => by simpa [bst] using h
  | k :: ks, pre, b, hs, h => by
    have e : pre ++ k :: ks = (pre ++ [k]) ++ ks := by simp
    rw [e] at hs ⊢
    unfold bst
    refine bst_best ks (pre ++ [k]) _ hs ?_
    have hpk : ∀ x ∈ pre, x ≤ k := by
      intro x hx
      have := (List.pairwise_append.1 (List.pairwise_append.1 hs).1).2.2 x hx k (by simp)
      exact this
    cases hi : inS s k with
    | false =>
      simp only [Bool.false_and, Bool.false_eq_true, if_false]
      refine ⟨?_, h.lef, ?_, ?_, h.tief⟩
      · rcases h.mem with h1 | h1
        · exact .inl h1
        · exact .inr ⟨by simp [h1.1], h1.2⟩
      · intro x hx hxi
        rcases List.mem_append.1 hx with hx | hx
        · exact h.lek x hx hxi
        · simp at hx; subst hx; rw [hi] at hxi; cases hxi
      · intro x hx hxi
        rcases List.mem_append.1 hx with hx | hx
        · exact h.tie x hx hxi
        · simp at hx; subst hx; rw [hi] at hxi; cases hxi
    | true =>
      have hfk := inS_from hi
      by_cases hl : lnd m k < lnd m b
      · simp only [Bool.true_and, decide_eq_true_eq, hl, if_true]
        refine ⟨.inr ⟨by simp, hi⟩, by have := h.lef; omega, ?_, ?_, fun e => by have := h.lef; omega⟩
        · intro x hx hxi
          rcases List.mem_append.1 hx with hx | hx
          · have := h.lek x hx hxi; omega
          · simp at hx; subst hx; exact Int.le_refl _
        · intro x hx hxi he
          rcases List.mem_append.1 hx with hx | hx
          · have := h.lek x hx hxi; omega
          · simp at hx; subst hx; exact Int.le_refl _
      · simp only [Bool.true_and, decide_eq_true_eq, hl, if_false]
        have hbk : b ≤ k := by
          rcases h.mem with h1 | h1
          · omega
          · exact hpk b h1.1
        refine ⟨?_, h.lef, ?_, ?_, h.tief⟩
        · rcases h.mem with h1 | h1
          · exact .inl h1
          · exact .inr ⟨by simp [h1.1], h1.2⟩
        · intro x hx hxi
          rcases List.mem_append.1 hx with hx | hx
          · exact h.lek x hx hxi
          · simp at hx; subst hx; omega
        · intro x hx hxi he
          rcases List.mem_append.1 hx with hx | hx
          · exact h.tie x hx hxi he
          · simp at hx; subst hx; exact hbk
theorem best_holds {m : ML} {s : Sp2} {ys : List Int} (hy : isKeys m ys) {a : Int} (ha : inS s a = true) :
    ¬ (lnd m a < lnd m (bst m s s.from' ys) ∨ lnd m a = lnd m (bst m s s.from' ys) ∧ a < bst m s s.from' ys) := by
  have hB : BestOf m s ys (bst m s s.from' ys) := by
    have := bst_best (m := m) (s := s) ys [] s.from' (by simpa using hy.2) ⟨.inl rfl, Int.le_refl _, by simp, by simp, fun _ => Int.le_refl _⟩
    simpa using this
  have hfa := inS_from ha
  have hgen : ∀ c, c ≤ a → (c = s.from' ∨ (c ∈ ys ∧ inS s c = true)) → lnd m c ≤ lnd m a → ¬ (lnd m a < lnd m (bst m s s.from' ys) ∨ lnd m a = lnd m (bst m s s.from' ys) ∧ a < bst m s s.from' ys) := by
    intro c hca hc hl
    rcases hc with rfl | ⟨h1, h2⟩
    · have := hB.lef
      rintro (h | ⟨h, h'⟩)
      · omega
      · have := hB.tief (by omega); omega
    · have := hB.lek c h1 h2
      rintro (h | ⟨h, h'⟩)
      · omega
      · have := hB.tie c h1 h2 (by omega); omega
  cases ho : lk a (m.map (·.1)) with
  | none => exact hgen s.from' hfa (.inl rfl) (lnd_mono hfa fun k hk => by rw [ho] at hk; cases hk)
  | some k =>
    have hlast := lk_last a (m.map (·.1))
    rw [ho] at hlast
    by_cases hk : s.from' ≤ k
    · refine hgen k hlast.2.1 (.inr ⟨hy.1.mem_iff.2 hlast.1, ?_⟩) (lnd_mono hlast.2.1 fun k' hk' => by rw [ho] at hk'; cases hk'; exact Int.le_refl _)
      unfold inS at ha ⊢
      simp only [Bool.and_eq_true, decide_eq_true_eq] at ha ⊢
      have := hlast.2.1
      exact ⟨ha.1, hk, by omega⟩
    · exact hgen s.from' hfa (.inl rfl) (lnd_mono hfa fun k' hk' => by rw [ho] at hk'; cases hk'; omega)
/-- Between the same steps. -/
theorem later_holds {m : ML} {a b : Int} (hab : a ≤ b) (hn : 0 ≤ tk m b) (hno : ∀ k ∈ m.map (·.1), ¬ (a < k ∧ k ≤ b)) :
    lnd m a ≤ lnd m b ∧ (a = b ∨ lnd m a < lnd m b ∨ lnd m b = 4611686018427387903) := by
  have h2 : ∀ k, lk b (m.map (·.1)) = some k → k ≤ a := by
    intro k hk
    have := lk_last b (m.map (·.1))
    rw [hk] at this
    have h3 := hno k this.1
    have := this.2.1
    omega
  refine ⟨lnd_mono hab h2, ?_⟩
  unfold lnd
  rw [tk_same hab h2]
  unfold addT top
  omega
end Go.Proofs
