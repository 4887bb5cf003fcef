/-
  Contracts of the functions that the law reaches, step by step.
-/
import Derived.Test.YtigdaggjbnnjgaaSpC
namespace Go.Proofs
open Pk
set_option maxRecDepth 10000
/-! ### Plain: the greatest key up to a time -/
def isLast (ks : List Int) (a : Int) : Option Int → Prop
  | none => ∀ k ∈ ks, a < k
  | some x => x ∈ ks ∧ x ≤ a ∧ ∀ k ∈ ks, k ≤ a → k ≤ x
def lk (a : Int) : List Int → Option Int
  | [] => none
  | k :: ks => if k ≤ a then (match lk a ks with | none => some k | some m => some (max k m)) else lk a ks
theorem lk_last (a : Int) : ∀ ks, isLast ks a (lk a ks)
  | [] => by simp [lk, isLast]
  | k :: ks => by
    have ih := lk_last a ks
    unfold lk
    by_cases h : k ≤ a
    · rw [if_pos h]
      cases hl : lk a ks with
      | none =>
        rw [hl] at ih
        refine ⟨by simp, h, fun x hx hxa => ?_⟩
        rcases List.mem_cons.1 hx with rfl | hx
        · exact Int.le_refl _
        · have := ih x hx; omega
      | some m =>
        rw [hl] at ih
        obtain ⟨h1, h2, h3⟩ := ih
        refine ⟨?_, by omega, fun x hx hxa => ?_⟩
        · by_cases hkm : k ≤ m
          · rw [Int.max_eq_right hkm]; simp [h1]
          · rw [Int.max_eq_left (by omega)]; simp
        · rcases List.mem_cons.1 hx with rfl | hx
          · omega
          · have := h3 x hx hxa; omega
    · rw [if_neg h]
      cases hl : lk a ks with
      | none =>
        rw [hl] at ih
        intro x hx
        rcases List.mem_cons.1 hx with rfl | hx
        · omega
        · exact ih x hx
      | some m =>
        rw [hl] at ih
        obtain ⟨h1, h2, h3⟩ := ih
        refine ⟨by simp [h1], h2, fun x hx hxa => ?_⟩
        rcases List.mem_cons.1 hx with rfl | hx
        · omega
        · exact h3 x hx hxa
theorem isLast.uniq {ks : List Int} {a : Int} {o o' : Option Int} (h : isLast ks a o) (h' : isLast ks a o') : o = o' := by
  cases o with
  | none => cases o' with
    | none => rfl
    | some x => have := h x h'.1; have := h'.2.1; omega
  | some x => cases o' with
    | none => have := h' x h.1; have := h.2.1; omega
    | some x' => have h1 := h.2.2 x' h'.1 h'.2.1; have h2 := h'.2.2 x h.1 h.2.1; congr 1; omega
theorem isLast.perm {ks ks' : List Int} {a : Int} {o : Option Int} (h : isLast ks a o) (hp : ks.Perm ks') : isLast ks' a o := by
  cases o with
  | none => exact fun k hk => h k (hp.mem_iff.2 hk)
  | some x => exact ⟨hp.mem_iff.1 h.1, h.2.1, fun k hk => h.2.2 k (hp.mem_iff.2 hk)⟩
theorem isLast.snoc {ks : List Int} {a : Int} {o : Option Int} (h : isLast ks a o) (k : Int) : isLast (ks ++ [k]) a (if k ≤ a ∧ (o = none ∨ o.getD 0 < k) then some k else o) := by
  cases o with
  | none =>
    by_cases hk : k ≤ a
    · simp only [hk, true_and, true_or, if_true]
      exact ⟨by simp, hk, fun x hx hxa => by
        rcases List.mem_append.1 hx with hx | hx
        · have := h x hx; omega
        · simp at hx; omega⟩
    · simp only [hk, false_and, if_false]
      intro x hx
      rcases List.mem_append.1 hx with hx | hx
      · exact h x hx
      · simp at hx; omega
  | some m =>
    obtain ⟨h1, h2, h3⟩ := h
    by_cases hk : k ≤ a ∧ m < k
    · simp only [Option.getD_some, reduceCtorEq, false_or, hk, and_self, if_true]
      exact ⟨by simp, hk.1, fun x hx hxa => by
        rcases List.mem_append.1 hx with hx | hx
        · have := h3 x hx hxa; omega
        · simp at hx; omega⟩
    · simp only [Option.getD_some, reduceCtorEq, false_or, hk, if_false]
      exact ⟨by simp [h1], h2, fun x hx hxa => by
        rcases List.mem_append.1 hx with hx | hx
        · exact h3 x hx hxa
        · simp at hx; omega⟩
def tk (m : ML) (a : Int) : Int := match lk a (m.map (·.1)) with | none => 0 | some k => (mget m k).getD 0
/-! ### The table -/
abbrev ME := List (PK × (Nat × ML))
def total (M : ME) : Nat := (M.map (·.2.2.length)).sum
def ewN (x : Nat × ML) : Value := .map (some x.1)
structure TabAt (w : World) (t R : Nat) (M : ME) : Prop where
  cnt : w.cell? ⟨t, 0, none⟩ = some (.int .i64 (total M))
  thaw : w.frozen? ⟨t, 0, none⟩ = false
  cell : w.cell? ⟨t, 1, none⟩ = some (.map (some R))
  map : MapAt ekP ewN w R M
  inner : ∀ x ∈ M, MA w x.2.1 x.2.2
  refs : (M.map (·.2.1)).Nodup
  notR : ∀ x ∈ M, x.2.1 ≠ R
  full : ∀ x ∈ M, x.2.2 ≠ []
def Foot (t R : Nat) (M : ME) (k : Nat) : Prop := k = t ∨ k = R ∨ ∃ x ∈ M, k = x.2.1
theorem TabAt.keep {w w' : World} {t R : Nat} {M : ME} (h : TabAt w t R M) (hb : ∀ k, Foot t R M k → k < w.heap.size → w'.heap[k]? = w.heap[k]?) : TabAt w' t R M := by
  have ht : w'.heap[t]? = w.heap[t]? := hb t (.inl rfl) (World.block_lt_of_cell? _ _ h.cell)
  refine ⟨?_, ?_, ?_, h.map.keep (hb R (.inr (.inl rfl)) h.map.lt), fun x hx => (h.inner x hx).keep (hb _ (.inr (.inr ⟨x, hx, rfl⟩)) (h.inner x hx).lt), h.refs, h.notR, h.full⟩
  · rw [← h.cnt]; unfold World.cell?; rw [ht]
  · rw [← h.thaw]; unfold World.frozen?; rw [ht]
  · rw [← h.cell]; unfold World.cell?; rw [ht]
theorem TabAt.ext {w w' : World} {t R : Nat} {M : ME} (h : TabAt w t R M) (he : Ext w w') : TabAt w' t R M := h.keep fun k _ hk => he.blk k hk
theorem TabAt.mod {w w' : World} {t R : Nat} {M : ME} {S : Nat → Prop} (h : TabAt w t R M) (he : Mod S w w') (hs : ∀ k, Foot t R M k → ¬ S k) : TabAt w' t R M := h.keep fun k hf hk => he.blk k hk (hs k hf)
theorem TabAt.lt {w : World} {t R : Nat} {M : ME} (h : TabAt w t R M) : ∀ k, Foot t R M k → k < w.heap.size := by
  rintro k (rfl | rfl | ⟨x, hx, rfl⟩)
  · exact World.block_lt_of_cell? _ _ h.cell
  · exact h.map.lt
  · exact (h.inner x hx).lt
def sps (M : ME) (p : PK) : ML := ((mget M p).map (·.2)).getD []
def mv (M : ME) (p : PK) : Value := ((mget M p).map ewN).getD (.map none)
theorem mget_mem' {κ ν : Type} [DecidableEq κ] {M : List (κ × ν)} {p : κ} {x : ν} (h : mget M p = some x) : (p, x) ∈ M := by
  unfold mget at h
  rw [Option.map_eq_some_iff] at h
  obtain ⟨q, h1, rfl⟩ := h
  have h2 := List.find?_some h1
  have h3 := List.mem_of_find?_eq_some h1
  simp at h2
  subst h2
  exact h3
theorem TabAt.inn {w : World} {t R : Nat} {M : ME} (h : TabAt w t R M) (p : PK) : MV w (mv M p) (sps M p) := by
  unfold mv sps
  cases hg : mget M p with
  | none => exact .inr ⟨rfl, rfl⟩
  | some x => exact (h.inner _ (mget_mem' hg)).val
theorem TabAt.mvF {w : World} {t R : Nat} {M : ME} (_ : TabAt w t R M) {p : PK} {r : Nat} (e : mv M p = .map (some r)) : Foot t R M r := by
  unfold mv at e
  cases hg : mget M p with
  | none => rw [hg] at e; cases e
  | some x => rw [hg] at e; cases e; exact .inr (.inr ⟨_, mget_mem' hg, rfl⟩)
theorem TabAt.find {w : World} {t R : Nat} {M : ME} (h : TabAt w t R M) (f g : Int) : (Instr.lookup 61 (.map (some R)) (.agg #[.int .u32 f, .int .u32 g]) false).run Try.prog w = .ok (mv M (f, g)) w := by
  have := h.map.lookup k67 tm61 (z72 w) (f, g) false
  simpa [ekP, pkc, mv] using this
theorem none_c {w : World} {t R : Nat} {M : ME} (ht : TabAt w t R M) : FN Try.prog 23 [ptr t] w fun e w' => e = .returned (.bool false) ∧ w' = w := by
  refine FN_enter Try.func23 rfl rfl (by kernel_rfl) ?_
  simp [ht.cell]
theorem num_c (a : Int) (w : World) : FN Try.prog 12 [.int .i64 a] w fun e w' => e = .returned (.int .i64 a) ∧ w' = w := by
  refine FN_enter Try.func12 rfl rfl (by kernel_rfl) ?_
  simp
theorem new_c (w : World) : FN Try.prog 7 [] w fun e w' => ∃ t R, e = .returned (ptr t) ∧ TabAt w' t R [] ∧ Ext w w' ∧ w.heap.size ≤ t ∧ w.heap.size ≤ R := by
  refine FN_enter Try.func7 rfl rfl (by kernel_rfl) ?_
  simp
  refine ⟨w.heap.size, ⟨by simp [total], by simp, by simp, (MapAt.alloc0 _ _ w).ext ((Ext.refl _).alloc _), by simp, by simp, by simp, by simp⟩, ((Ext.refl _).alloc _).alloc _, Nat.le_refl _⟩
theorem len_c {w : World} {t R : Nat} {M : ME} (ht : TabAt w t R M) : FN Try.prog 14 [ptr t] w fun e w' => e = .returned (.int .i64 (total M)) ∧ w' = w := by
  refine FN_enter Try.func14 rfl rfl (by kernel_rfl) ?_
  simp
  refine FN.mono (none_c ht) ?_
  rintro _ _ ⟨rfl, rfl⟩
  simp [ht.cnt]
theorem of_c {w : World} {t R : Nat} {M : ME} (ht : TabAt w t R M) (f g : Int) : FN Try.prog 31 [ptr t, u32 f, u32 g] w fun e w' => e = .returned (mv M (f, g)) ∧ w' = w := by
  refine FN_enter Try.func31 rfl rfl (by kernel_rfl) ?_
  simp
  refine FN.mono (none_c ht) ?_
  rintro _ _ ⟨rfl, rfl⟩
  simp [ht.cell, ht.find]
theorem find' {w : World} {R : Nat} {M : ME} (h : MapAt ekP ewN w R M) (f g : Int) : (Instr.lookup 61 (.map (some R)) (.agg #[.int .u32 f, .int .u32 g]) false).run Try.prog w = .ok (mv M (f, g)) w := by
  have := h.lookup k67 tm61 (z72 w) (f, g) false
  simpa [ekP, pkc, mv] using this
theorem has_c' {w : World} {t R : Nat} {M : ME} {f g : Int} (hc : w.cell? ⟨t, 1, none⟩ = some (.map (some R))) (hm : MapAt ekP ewN w R M) (hi : MV w (mv M (f, g)) (sps M (f, g))) (a : Int) : FN Try.prog 26 [ptr t, .agg #[u32 f, u32 g], u64 a] w fun e w' => e = .returned (.bool (mget (sps M (f, g)) a).isSome) ∧ Ext w w' := by
  refine FN_enter Try.func26 rfl rfl (by kernel_rfl) ?_
  simp
  have hE := (Ext.refl w).alloc (.cells #[u32 f, u32 g] 67)
  have d1 : (w.alloc (.cells #[u32 f, u32 g] 67)).cell? ⟨w.heap.size, 0, none⟩ = some (u32 f) := by simp
  have d2 : (w.alloc (.cells #[u32 f, u32 g] 67)).cell? ⟨w.heap.size, 1, none⟩ = some (u32 g) := by simp
  generalize (w.alloc (.cells #[u32 f, u32 g] 67)) = w1 at *
  refine WC_drawQ 12 rfl (by kernel_rfl) ?_
  have hE2 := hE.trans (Ext.drew w1)
  have hl := (hi.ext hE2).lookup k23 tm72 (z23 _) a true
  simp [hE2.cell_eq hc, find' (hm.ext hE2), d1, d2, hl]
  exact hE2
theorem has_c {w : World} {t R : Nat} {M : ME} (ht : TabAt w t R M) (f g a : Int) : FN Try.prog 26 [ptr t, .agg #[u32 f, u32 g], u64 a] w fun e w' => e = .returned (.bool (mget (sps M (f, g)) a).isSome) ∧ Ext w w' := has_c' ht.cell ht.map (ht.inn _) a
theorem full_c {w : World} {t R : Nat} {M : ME} (ht : TabAt w t R M) : FN Try.prog 27 [ptr t] w fun e w' => e = .returned (.bool (decide (512 ≤ total M))) ∧ w' = w := by
  refine FN_enter Try.func27 rfl rfl (by kernel_rfl) ?_
  simp [ht.cnt]
  omega
theorem le_c {w : World} {b : Nat} {a : Int} (hv : Var w b (u64 a)) (k : Int) : FN Try.prog 36 [u64 k, ptr b] w fun e w' => e = .returned (.bool (decide (k ≤ a))) ∧ w' = w := by
  refine FN_enter Try.func36 rfl rfl (by kernel_rfl) ?_
  simp [hv.cell]
theorem greatest_c {w : World} {b : Nat} {a : Int} {v : Value} {m : ML} (hv : Var w b (u64 a)) (hm : MV w v m) :
    FN Try.prog 35 [v, .func (.func 36) #[] #[ptr b]] w fun e w' => e = .returned (.tuple #[u64 ((lk a (m.map (·.1))).getD 0), .bool (lk a (m.map (·.1))).isSome]) ∧ Ext w w' := by
  refine FN_enter Try.func35 rfl rfl (by kernel_rfl) ?_
  obtain ⟨o, hr, hi⟩ := hm.range (P := Try.prog) tm72
  simp [hr]
  have hE := (Ext.refl w).alloc o
  have hsz : (w.alloc o).heap.size = w.heap.size + 1 := by simp
  have hbl := hv.lt
  generalize (w.alloc o) = w1 at *
  refine WC_loop (fun k ρ ds w' => ∃ (idxs : List Nat) (o : Option Int), k + idxs.length = m.length ∧ ρ 1 = .func (.func 36) #[] #[ptr b] ∧ ρ 4 = u64 (o.getD 0) ∧ ρ 5 = .bool o.isSome ∧ ρ 8 = ptr w.heap.size ∧ ds = [] ∧ VIter (Value.int .u64) (Value.int .u64) w' w.heap.size v m idxs ∧
    isLast ((seenOf m idxs).map (·.1)) a o ∧ Ext w w') m.length ⟨[], none, by simp, by simp, by simp, by simp, by simp, rfl, hi, by simp [seenOf, isLast], hE⟩ ?_
  rintro k ρ ds w2 ⟨idxs, o, hk, e1, e4, e5, e8, rfl, hI, hL, hE2⟩
  rcases hI.next (P := Try.prog) 0 with ⟨hp, hrun⟩ | ⟨i, p, w3, hpi, hni, hrun, hI3, hM3, hent, hs3⟩
  · simp [e8, hrun, e4, e5]
    have := (hL.perm ((seenOf_all hp).map _)).uniq (lk_last a _)
    rw [this]
    exact ⟨⟨rfl, rfl⟩, hE2⟩
  · have hE3 : Ext w w3 := ((hE2.mod (S := fun k => w.heap.size ≤ k)).trans (hM3.weaken fun i hi => by omega)).ext fun _ h => h
    have hb3 := hI3.bound
    simp only [List.length_append, List.length_singleton] at hb3
    have hv3 := hv.ext hE3
    simp [e1, e8, hrun, hent]
    refine FN.mono (le_c hv3 p.1) ?_
    rintro _ _ ⟨rfl, hw⟩
    subst hw
    have hS := hL.snoc p.1
    have e : (seenOf m (idxs ++ [i])).map (·.1) = (seenOf m idxs).map (·.1) ++ [p.1] := by rw [seenOf_snoc hpi, List.map_append]; rfl
    rw [← e] at hS
    by_cases h1 : p.1 ≤ a
    · cases o with
      | none =>
        simp [h1, e1, e5, e8]
        refine ⟨k - 1, by omega, idxs ++ [i], by simp; omega, some p.1, rfl, rfl, hI3, ?_, hE3⟩
        simpa [h1] using hS
      | some x =>
        by_cases h2 : x < p.1
        · simp [h1, h2, e1, e4, e5, e8]
          refine ⟨k - 1, by omega, idxs ++ [i], by simp; omega, some p.1, rfl, rfl, hI3, ?_, hE3⟩
          simpa [h1, h2] using hS
        · simp [h1, h2, e1, e4, e5, e8]
          refine ⟨k - 1, by omega, idxs ++ [i], by simp; omega, some x, rfl, rfl, hI3, ?_, hE3⟩
          simpa [h1, h2] using hS
    · simp [h1, e1, e4, e5, e8]
      refine ⟨k - 1, by omega, idxs ++ [i], by simp; omega, o, rfl, rfl, hI3, ?_, hE3⟩
      simpa [h1] using hS
theorem ticks_c {w : World} {t R : Nat} {M : ME} (ht : TabAt w t R M) (f g a : Int) : FN Try.prog 13 [ptr t, u32 f, u32 g, u64 a] w fun e w' => e = .returned (u64 (tk (sps M (f, g)) a)) ∧ Ext w w' := by
  refine FN_enter Try.func13 rfl rfl (by kernel_rfl) ?_
  simp
  have hE := (Ext.refl w).alloc (.cells #[u64 a] 23)
  have hv := Var.new w (u64 a) 23
  generalize (w.alloc (.cells #[u64 a] 23)) = w1 at *
  have ht1 := ht.ext hE
  refine FN.mono (of_c ht1 f g) ?_
  rintro _ _ ⟨rfl, rfl⟩
  rename_i w1
  simp
  have hm := ht1.inn (f, g)
  refine FN.mono (greatest_c hv hm) ?_
  rintro _ w2 ⟨rfl, hE2⟩
  cases ho : lk a ((sps M (f, g)).map (·.1)) with
  | none =>
    simp [tk, ho]
    exact hE.trans hE2
  | some k =>
    have := (hm.ext hE2).lookup k23 tm72 (z23 w2) k false
    simp [tk, ho, this]
    exact hE.trans hE2
end Go.Proofs
