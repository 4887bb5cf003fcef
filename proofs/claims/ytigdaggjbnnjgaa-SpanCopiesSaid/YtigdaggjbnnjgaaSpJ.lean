/-
  Contracts of the functions that the law reaches, step by step.
-/
import Derived.Test.YtigdaggjbnnjgaaSpF
import Derived.Test.YtigdaggjbnnjgaaEngU
namespace Go.Proofs
open Pk
set_option maxRecDepth 10000
theorem flat_at {α : Type} {s : Nat} (g : α → List Value) (hg : ∀ x, (g x).length = s) : ∀ (l : List α) (i j : Nat) (x : α), l[i]? = some x → j < s → (l.flatMap g)[i * s + j]? = (g x)[j]?
  | [], i, j, x, h, _ => by simp at h
  | a :: l, 0, j, x, h, hj => by
    simp at h; subst h
    rw [List.flatMap_cons, Nat.zero_mul, Nat.zero_add, List.getElem?_append_left (by rw [hg]; exact hj)]
  | a :: l, i + 1, j, x, h, hj => by
    have := flat_at g hg l i j x (by simpa using h) hj
    rw [List.flatMap_cons, Nat.add_mul, Nat.one_mul, List.getElem?_append_right (by rw [hg]; omega), hg]
    rw [show i * s + s + j - s = i * s + j from by omega]
    exact this
structure StOk (s : St) : Prop where
  f : 0 ≤ s.f
  t : 0 ≤ s.t
  a : 0 ≤ s.a
  k : 0 ≤ s.k
theorem gdT_set {w : World} {t R : Nat} {M M' : ME} {s : St} (ht : TabAt w t R M') (hg : gdT M) (hs : StOk s) (h : ∀ q, sps M' q = if setE M s = 0 ∧ q = (s.f, s.t) then mset (sps M q) s.a s.k else sps M q) : gdT M' := by
  refine gdT_of ht fun q => ?_
  rw [h]
  split
  · rename_i hc
    have hb : badS s = false := by
      cases hb : badS s with
      | false => rfl
      | true => simp [setE, hb] at hc
    unfold badS at hb
    simp only [Bool.or_eq_false_iff, decide_eq_false_iff_not] at hb
    intro p hp
    rcases kset_mem hp with rfl | ⟨hp, _⟩
    · have h1 := hs.a
      have h2 := hs.k
      simp only
      omega
    · exact hg.sps q p hp
  · exact hg.sps q
theorem sps_len {w : World} {t R : Nat} {M : ME} (ht : TabAt w t R M) (q : PK) : (sps M q).length ≤ total M := by
  unfold sps
  cases hg : mget M q with
  | none => simp
  | some x => exact len_le_total (p := q) (r := x.1) (l := x.2) ht.map.nodup hg
theorem agr_set {S : Nat → Prop} {w : World} (p : Addr) (v : Value) (h : ¬ S p.block) : Agr S w (w.setCell p v) :=
  (Mod.setCell (S := fun k => k = p.block) (Mod.refl _ w) p v (.inl rfl)).agr fun i hi e => by subst e; exact h hi
def two (x y : Int) (i : Nat) : Int := if i = 0 then x else y
set_option maxHeartbeats 1000000 in
theorem SpanHolds_c {w : World} {v : Value} {l : List St} {s : Sp2} {x y : Int} (hl : SlA w 4 v l.length (l.flatMap stCells)) (hp : ∀ q ∈ l, StOk q) (hf : 0 ≤ s.from') (hx : 0 ≤ x) (hy : 0 ≤ y) :
    FN Try.prog 3 [v, spV s, .agg #[u64 x, u64 y]] w fun e w' => e = .returned (.bool true) ∧ Ext w w' := by
  refine FN_enter Try.func3 rfl rfl (by kernel_rfl) ?_
  have hE1 : Ext w ((w.alloc (.cells #[u64 s.from', u64 s.til] 25)).alloc (.cells #[u64 x, u64 y] 26)) := ((Ext.refl w).alloc _).alloc _
  have a0 : ((w.alloc (.cells #[u64 s.from', u64 s.til] 25)).alloc (.cells #[u64 x, u64 y] 26)).cell? ⟨w.heap.size, 0, none⟩ = some (u64 s.from') := by simp
  have a1 : ((w.alloc (.cells #[u64 s.from', u64 s.til] 25)).alloc (.cells #[u64 x, u64 y] 26)).cell? ⟨w.heap.size, 1, none⟩ = some (u64 s.til) := by simp
  have b0 : ((w.alloc (.cells #[u64 s.from', u64 s.til] 25)).alloc (.cells #[u64 x, u64 y] 26)).cell? ⟨w.heap.size + 1, 0, none⟩ = some (u64 x) := by simp
  have b1 : ((w.alloc (.cells #[u64 s.from', u64 s.til] 25)).alloc (.cells #[u64 x, u64 y] 26)).cell? ⟨w.heap.size + 1, 1, none⟩ = some (u64 y) := by simp
  have hsz : ((w.alloc (.cells #[u64 s.from', u64 s.til] 25)).alloc (.cells #[u64 x, u64 y] 26)).heap.size = w.heap.size + 1 + 1 := by simp
  by_cases h30 : 30 < l.length
  · have hb : decide ((30 : Int) < (l.length : Int)) = true := by simp; omega
    simp [hl.isLen, hb]
    generalize ((w.alloc (.cells #[u64 s.from', u64 s.til] 25)).alloc (.cells #[u64 x, u64 y] 26)) = w1 at *
    refine FN.mono (works_c w1) ?_
    rintro _ w2 ⟨rfl, hE⟩
    simp
    exact hE1.trans hE
  · have hb : decide ((30 : Int) < (l.length : Int)) = false := by simp; omega
    simp [hl.isLen, hb]
    generalize ((w.alloc (.cells #[u64 s.from', u64 s.til] 25)).alloc (.cells #[u64 x, u64 y] 26)) = w1 at *
    have hl1 := hl.ext hE1
    refine FN.mono (new_c w1) ?_
    rintro _ w2 ⟨t, R, rfl, ht, hE2, hlt, hlr⟩
    have o2 := OwnT.new ht hE2 hlt hlr
    simp
    refine WC_loop (fun k ρ ds w' => ∃ (i : Nat) (M : ME), k = l.length - i ∧ i ≤ l.length ∧ ρ 0 = v ∧ ρ 4 = ptr w.heap.size ∧ ρ 5 = ptr (w.heap.size + 1) ∧ ρ 7 = ptr t ∧ ρ 8 = .int .i64 i ∧ ds = [] ∧ OwnT w1 w' t R M ∧ total M ≤ i ∧ gdT M) l.length
      ⟨0, [], by simp, by simp, by simp, by simp, by simp, by simp, by simp, rfl, o2, by simp [total], fun _ h => by cases h⟩ ?_
    rintro k ρ ds w3 ⟨i, M, rfl, hi, e0, e4, e5, e7, e8, rfl, o3, ht3, hg⟩
    by_cases hli : i < l.length
    · have hq := List.getElem?_eq_getElem hli
      have d := fun (j : Nat) (u : Value) (hj : j < 4) (h : (stCells l[i])[j]? = some u) => (hl1.ext o3.ext).at_ (i * 4 + j) u ((flat_at stCells (fun _ => rfl) l i j l[i] hq hj).trans h)
      have d0 := d 0 _ (by omega) rfl
      have d1 := d 1 _ (by omega) rfl
      have d2 := d 2 _ (by omega) rfl
      have d3 := d 3 _ (by omega) rfl
      rw [← Nat.add_assoc] at d0 d1 d2 d3
      have ix := hl.index (P := Try.prog) (t := 22) (by simp) .i64 i (by omega) (by omega) w3
      simp at d0
      simp [e0, e7, e8, hl.isLen, hli, ix, d0, d1, d2, d3]
      refine FN.mono (setM o3 (by omega) l[i]) ?_
      rintro _ w4 ⟨rfl, M4, o4, s4, n4⟩
      simp [e0, e4, e5, e7, e8]
      refine ⟨l.length - (i + 1), by omega, i + 1, rfl, by omega, by rw [wrap64 _ (by omega) (by omega)]; rfl, M4, o4, ?_, gdT_set o4.tab hg (hp _ (by simp)) s4⟩
      rw [n4]; split <;> omega
    · have a0' := o3.ext.cell_eq a0
      have a1' := o3.ext.cell_eq a1
      have hlen3 := sps_len o3.tab (1, 2)
      obtain ⟨ys, hys⟩ := isKeys_ex (sps M (1, 2))
      simp [e0, e4, e7, e8, hl.isLen, hli, a0', a1']
      refine FN.mono (best_c o3.tab hg 1 2 s hf (by omega) hys) ?_
      rintro _ w4 ⟨rfl, hE4⟩
      have o4 := o3.ext' hE4
      have a0' := o4.ext.cell_eq a0
      have a1' := o4.ext.cell_eq a1
      have hcond : (inS s s.from' != (decide (s.from' < s.til) && decide (s.til ≤ 4611686018427387903))) = false := by
        unfold inS spOk
        by_cases h1 : s.from' < s.til <;> by_cases h2 : s.til ≤ 4611686018427387903 <;> simp [h1, h2] <;> omega
      have hin : ∀ a, inS s s.from' = true → ¬ a < s.from' → ¬ s.til ≤ a → inS s a = true := by
        intro a h1 h2 h3
        unfold inS at h1 ⊢
        simp only [Bool.and_eq_true, decide_eq_true_eq] at h1 ⊢
        exact ⟨h1.1, by omega, by omega⟩
      obtain ⟨bt, hbt⟩ : ∃ bt, bt = if inS s s.from' then bst (sps M (1, 2)) s s.from' ys else 0 := ⟨_, rfl⟩
      have htup : (if inS s s.from' then Value.tuple #[u64 (bst (sps M (1, 2)) s s.from' ys), .bool true] else .tuple #[u64 0, .bool false]) = .tuple #[u64 bt, .bool (inS s s.from')] := by
        rw [hbt]; cases inS s s.from' <;> rfl
      rw [htup]
      refine with_tail (T := ∀ σ : Env, (σ 0 = v ∧ σ 4 = ptr w.heap.size ∧ σ 5 = ptr (w.heap.size + 1) ∧ σ 7 = ptr t ∧ σ 9 = u32 1 ∧ σ 10 = u32 2 ∧ σ 11 = u64 bt ∧ σ 12 = .bool (inS s s.from') ∧ σ 13 = .int .i64 0) → WC Try.prog 179 none ?c ?Q σ [] w4) (fun tail => ?_) ?_
      rotate_left 2
      · by_cases h1 : s.from' < s.til
        · by_cases h2 : s.til ≤ 4611686018427387903
          · have h3 : inS s s.from' = true := by unfold inS spOk; simp [h1, h2]; omega
            simp [e4, a0', a1', h1, h2, h3]
            refine tail _ ?_
            simp [e0, e4, e5, e7, h3]
          · have h3 : inS s s.from' = false := by unfold inS spOk; simp [h1, h2]
            simp [e4, a0', a1', h1, h2, h3]
            refine tail _ ?_
            simp [e0, e4, e5, e7, h3]
        · have h3 : inS s s.from' = false := by unfold inS spOk; simp [h1]
          simp [e4, a0', a1', h1, h3]
          refine tail _ ?_
          simp [e0, e4, e5, e7, h3]
      · rintro σ ⟨e0, e4, e5, e7, e9, e10, e11, e12, e13⟩
        have b0' := o4.ext.cell_eq b0
        have b1' := o4.ext.cell_eq b1
        refine WC_loop (fun k ρ ds w' => ∃ (i : Nat), k = l.length + 2 - i ∧ i ≤ l.length + 2 ∧ ρ 0 = v ∧ ρ 4 = ptr w.heap.size ∧ ρ 5 = ptr (w.heap.size + 1) ∧ ρ 7 = ptr t ∧ ρ 9 = u32 1 ∧ ρ 10 = u32 2 ∧ ρ 11 = u64 bt ∧ ρ 12 = .bool (inS s s.from') ∧ ρ 13 = .int .i64 i ∧ ds = [] ∧ OwnT w1 w' t R M) (l.length + 2)
          ⟨0, by simp, by simp, e0, e4, e5, e7, e9, e10, e11, e12, e13, rfl, o4⟩ ?_
        rintro k ρ ds w5 ⟨i, rfl, hi2, e0, e4, e5, e7, e9, e10, e11, e12, e13, rfl, o5⟩
        refine with_tail (T := ∀ σ : Env, (σ 4 = ptr w.heap.size ∧ σ 5 = ptr (w.heap.size + 1) ∧ σ 7 = ptr t ∧ σ 9 = u32 1 ∧ σ 10 = u32 2) → WC Try.prog 179 none ?cB ?QB σ [] w5) (fun tail => ?_) ?_
        rotate_left 2
        · have hnx : decide ((i : Int) < (l.length : Int) + 2) = decide (i < l.length + 2) := by simp; omega
          have hwl : IntKind.i64.wrap ((l.length : Int) + 2) = (l.length : Int) + 2 := wrap64 _ (by omega) (by omega)
          by_cases hc : i < l.length + 2
          · by_cases hin0 : inS s s.from' = true
            rotate_left
            · have hin1 : inS s s.from' = false := by simpa using hin0
              simp [e0, e12, e13, hl.isLen, hwl, hnx, hc, hin1]
              refine tail _ ?_
              simp [e4, e5, e7, e9, e10]
            · have a0' := o5.ext.cell_eq a0
              have a1' := o5.ext.cell_eq a1
              have b0' := o5.ext.cell_eq b0
              have b1' := o5.ext.cell_eq b1
              have hbt' : bt = bst (sps M (1, 2)) s s.from' ys := by rw [hbt, hin0]; rfl
              obtain ⟨j, hj, hmin, cj⟩ : ∃ j : Nat, j < 2 ∧ min (i : Int) 1 = (j : Int) ∧ w5.cell? ⟨w.heap.size + 1, j, none⟩ = some (u64 (two x y i)) := by
                by_cases h0 : i = 0
                · subst h0; exact ⟨0, by omega, rfl, by simpa [two] using b0'⟩
                · exact ⟨1, by omega, by omega, by simpa [two, h0] using b1'⟩
              have hj' : (j : Int) < 2 := by omega
              refine with_tail (T := ∀ (σ : Env) (a : Int), (σ 0 = v ∧ σ 4 = ptr w.heap.size ∧ σ 5 = ptr (w.heap.size + 1) ∧ σ 7 = ptr t ∧ σ 9 = u32 1 ∧ σ 10 = u32 2 ∧ σ 11 = u64 bt ∧ σ 12 = .bool true ∧ σ 13 = .int .i64 i ∧ σ 14 = u64 a) → inS s a = true ∧ 0 ≤ a → FN Try.prog 10 [ptr t, u32 1, u32 2, u64 a] w5 (RC (some 96) ?KC ?QC σ [])) (fun tail2 => ?_) ?_
              rotate_left 2
              · have hnext : ∃ m', m' < l.length + 2 - i ∧ ∃ (i' : Nat), m' = l.length + 2 - i' ∧ i' ≤ l.length + 2 ∧ IntKind.i64.wrap ((i : Int) + 1) = (i' : Int) ∧ OwnT w1 w5 t R M := ⟨l.length + 2 - (i + 1), by omega, i + 1, rfl, by omega, by rw [wrap64 _ (by omega) (by omega)]; rfl, o5⟩
                by_cases h2 : i < 2
                · have h2' : ¬ (2 : Int) ≤ (i : Int) := by omega
                  have h20 : 0 ≤ two x y i := by unfold two; split <;> assumption
                  by_cases h3 : two x y i < s.from'
                  · simp [e0, e4, e5, e7, e9, e10, e11, e12, e13, hl.isLen, hwl, hnx, hc, hin0, hmin, hj', cj, a0', h2', h3]
                    exact hnext
                  · by_cases h4 : s.til ≤ two x y i
                    · simp [e0, e4, e5, e7, e9, e10, e11, e12, e13, hl.isLen, hwl, hnx, hc, hin0, hmin, hj', cj, a0', a1', h2', h3, h4]
                      exact hnext
                    · simp [e0, e4, e5, e7, e9, e10, e12, e13, hl.isLen, hwl, hnx, hc, hin0, hmin, hj', cj, a0', a1', h2', h3, h4]
                      refine tail2 _ _ ?_ ⟨hin _ hin0 h3 h4, h20⟩
                      simp [e0, e4, e5, e7, e9, e10, e11, e12, e13, hin0]
                · have h2' : (2 : Int) ≤ (i : Int) := by omega
                  have hq := List.getElem?_eq_getElem (show i - 2 < l.length by omega)
                  have d2 := (hl1.ext o5.ext).at_ ((i - 2) * 4 + 2) _ ((flat_at stCells (fun _ => rfl) l (i - 2) 2 l[i - 2] hq (by omega)).trans (show _ = some (u64 l[i - 2].a) from rfl))
                  have h20 : 0 ≤ l[i - 2].a := (hp _ (by simp)).a
                  have ew : IntKind.i64.wrap ((i : Int) - 2) = ((i - 2 : Nat) : Int) := by rw [wrap64 _ (by omega) (by omega)]; omega
                  have ix := hl.index (P := Try.prog) (t := 22) (by simp) .i64 ((i - 2 : Nat) : Int) (by omega) (by omega) w5
                  rw [← Nat.add_assoc] at d2
                  by_cases h3 : l[i - 2].a < s.from'
                  · simp [e0, e4, e5, e7, e9, e10, e11, e12, e13, hl.isLen, hwl, hnx, hc, hin0, hmin, hj', cj, a0', h2', h3, ew, ix, d2]
                    exact hnext
                  · by_cases h4 : s.til ≤ l[i - 2].a
                    · simp [e0, e4, e5, e7, e9, e10, e11, e12, e13, hl.isLen, hwl, hnx, hc, hin0, hmin, hj', cj, a0', a1', h2', h3, h4, ew, ix, d2]
                      exact hnext
                    · simp [e0, e4, e5, e7, e9, e10, e12, e13, hl.isLen, hwl, hnx, hc, hin0, hmin, hj', cj, a0', a1', h2', h3, h4, ew, ix, d2]
                      refine tail2 _ _ ?_ ⟨hin _ hin0 h3 h4, h20⟩
                      simp [e0, e4, e5, e7, e9, e10, e11, e12, e13, hin0]
              · rintro σ a ⟨e0, e4, e5, e7, e9, e10, e11, e12, e13, e14⟩ ⟨ha, ha0⟩
                have hbt0 : 0 ≤ bt := by
                  rw [hbt']
                  exact bst_0 _ s ys _ hf fun k hk => by
                    obtain ⟨q, hq, rfl⟩ := List.mem_map.1 (hys.1.mem_iff.1 hk)
                    exact (hg.sps _ q hq).1.1
                have hbest := best_holds hys ha
                rw [← hbt'] at hbest
                refine FN.mono (lands_c o5.tab hg 1 2 a ha0) ?_
                rintro _ w6 ⟨rfl, hE6⟩
                simp [e7, e9, e10, e11]
                refine FN.mono (lands_c (o5.tab.ext hE6) hg 1 2 bt hbt0) ?_
                rintro _ w7 ⟨rfl, hE7⟩
                have o7 := (o5.ext' hE6).ext' hE7
                have h5 : ¬ lnd (sps M (1, 2)) a < lnd (sps M (1, 2)) bt := fun h => hbest (.inl h)
                have hnext : ∃ m', m' < l.length + 2 - i ∧ ∃ (i' : Nat), m' = l.length + 2 - i' ∧ i' ≤ l.length + 2 ∧ IntKind.i64.wrap ((i : Int) + 1) = (i' : Int) ∧ OwnT w1 w7 t R M := ⟨l.length + 2 - (i + 1), by omega, i + 1, rfl, by omega, by rw [wrap64 _ (by omega) (by omega)]; rfl, o7⟩
                by_cases h6 : lnd (sps M (1, 2)) a = lnd (sps M (1, 2)) bt
                · have h7 : ¬ a < bt := fun h => hbest (.inr ⟨h6, h⟩)
                  simp [e0, e4, e5, e7, e9, e10, e11, e12, e13, e14, h6, h7, hin0]
                  exact hnext
                · have h6' : (lnd (sps M (1, 2)) a == lnd (sps M (1, 2)) bt) = false := by simpa using h6
                  simp [e0, e4, e5, e7, e9, e10, e11, e12, e13, h5, h6', hin0]
                  exact hnext
          · simp [e0, e13, hl.isLen, hwl, hnx, hc]
            refine tail _ ?_
            simp [e4, e5, e7, e9, e10]
        · rintro σ ⟨e4, e5, e7, e9, e10⟩
          have b0' := o5.ext.cell_eq b0
          have b1' := o5.ext.cell_eq b1
          have hs5 := o5.ext.size
          have hX : decide (w5.heap.size ≤ w.heap.size + 1) = false := by simp; omega
          obtain ⟨pm, hpm⟩ : ∃ pm, pm = min x y := ⟨_, rfl⟩
          obtain ⟨qm, hqm⟩ : ∃ qm, qm = max x y := ⟨_, rfl⟩
          refine with_tail (T := ∀ (σ : Env) (W : World) (p1 p2 p3 : Nat), (σ 7 = ptr t ∧ σ 9 = u32 1 ∧ σ 10 = u32 2 ∧ σ 17 = ptr p1 ∧ σ 18 = ptr p2 ∧ σ 19 = ptr p3) → Var W p1 (u64 pm) ∧ Var W p2 (u64 qm) ∧ Var W p3 (.bool false) ∧ p1 ≠ p3 ∧ p2 ≠ p3 ∧ Ext w5 W ∧ w5.heap.size ≤ p3 → FN Try.prog 11 [ptr t, u32 1, u32 2] W (RC (some 128) ?KD ?QD σ [])) (fun tail => ?_) ?_
          rotate_left 2
          · refine WC_drawC 13 (.F 0 <| .F 1 <| .F 2 <| .F 3 <| .F 4 <| .F 5 <| .F 6 <| .F 7 <| .F 8 <| .F 9 <| .E 10 (.C 11 <| .C 12 <| .Z) (.E 11 (.C 10 <| .C 12 <| .Z) .Z)) (fun k => decide (w5.heap.size ≤ k)) rfl (by kernel_rfl) fun W hW => ?_
            have hWE : Ext w5 W := hW ▸ Ext.drew _
            have hWs : W.heap.size = w5.heap.size := by rw [hW]; rfl
            have c0 := hWE.cell_eq b0'
            have c1 := hWE.cell_eq b1'
            simp [e5, c0, c1, hX]
            refine RT_alt ?_ ?_
            · simp
              refine KR_ext ((Ext.refl _).alloc _) ?_
              simp
              refine KR_ext ((Ext.refl _).alloc _) ?_
              have v1 := (Var.new W (u64 0) 23).ext ((Ext.refl _).alloc (.cells #[u64 0] 23))
              have v2 : Var ((W.alloc (.cells #[u64 0] 23)).alloc (.cells #[u64 0] 23)) (W.heap.size + 1) (u64 0) := by
                have := Var.new (W.alloc (.cells #[u64 0] 23)) (u64 0) 23
                simpa using this
              have hE6 := (hWE.alloc (.cells #[u64 0] 23)).alloc (.cells #[u64 0] 23)
              have z6 : ((W.alloc (.cells #[u64 0] 23)).alloc (.cells #[u64 0] 23)).heap.size = W.heap.size + 1 + 1 := by simp
              obtain ⟨B, hB⟩ : ∃ B, B = W.heap.size := ⟨_, rfl⟩
              rw [← hB] at v1 v2 z6 hWs ⊢
              generalize ((W.alloc (.cells #[u64 0] 23)).alloc (.cells #[u64 0] 23)) = W2 at *
              simp [v1.cell, v1.thaw]
              refine KR_mk (agr_set _ _ (by simp; omega)) ?_
              have hM := Mod.setCell (S := (· = B)) (Mod.refl _ W2) ⟨B, 0, none⟩ (u64 (min x y)) (.inl rfl)
              have v1' := v1.set (u64 (min x y))
              have v2' := v2.mod hM (by omega)
              have hE7 := hE6.setCell ⟨B, 0, none⟩ (u64 (min x y)) (by simp only; omega)
              have z7 : (W2.setCell ⟨B, 0, none⟩ (u64 (min x y))).heap.size = B + 1 + 1 := by simpa using z6
              generalize (W2.setCell ⟨B, 0, none⟩ (u64 (min x y))) = W3 at *
              simp [v2'.cell, v2'.thaw, e7, e9, e10]
              have hM := Mod.setCell (S := (· = B + 1)) (Mod.refl _ W3) ⟨B + 1, 0, none⟩ (u64 (max x y)) (.inl rfl)
              have v1'' := v1'.mod hM (by omega)
              have v2'' := v2'.set (u64 (max x y))
              have hE8 := hE7.setCell ⟨B + 1, 0, none⟩ (u64 (max x y)) (by simp only; omega)
              have z8 : (W3.setCell ⟨B + 1, 0, none⟩ (u64 (max x y))).heap.size = B + 1 + 1 := by simpa using z7
              generalize (W3.setCell ⟨B + 1, 0, none⟩ (u64 (max x y))) = W4 at *
              have hE9 := hE8.alloc (.cells #[.bool false] 4)
              have hx := (Ext.refl W4).alloc (.cells #[.bool false] 4)
              have v3 := Var.new W4 (.bool false) 4
              rw [z8] at v3
              refine tail _ _ B (B + 1) (B + 1 + 1) ?_ ⟨by rw [hpm]; exact v1''.ext hx, by rw [hqm]; exact v2''.ext hx, v3, by omega, by omega, hE9, by omega⟩
              simp [e7, e9, e10]
            · simp
              refine KR_ext ((Ext.refl _).alloc _) ?_
              simp
              refine KR_ext ((Ext.refl _).alloc _) ?_
              have v2 := (Var.new W (u64 0) 23).ext ((Ext.refl _).alloc (.cells #[u64 0] 23))
              have v1 : Var ((W.alloc (.cells #[u64 0] 23)).alloc (.cells #[u64 0] 23)) (W.heap.size + 1) (u64 0) := by
                have := Var.new (W.alloc (.cells #[u64 0] 23)) (u64 0) 23
                simpa using this
              have hE6 := (hWE.alloc (.cells #[u64 0] 23)).alloc (.cells #[u64 0] 23)
              have z6 : ((W.alloc (.cells #[u64 0] 23)).alloc (.cells #[u64 0] 23)).heap.size = W.heap.size + 1 + 1 := by simp
              obtain ⟨B, hB⟩ : ∃ B, B = W.heap.size := ⟨_, rfl⟩
              rw [← hB] at v1 v2 z6 hWs ⊢
              generalize ((W.alloc (.cells #[u64 0] 23)).alloc (.cells #[u64 0] 23)) = W2 at *
              simp [v1.cell, v1.thaw]
              refine KR_mk (agr_set _ _ (by simp; omega)) ?_
              have hM := Mod.setCell (S := (· = B + 1)) (Mod.refl _ W2) ⟨B + 1, 0, none⟩ (u64 (min x y)) (.inl rfl)
              have v1' := v1.set (u64 (min x y))
              have v2' := v2.mod hM (by omega)
              have hE7 := hE6.setCell ⟨B + 1, 0, none⟩ (u64 (min x y)) (by simp only; omega)
              have z7 : (W2.setCell ⟨B + 1, 0, none⟩ (u64 (min x y))).heap.size = B + 1 + 1 := by simpa using z6
              generalize (W2.setCell ⟨B + 1, 0, none⟩ (u64 (min x y))) = W3 at *
              simp [v2'.cell, v2'.thaw, e7, e9, e10]
              have hM := Mod.setCell (S := (· = B)) (Mod.refl _ W3) ⟨B, 0, none⟩ (u64 (max x y)) (.inl rfl)
              have v1'' := v1'.mod hM (by omega)
              have v2'' := v2'.set (u64 (max x y))
              have hE8 := hE7.setCell ⟨B, 0, none⟩ (u64 (max x y)) (by simp only; omega)
              have z8 : (W3.setCell ⟨B, 0, none⟩ (u64 (max x y))).heap.size = B + 1 + 1 := by simpa using z7
              generalize (W3.setCell ⟨B, 0, none⟩ (u64 (max x y))) = W4 at *
              have hE9 := hE8.alloc (.cells #[.bool false] 4)
              have hx := (Ext.refl W4).alloc (.cells #[.bool false] 4)
              have v3 := Var.new W4 (.bool false) 4
              rw [z8] at v3
              refine tail _ _ (B + 1) B (B + 1 + 1) ?_ ⟨by rw [hpm]; exact v1''.ext hx, by rw [hqm]; exact v2''.ext hx, v3, by omega, by omega, hE9, by omega⟩
              simp [e7, e9, e10]
          · rintro σ W p1 p2 p3 ⟨e7, e9, e10, e17, e18, e19⟩ ⟨v1, v2, v3, n1, n2, hE5, hp3⟩
            have ht5 := o5.tab.ext hE5
            refine FN.mono (steps_c ht5 1 2) ?_
            rintro _ W6 ⟨b, o, rfl, vv, hmv, hE6, -, -⟩
            simp [e7, e9, e10]
            refine FN.mono (steps_c (ht5.ext hE6) 1 2) ?_
            rintro _ W7 ⟨b', o', rfl, vv', hmv', hE7, hb, hr⟩
            have v17 := (v1.ext hE6).ext hE7
            have v27 := (v2.ext hE6).ext hE7
            have v37 := (v3.ext hE6).ext hE7
            have hE57 := (hE5.trans hE6).trans hE7
            have hp6 := (v3.ext hE6).lt
            let f : Int → Bool := fun k => decide (pm < k) && decide (k ≤ qm)
            have len5 := sps_len o5.tab (1, 2)
            refine WC_rangeFunc (gf := 32) (first := #[]) (caps := #[ptr b']) (enc := stC (sps M (1, 2))) (by simp) (fun _ _ => callFunc_enter Try.func32 rfl rfl _ _) (steps_it vv' hmv' (by omega) hys) (fun x => rfl) (fun k => k = p3)
              (fun C pre W => Var W p3 (.bool (pre.any f)) ∧ (∀ k, C k ↔ k = p3) ∧ Var W p1 (u64 pm) ∧ Var W p2 (u64 qm) ∧ Ext w5 W) (fun _ _ _ _ => False)
              (fun k hk => ?_) (fun k hk => by have := v37.lt; omega) ?_ (fun _ _ _ _ _ h _ => h.elim) ⟨by simpa using v37, fun _ => Iff.rfl, v17, v27, hE57⟩ ?ρ ?ha ?_ ?_ (fun _ _ _ _ _ h _ => h.elim)
            case ha =>
              intro l x W
              simp [stC]
              exact rfl
            · rcases hk with rfl | hk
              · exact ⟨vv'.lt, by omega⟩
              · cases hk
                exact ⟨hmv'.lt rfl, by have := hr k rfl; omega⟩
            · rintro C pre W W' ⟨h1, h2, h3, h4, h5⟩ hag
              refine ⟨h1.agr hag (.inr ((h2 _).2 rfl)), h2, h3.agr hag (.inl v17.lt), h4.agr hag (.inl v27.lt), ?_⟩
              exact ⟨hag.os.trans h5.os, hag.tape.trans h5.tape, hag.out.trans h5.out, Nat.le_trans h5.size hag.size, fun i hi => (hag.blk i (Nat.lt_of_lt_of_le hi h5.size) (.inl (by have := hE57.size; omega))).trans (h5.blk i hi)⟩
            · rintro l C pre z W hsp ⟨h1, h2, h3, h4, h5⟩ - - -
              have hany : (pre ++ [z]).any f = (pre.any f || f z) := by simp
              have hM : ∀ u, Own C C W (W.setCell ⟨p3, 0, none⟩ u) := fun u => Own.of_mod (Mod.setCell (Mod.refl _ _) ⟨p3, 0, none⟩ u (.inl ((h2 _).2 rfl)))
              have fin : ∀ bb : Bool, bb = (pre.any f || f z) → ∃ C', (Var (W.setCell ⟨p3, 0, none⟩ (.bool bb)) p3 (.bool ((pre ++ [z]).any f)) ∧ (∀ k, C' k ↔ k = p3) ∧ Var (W.setCell ⟨p3, 0, none⟩ (.bool bb)) p1 (u64 pm) ∧ Var (W.setCell ⟨p3, 0, none⟩ (.bool bb)) p2 (u64 qm) ∧ Ext w5 (W.setCell ⟨p3, 0, none⟩ (.bool bb))) ∧ Own C C' W (W.setCell ⟨p3, 0, none⟩ (.bool bb)) := by
                intro bb hbb
                have hm := Mod.setCell (S := (· = p3)) (Mod.refl _ W) ⟨p3, 0, none⟩ (.bool bb) (.inl rfl)
                refine ⟨C, ⟨?_, h2, h3.mod hm n1, h4.mod hm n2, h5.setCell _ _ hp3⟩, hM _⟩
                rw [hany, ← hbb]
                exact h1.set _
              simp [e19, h1.cell]
              by_cases hb : pre.any f = true
              · simp [hb, e19, h1.cell, h1.thaw]
                simpa [hb] using fin true (by simp [hb])
              · have hb' : pre.any f = false := by simpa using hb
                by_cases h6 : pm < z
                · by_cases h7 : z ≤ qm
                  · simp [hb', h6, h7, e17, e18, e19, h1.cell, h1.thaw, h3.cell, h4.cell]
                    simpa [f, h6, h7] using fin true (by simp [f, h6, h7])
                  · simp [hb', h6, h7, e17, e18, e19, h1.cell, h1.thaw, h3.cell, h4.cell]
                    simpa [f, h6, h7, hb'] using fin false (by simp [f, h6, h7, hb'])
                · simp [hb', h6, e17, e19, h1.cell, h1.thaw, h3.cell]
                  simpa [f, h6, hb'] using fin false (by simp [f, h6, hb'])
            · rintro C xs W rfl ⟨h1, h2, h3, h4, h5⟩ hD
              have oW := o5.ext' h5
              have hs0 := o5.ext.size
              by_cases hb : xs.any f = true
              · simp [e19, h1.cell, hb]
                refine FN.mono (works_c W) ?_
                rintro _ W8 ⟨rfl, hE8⟩
                simp
                refine LV_mark (hE8.obj hD) (by simp) ?_
                simp
                exact ((hE1.trans oW.ext).trans hE8).putObj _ _ (by have := hE57.size; have := hE1.size; omega)
              · have hb' : xs.any f = false := by simpa using hb
                have hpq : pm ≤ qm := by omega
                have hpm0 : 0 ≤ pm := by omega
                have hqm0 : 0 ≤ qm := by omega
                obtain ⟨g1, g2⟩ := later_holds (m := sps M (1, 2)) hpq (tk_0 (hg.sps _) _) (fun k hk hkk => by
                  have h6 : k ∈ xs := hys.1.mem_iff.2 hk
                  have h7 := List.any_eq_false.1 hb' k h6
                  simp [f, hkk.1, hkk.2] at h7)
                simp [e19, h1.cell, hb']
                refine WC_drawC 9 (.F 0 <| .F 1 <| .F 2 <| .F 3 <| .F 5 <| .F 6 <| .F 7 <| .F 8 <| .C 4 <| .Z) (fun _ => false) rfl (by kernel_rfl) fun Wd hWd => ?_
                have hEd : Ext W Wd := hWd ▸ Ext.drew _
                have od := oW.ext' hEd
                simp [e7, e9, e10, e17, e18, (h3.ext hEd).cell, (h4.ext hEd).cell]
                refine FN.mono (lands_c od.tab hg 1 2 pm hpm0) ?_
                rintro _ W8 ⟨rfl, hE8⟩
                simp
                refine KR_ext hE8 ?_
                simp [e7, e9, e10]
                refine FN.mono (lands_c (od.ext' hE8).tab hg 1 2 qm hqm0) ?_
                rintro _ W9 ⟨rfl, hE9⟩
                have hEW := (hEd.trans hE8).trans hE9
                refine with_tail (T := ∀ (σ : Env), σ 176 = .bool true → FN Try.prog 6 [] W9 (RC (some 177) ?KE ?QE σ [{ target := .collected W7.heap.size, args := #[] }])) (fun tail => ?_) ?_
                rotate_left 2
                · have q3 := (h3.ext hEW).cell
                  have q4 := (h4.ext hEW).cell
                  by_cases hpq' : pm = qm
                  · have hpq2 : (pm == qm) = true := by simpa using hpq'
                    simp [e17, e18, q3, q4, g1, hpq2]
                    refine tail _ ?_
                    simp
                  · have hpq2 : (pm == qm) = false := by simpa using hpq'
                    by_cases hlt' : lnd (sps M (1, 2)) pm < lnd (sps M (1, 2)) qm
                    · simp [e17, e18, q3, q4, g1, hpq2, hlt']
                      refine tail _ ?_
                      simp
                    · have hF : lnd (sps M (1, 2)) qm = 4611686018427387903 := by
                        rcases g2 with h | h | h
                        · exact absurd h hpq'
                        · exact absurd h hlt'
                        · exact h
                      rw [hF] at g1 hlt' ⊢
                      simp [e17, e18, q3, q4, g1, hpq2, hlt']
                      refine tail _ ?_
                      simp
                · intro σ e176
                  refine FN.mono (works_c W9) ?_
                  rintro _ W10 ⟨rfl, hE10⟩
                  simp [e176]
                  have hE := hEW.trans hE10
                  refine LV_mark (hE.obj hD) (by simp) ?_
                  simp
                  exact ((hE1.trans oW.ext).trans hE).putObj _ _ (by have := hE57.size; have := hE1.size; omega)
end Go.Proofs
namespace Go.Proofs
open Pk
set_option maxRecDepth 10000
/-- What a table of that many steps has. -/
structure FullT (M : ME) (i : Nat) : Prop where
  tot : total M = min i 512
  keys : ∀ q k, (mget (sps M q) k).isSome = true → 0 ≤ k ∧ k < i ∧ q = (1 + k % 5, 9)
  zero : 0 < i → mget (sps M (1, 9)) 0 = some 3
theorem mem_key {m : ML} {k : Int} (h : k ∈ m.map (·.1)) : (mget m k).isSome = true := by
  cases hg : mget m k with
  | some v => rfl
  | none =>
    obtain ⟨p, hp, rfl⟩ := List.mem_map.1 h
    exact absurd rfl (kget_none hg p hp)
set_option maxHeartbeats 1000000 in
theorem SpanFull_c {w : World} (n : Int) : FN Try.prog 4 [.int .i64 n] w fun e w' => e = .returned (.bool true) ∧ Ext w w' := by
  refine FN_enter Try.func4 rfl rfl (by kernel_rfl) ?_
  have early : FN Try.prog 6 [] w (fun e w' => e = .returned (.bool true) ∧ Ext w w') := works_c w
  by_cases h1 : n < 509
  · simp [h1]
    refine FN.mono (works_c w) ?_
    rintro _ w1 ⟨rfl, hE⟩
    simp
    exact hE
  by_cases h2 : 515 < n
  · simp [h1, h2]
    refine FN.mono (works_c w) ?_
    rintro _ w1 ⟨rfl, hE⟩
    simp
    exact hE
  simp [h1, h2]
  refine FN.mono (new_c w) ?_
  rintro _ w1 ⟨t, R, rfl, ht, hE1, hlt, hlr⟩
  have o1 := OwnT.new ht hE1 hlt hlr
  simp
  refine WC_loop (fun k ρ ds w' => ∃ (i : Nat) (M : ME), k = n.toNat - i ∧ (i : Int) ≤ n ∧ ρ 0 = .int .i64 n ∧ ρ 3 = ptr t ∧ ρ 4 = .int .i64 i ∧ ds = [] ∧ OwnT w w' t R M ∧ FullT M i) n.toNat
    ⟨0, [], by simp, by omega, by simp, by simp, by simp, rfl, o1, ⟨by simp [total], fun q k h => by simp [sps, kget_nil] at h, fun h => by omega⟩⟩ ?_
  rintro k ρ ds w2 ⟨i, M, rfl, hi, e0, e3, e4, rfl, o2, hT⟩
  have htot := hT.tot
  by_cases hin : (i : Int) < n
  · have hw1 : IntKind.i64.wrap (1 + (i : Int).tmod 5) = 1 + (i : Int) % 5 := by
      rw [Int.tmod_eq_emod_of_nonneg (by omega)]; exact wrap64 _ (by omega) (by omega)
    have hw2 : IntKind.u32.wrap (1 + (i : Int) % 5) = 1 + (i : Int) % 5 := wrap32u _ (by omega) (by omega)
    have hw3 : IntKind.u64.wrap (i : Int) = i := wrap64u _ (by omega) (by omega)
    simp [e0, e3, e4, hin, hw1, hw2, hw3]
    refine FN.mono (setM o2 (by omega) ⟨1 + (i : Int) % 5, 9, i, 3⟩) ?_
    rintro _ w3 ⟨rfl, M3, o3, s3, n3⟩
    have hno : mget (sps M (1 + (i : Int) % 5, 9)) i = none := by
      cases hg : mget (sps M (1 + (i : Int) % 5, 9)) (i : Int) with
      | none => rfl
      | some v => have := (hT.keys _ (i : Int) (by rw [hg]; rfl)).2.1; omega
    have hb : badS ⟨1 + (i : Int) % 5, 9, i, 3⟩ = false := by
      unfold badS
      simp only [Bool.or_eq_false_iff, decide_eq_false_iff_not]
      omega
    have hE : setE M ⟨1 + (i : Int) % 5, 9, i, 3⟩ = if i < 512 then 0 else 280 := by
      simp [setE, hb, hno, htot]
      by_cases h : i < 512
      · rw [if_neg (by omega), if_pos h]
      · rw [if_pos (by omega), if_neg h]
    have hW : wasS M ⟨1 + (i : Int) % 5, 9, i, 3⟩ = false := by simp [wasS, hno]
    rw [hE] at s3 n3
    rw [hW] at n3
    have hT3 : FullT M3 (i + 1) := by
      refine ⟨?_, ?_, ?_⟩
      · rw [n3, htot]
        by_cases h : i < 512
        · simp [h]; omega
        · simp [h]; omega
      · intro q k hk
        rw [s3] at hk
        by_cases h : i < 512
        · by_cases hq : q = (1 + (i : Int) % 5, 9)
          · simp only [h, if_true, hq, true_and, kget_mset] at hk
            by_cases hki : k = i
            · subst hki; exact ⟨by omega, by omega, hq⟩
            · rw [if_neg hki] at hk
              have := hT.keys _ k hk
              rw [hq]
              exact ⟨this.1, by omega, this.2.2⟩
          · simp only [hq, and_false, if_false] at hk
            have := hT.keys _ k hk
            exact ⟨this.1, by omega, this.2.2⟩
        · simp [h] at hk
          have := hT.keys _ k hk
          exact ⟨this.1, by omega, this.2.2⟩
      · intro _
        rw [s3]
        by_cases h : i < 512
        · by_cases h0 : i = 0
          · subst h0
            simp [kget_mset]
          · have h0' := hT.zero (by omega)
            rw [if_pos h]
            by_cases hq : ((1 : Int), (9 : Int)) = (1 + (i : Int) % 5, 9)
            · rw [if_pos ⟨rfl, hq⟩, kget_mset, if_neg (by simp only; omega)]; exact h0'
            · rw [if_neg (fun h => hq h.2)]; exact h0'
        · simp [h]
          exact hT.zero (by omega)
    have hnext : ∃ m', m' < n.toNat - i ∧ ∃ (i' : Nat), m' = n.toNat - i' ∧ (i' : Int) ≤ n ∧ IntKind.i64.wrap ((i : Int) + 1) = (i' : Int) ∧ ∃ M, OwnT w w3 t R M ∧ FullT M i' :=
      ⟨n.toNat - (i + 1), by omega, i + 1, rfl, by omega, by rw [wrap64 _ (by omega) (by omega)]; rfl, M3, o3, hT3⟩
    rw [hE, hW]
    by_cases h : i < 512
    · have h' : (i : Int) < 512 := by omega
      have h'' : ¬ (512 : Int) ≤ i := by omega
      rw [if_pos h]
      simp [e4, h']
      refine FN.mono (num_c 0 w3) ?_
      rintro _ w21 ⟨rfl, hw⟩
      rw [hw]
      simp [e0, e3, e4, h'']
      exact hnext
    · have h' : ¬ (i : Int) < 512 := by omega
      have h'' : (512 : Int) ≤ i := by omega
      rw [if_neg h]
      simp [e4, h', h'']
      refine FN.mono (num_c 280 w3) ?_
      rintro _ w22 ⟨rfl, hw⟩
      rw [hw]
      simp [e0, e3, e4]
      exact hnext
  · have hin' : n = (i : Int) := by omega
    simp [e0, e3, e4, hin]
    refine FN.mono (setM o2 (by omega) ⟨1, 9, 0, 4⟩) ?_
    rintro _ w3 ⟨rfl, M3, o3, s3, n3⟩
    have h0 := hT.zero (by omega)
    have hb : badS ⟨1, 9, 0, 4⟩ = false := by decide
    have hE : setE M ⟨1, 9, 0, 4⟩ = 0 := by simp [setE, hb, h0]
    have hW : wasS M ⟨1, 9, 0, 4⟩ = true := by simp [wasS, hE, h0]
    rw [hE] at s3 n3 ⊢
    rw [hW] at n3 ⊢
    have hs : sps M3 (1, 9) = mset (sps M (1, 9)) 0 4 := by rw [s3]; simp
    have hl : lk 2 ((sps M3 (1, 9)).map (·.1)) = some 0 := by
      refine isLast.uniq (lk_last 2 _) ⟨?_, by omega, fun k hk hk2 => ?_⟩
      · have : mget (sps M3 (1, 9)) 0 = some 4 := by rw [hs, kget_mset]; rfl
        exact List.mem_map.2 ⟨_, kget_mem this, rfl⟩
      · have := mem_key hk
        rw [hs, kget_mset] at this
        by_cases hk0 : k = 0
        · omega
        · rw [if_neg hk0] at this
          have := hT.keys _ k this
          have h5 := congrArg Prod.fst this.2.2
          simp only at h5
          omega
    have htk : tk (sps M3 (1, 9)) 2 = 4 := by
      unfold tk
      rw [hl]
      simp only
      rw [hs, kget_mset]; rfl
    simp
    refine FN.mono (num_c 0 w3) ?_
    rintro _ w23 ⟨rfl, hw⟩
    rw [hw]
    simp [e3]
    refine FN.mono (ticks_c o3.tab 1 9 2) ?_
    rintro _ w4 ⟨rfl, hE4⟩
    rw [htk]
    have o4 := o3.ext' hE4
    simp [e3]
    refine FN.mono (len_c o4.tab) ?_
    rintro _ w5 ⟨rfl, hw⟩
    rw [hw]
    have hmin : ((total M3 : Nat) : Int) = min n 512 := by rw [n3]; simp; omega
    rw [hmin]
    simp [e0]
    refine FN.mono (works_c w4) ?_
    rintro _ w6 ⟨rfl, hE6⟩
    simp
    exact o4.ext.trans hE6
end Go.Proofs
