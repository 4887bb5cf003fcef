/-
  Contracts of the functions that the law reaches, step by step.
-/
import Derived.Test.YtljaeeagbokacaaTrE
import Derived.Test.YtljaeeagbokacaaSrtJ
import Derived.Test.YtljaeeagbokacaaEngJ
namespace Go.Proofs
open Pk
set_option maxRecDepth 10000
/-- The children of x, as the map's entries stand. -/
def kids (m : ML) (x : Int) : List Int := (m.filter (fun p => decide (p.2 = x))).map (·.1)
/-- Sorted children. -/
def isKids (m : ML) (x : Int) (ys : List Int) : Prop := ys.Perm (kids m x) ∧ ys.Pairwise (· ≤ ·)
def ChildAt (lo : Nat) (ys : List Int) (v : Value) (w : World) : Prop := ∃ c u, v = .func (.func 49) #[] #[ptr c] ∧ Var w c u ∧ Sl w 1 u ys.length (ys.map u32) ∧ lo ≤ c ∧ (slN u = false → lo ≤ slB u)
def kidsOf (m : ML) (x : Int) (idxs : List Nat) : List Int := ((idxs.filterMap fun i => m[i]?).filter (fun p => decide (p.2 = x))).map (·.1)
theorem kidsOf_snoc (m : ML) (x : Int) (idxs : List Nat) (i : Nat) (p : Int × Int) (hp : m[i]? = some p) : kidsOf m x (idxs ++ [i]) = if p.2 = x then kidsOf m x idxs ++ [p.1] else kidsOf m x idxs := by
  unfold kidsOf
  rw [List.filterMap_append, List.filter_append, List.map_append]
  simp only [List.filterMap_cons, hp, List.filterMap_nil, List.filter_cons, List.filter_nil]
  by_cases h : p.2 = x <;> simp [h]
theorem kidsOf_all (m : ML) (x : Int) (idxs : List Nat) (h : idxs.Perm (List.range m.length)) : (kidsOf m x idxs).Perm (kids m x) := by
  unfold kidsOf kids
  refine ((List.Perm.filter _ ((h.filterMap _).trans ?_)).map _)
  have : (List.range m.length).filterMap (fun i => m[i]?) = m := by
    have h2 : ∀ l : List (Int × Int), (List.range l.length).filterMap (fun i => l[i]?) = l := by
      intro l
      induction l with
      | nil => rfl
      | cons a l ih =>
        rw [List.length_cons, List.range_succ_eq_map, List.filterMap_cons]
        simp [List.filterMap_map, Function.comp_def]
        exact ih
    exact h2 m
  rw [this]
theorem kidsOf_len (m : ML) (x : Int) (idxs : List Nat) : (kidsOf m x idxs).length ≤ idxs.length := by
  unfold kidsOf
  rw [List.length_map]
  exact Nat.le_trans (List.length_filter_le _ _) (List.length_filterMap_le _ _)
theorem children_c {w : World} {t r : Nat} {m : ML} {x : Int} (ht : TreeAt w t r m) (hk : (kids m x).length ≤ 255) (hlen : m.length ≤ 1000) :
    FN Try.prog 22 [ptr t, u32 x] w fun e w' => ∃ v ys, e = .returned v ∧ Ext w w' ∧ isKids m x ys ∧ ChildAt w.heap.size ys v w' := by
  refine FN_enter Try.func22 rfl rfl (by kernel_rfl) ?_
  simp
  have v1 := Var.new w (.slice none 0 0) 30
  have he := (Ext.refl w).alloc (.cells #[.slice none 0 0] 30)
  have hsz : (w.alloc (.cells #[.slice none 0 0] 30)).heap.size = w.heap.size + 1 := by simp
  generalize (w.alloc (.cells #[.slice none 0 0] 30)) = w1 at *
  have ht1 := ht.ext he
  refine FN.mono (none_c ht1) ?_
  rintro _ _ ⟨rfl, rfl⟩
  rename_i w1
  obtain ⟨o, hr, hi⟩ := ht1.map.range (P := Try.prog) tm63
  simp [ht1.cell, hr]
  have he2 := (Ext.refl w1).alloc o
  have v2 := v1.ext he2
  have hs2 : (w1.alloc o).heap.size = w.heap.size + 2 := by simp [hsz]
  have hrl := ht.map.lt
  rw [hsz] at hi
  generalize (w1.alloc o) = w2 at *
  refine WC_loop (fun k ρ ds w' => ∃ idxs v, k + idxs.length = m.length ∧ ρ 1 = u32 x ∧ ρ 5 = ptr w.heap.size ∧ ρ 15 = ptr (w.heap.size + 1) ∧ ds = [] ∧ MIter (Value.int .u32) (Value.int .u32) w' (w.heap.size + 1) r m idxs ∧ Var w' w.heap.size v ∧
    w'.ownsRow (w.heap.size + 2) 23 1 v (kidsOf m x idxs).length ((kidsOf m x idxs).map u32) ∧ Ext w w') m.length ⟨[], .slice none 0 0, by simp, by simp, by simp, by simp [hsz], rfl, hi, v2, World.ownsRow_nil _ _ _ _, he.trans he2⟩ ?_
  rintro k ρ ds w' ⟨idxs, v, hk', e1, e5, e15, rfl, hI, hv, hown, hE⟩
  rcases hI.next (P := Try.prog) 0 with ⟨hp, hrun⟩ | ⟨i, p, w3, hpi, hni, hrun, hI3, hM3, hent, hs3⟩
  · simp [e15, hrun, e5, hv.cell]
    have hpk := kidsOf_all m x idxs hp
    have hkl : (kidsOf m x idxs).length ≤ 255 := by rw [hpk.length_eq]; exact hk
    refine FN.mono (Suint32.sorts (sl_of_own hown) (fun j hj => own_thaw hown (by omega) _) hkl) ?_
    rintro _ w4 ⟨⟨u, rfl⟩, ys, h1, h2, h3, h4⟩
    simp
    have hM4 : Pk.Mod (fun k => w.heap.size + 2 ≤ k) w' w4 := h4.weaken fun i hi => by have := own_ge hown hi.1; have := hi.2; omega
    refine ⟨?_, ys, ⟨h1.trans hpk, h2⟩, w.heap.size, v, by rw [e5], hv.mod hM4 (by omega), h3, Nat.le_refl _, fun hn => by have := own_ge hown hn; omega⟩
    exact ((hE.mod (S := fun k => w.heap.size ≤ k)).trans (hM4.weaken fun i hi => by omega)).ext fun _ h => h
  · have hv3 := hv.mod hM3 (by omega)
    have hown3 : w3.ownsRow (w.heap.size + 2) 23 1 v (kidsOf m x idxs).length ((kidsOf m x idxs).map u32) := own_keep hown fun hn hl => hM3.blk _ hl (by have := own_ge hown hn; omega)
    have hE3 : Ext w w3 := ((hE.mod (S := fun k => w.heap.size ≤ k)).trans (hM3.weaken fun i hi => by omega)).ext fun _ h => h
    have hb3 := hI3.bound
    simp only [List.length_append, List.length_singleton] at hb3
    simp [e15, hrun, hent, e1]
    by_cases hx : p.2 = x
    · have hxb : (p.2 == x) = true := by simpa using hx
      simp [hxb, e5, hv3.cell]
      have e4 := (Ext.refl w3).alloc (.cells #[u32 p.1] 23)
      have hv4 := hv3.ext e4
      have hown4 := own_ext hown3 e4
      have hI4 := hI3.keep (e4.blk _ hI3.lt.1) (e4.blk _ hI3.lt.2)
      have hkl := kidsOf_len m x idxs
      have hs4 : (w3.alloc (.cells #[u32 p.1] 23)).heap.size = w3.heap.size + 1 := by simp
      obtain ⟨v', w5, hr5, ho5, hM5, hnew⟩ := append_own (P := Try.prog) (t := 30) (ty := 30) (e := 23) (s := 1) (by simp) (by simp) (by kernel_rfl) hown4 (Sl.one w3 (u32 p.1) 23) (by intro u hu; rw [List.mem_singleton] at hu; subst hu; rfl) (by omega) (by have := hI3.lt.2; omega)
      simp [hr5]
      have hv5 := hv4.mod hM5 (fun h => by have := own_ge hown4 h.1; omega)
      have hI5 := hI4.mod hM5 (fun h => by have := own_ge hown4 h.1; omega) (fun h => by have := own_ge hown4 h.1; omega)
      obtain ⟨a', c', rfl⟩ := own_val ho5
      simp [hv5.cell, hv5.thaw, e1, e5, e15]
      have hM6 := Mod.setCell (S := fun k => k = w.heap.size) (Mod.refl _ w5) ⟨w.heap.size, 0, none⟩ (.slice a' ((kidsOf m x idxs).length + 1) c') (.inl rfl)
      have hE5 : Ext w w5 := (((hE3.trans e4).mod (S := fun k => w.heap.size ≤ k)).trans (hM5.weaken fun i hi => by have := own_ge hown4 hi.1; omega)).ext fun _ h => h
      refine ⟨k - 1, by omega, idxs ++ [i], by simp; omega, hI5.mod hM6 (by omega) (by omega), _, hv5.set _, ?_, hE5.setCell _ _ (Nat.le_refl _)⟩
      rw [kidsOf_snoc m x idxs i p hpi, if_pos hx]
      have := own_keep ho5 fun hn hl => hM6.blk _ hl (by have := own_ge ho5 hn; omega)
      simpa using this
    · have hxb : (p.2 == x) = false := by simpa using hx
      simp [hxb, e1, e5, e15]
      refine ⟨k - 1, by omega, idxs ++ [i], by simp; omega, hI3, v, hv3, ?_, hE3⟩
      rw [kidsOf_snoc m x idxs i p hpi, if_neg hx]
      exact hown3
theorem child_it {w : World} {c : Nat} {u : Value} {ys : List Int} (hv : Var w c u) (hs : Sl w 1 u ys.length (ys.map u32)) (hb : ys.length ≤ 1048576) :
    Iter Try.prog (.func (.func 49) #[] #[ptr c]) (fun x => [u32 x]) (· = ys) (seg ys) (fun k => k = c ∨ (0 < ys.length ∧ k = slB u)) w := by
  intro y C0 J Jx W hA hcap hJ hJx hy h0
  have k1 := hcap c (.inl rfl)
  refine FN_enter Try.func49 rfl rfl (by kernel_rfl) ?_
  simp
  refine WC_scope 0 _ rfl ?_
  have hvW := hv.agr hA k1.1
  have hsW : Sl W 1 u ys.length (ys.map u32) := hs.kept fun a v' ha hu' => hA.cell hu' (World.block_lt_of_cell? w _ hu')
  simp [hvW.cell, hs.isLen]
  refine WC_loop (fun k ρ ds w' => ∃ (i : Nat) (C : Nat → Prop), k = ys.length - i ∧ i ≤ ys.length ∧ ρ 0 = y ∧ ρ 5 = u ∧ ρ 6 = .int .i64 ys.length ∧ ρ 7 = .int .i64 i ∧ ds = [] ∧ J C (ys.take i) w' ∧ (∀ k, C k → C0 k ∨ W.heap.size ≤ k) ∧ Agr (fun k => k < W.heap.size ∧ ¬ C0 k) W w') ys.length ?_ ?_
  · exact ⟨0, C0, rfl, Nat.zero_le _, by simp, by simp, by simp, by simp, rfl, by simpa using h0, fun k h => .inl h, Agr.refl _ _⟩
  · rintro k ρ ds w' ⟨i, C, rfl, hi, e0, e5, e6, e7, rfl, hj, hC, hAg⟩
    by_cases hlt : i < ys.length
    · have hs' : Sl w' 1 u ys.length (ys.map u32) := hsW.kept fun a v' ha hu' => hAg.cell hu' ⟨World.block_lt_of_cell? W _ hu', by
        rw [ha]
        exact (hcap (slB u) (.inr ⟨by omega, rfl⟩)).2⟩
      have hc := hs'.at_ i (u32 ys[i]) (by simp [hlt])
      have hix := hs'.index (P := Try.prog) (t := 30) (by simp) .i64 i (by omega) (by omega) w'
      simp [e0, e5, e6, e7, hlt, hix, hc]
      have htk : ys.take (i + 1) = ys.take i ++ [ys[i]] := by rw [List.take_add_one, List.getElem?_eq_getElem hlt]; rfl
      have hsp : seg ys (ys.take i ++ [ys[i]]) := ⟨List.append_ne_nil_of_right_ne_nil _ (by simp), ys.drop (i + 1), by rw [← htk, List.take_append_drop]⟩
      refine CV.mono (hy C (ys.take i) ys[i] w' hsp hj) ?_
      rintro _ w2 (⟨rfl, C', hj', hown⟩ | ⟨rfl, C', hj', hown⟩)
      · have hAg' : Agr (fun k => k < W.heap.size ∧ ¬ C0 k) w' w2 := hown.mod.agr (fun k hk hc => by rcases hC k hc with h | h; exact hk.2 h; omega)
        simp [e0, e5, e6, e7]
        refine ⟨ys.length - (i + 1), by omega, i + 1, rfl, by omega, ?_, C', by rw [htk]; exact hj', ?_, hAg.trans hAg'⟩
        · rw [wrap64 _ (by omega) (by omega)]; rfl
        · intro k hk
          rcases hown.own k hk with h | h
          · exact hC k h
          · have := hAg.size; exact .inr (by omega)
      · simp
        exact ⟨C', .inr ⟨_, hsp, hj'⟩⟩
    · simp [e6, e7, hlt]
      have : i = ys.length := by omega
      rw [this, List.take_length] at hj
      exact ⟨C, .inl hj⟩
end Go.Proofs
