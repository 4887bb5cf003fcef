/-
  Contracts of the functions that the law reaches, step by step.
-/
import Derived.Test.YtljaeeagbokacaaTrW
set_option maxRecDepth 10000
namespace Go.Proofs
open Pk
theorem set_obj {w : World} {b : Nat} {v : Value} {t : TypeId} (h : w.heap[b]? = some (.cells #[v] t (0, 0))) (u : Value) : (w.setCell ⟨b, 0, none⟩ u).heap[b]? = some (.cells #[u] t (0, 0)) := by
  have hb := (Array.getElem?_eq_some_iff.1 h).1
  unfold World.setCell
  simp only [Array.getElem?_modify, if_true, h, Option.map_some]
  simp
theorem new_obj (w : World) (o : Obj) : (w.alloc o).heap[w.heap.size]? = some o := World.alloc_heap_new w o
theorem Sl.off' {w : World} {s n b : Nat} {v x : Value} {cs : List Value} {t : TypeId} {fr : Nat × Nat} (h : Sl w s v n cs) (hb : w.heap[b]? = some (.cells #[x] t fr)) (hx : ∀ u ∈ cs, u ≠ x) (h0 : 0 < cs.length) : slB v ≠ b := by
  intro e
  have h1 := h.at_ 0 cs[0] (by simp [h0])
  rw [e] at h1
  unfold World.cell? at h1
  simp only [hb] at h1
  have h2 : slO v + 0 = 0 := by
    rcases Nat.eq_zero_or_pos (slO v + 0) with h | h
    · exact h
    · rw [Array.getElem?_eq_none (by simp; omega)] at h1; cases h1
  rw [h2] at h1
  simp at h1
  exact hx _ (List.getElem_mem h0) h1.symm
theorem Sl.off_mod {w w' : World} {s n b : Nat} {v x : Value} {cs : List Value} {t : TypeId} {fr : Nat × Nat} (h : Sl w s v n cs) (hb : w.heap[b]? = some (.cells #[x] t fr)) (hx : ∀ u ∈ cs, u ≠ x) (hM : Mod (· = b) w w') : Sl w' s v n cs := by
  by_cases h0 : 0 < cs.length
  · exact h.mod hM (Sl.off' h hb hx h0)
  · have : cs = [] := List.length_eq_zero_iff.1 (by omega)
    subst this
    exact ⟨h.1, h.2, by simp⟩
theorem pairs_int {s : ML} {a : Option Addr} {l c : Nat} : ∀ u ∈ pairCells s, u ≠ .slice a l c := by
  intro u hu
  unfold pairCells at hu
  simp at hu
  obtain ⟨p, q, _, rfl | rfl⟩ := hu <;> simp
structure Ac where
  what : Int
  a : Int
  b : Int
def actCells (l : List Ac) : List Value := l.flatMap fun q => [.int .i64 q.what, u32 q.a, u32 q.b]
theorem actCells_at : ∀ (l : List Ac) (i : Nat) (q : Ac), l[i]? = some q → (actCells l)[i * 3]? = some (.int .i64 q.what) ∧ (actCells l)[i * 3 + 1]? = some (u32 q.a) ∧ (actCells l)[i * 3 + 2]? = some (u32 q.b)
  | [], i, q, h => by simp at h
  | x :: l, 0, q, h => by
    simp at h; subst h
    simp [actCells]
  | x :: l, i + 1, q, h => by
    have := actCells_at l i q (by simpa using h)
    have e1 : (i + 1) * 3 = i * 3 + 1 + 1 + 1 := by omega
    rw [e1]
    simp only [actCells, List.flatMap_cons] at this ⊢
    simpa using this
set_option maxHeartbeats 1000000 in
theorem TreePlays_c {w : World} {v : Value} {l : List Ac} (hs : SlA w 3 v l.length (actCells l)) (hp : ∀ q ∈ l, 0 ≤ q.a ∧ 0 ≤ q.b) :
    FN Try.prog 5 [v] w fun e w' => e = .returned (.bool true) ∧ Ext w w' := by
  refine FN_enter Try.func5 rfl rfl (by kernel_rfl) ?_
  by_cases h60 : 60 < l.length
  · have hb : decide ((60 : Int) < (l.length : Int)) = true := by simp; omega
    simp [hs.isLen, hb]
    refine FN.mono (works_c w) ?_
    rintro _ w1 ⟨rfl, hE⟩
    simp
    exact hE
  · have hb : decide ((60 : Int) < (l.length : Int)) = false := by simp; omega
    simp [hs.isLen, hb]
    refine FN.mono (new_c w) ?_
    rintro _ w1 ⟨t, r, rfl, ht, hE, hlt, hlr⟩
    simp
    have hE2 := hE.trans ((Ext.refl w1).alloc (.cells #[.slice none 0 0] 45))
    have ho := new_obj w1 (.cells #[.slice none 0 0] 45)
    have ht2 := ht.ext ((Ext.refl w1).alloc (.cells #[.slice none 0 0] 45))
    obtain ⟨b, hbb⟩ : ∃ b, b = w1.heap.size := ⟨_, rfl⟩
    obtain ⟨w2, hw2⟩ : ∃ w2, w2 = w1.alloc (.cells #[.slice none 0 0] 45) := ⟨_, rfl⟩
    have hrb : r < b := by have := ht.map.lt; omega
    have htb : t < b := by have := World.block_lt_of_cell? _ _ ht.cell; simp at this; omega
    have hwb : w.heap.size ≤ b := by have := hE.size; omega
    rw [← hw2, ← hbb] at ho
    rw [← hw2] at hE2 ht2 ⊢
    rw [← hbb]
    refine WC_loop (fun k ρ ds w' => ∃ (i : Nat) (m s : ML) (u : Value), k = l.length - i ∧ i ≤ l.length ∧ ρ 0 = v ∧ ρ 2 = .bool false ∧ ρ 3 = ptr t ∧ ρ 4 = ptr b ∧ ρ 5 = .int .i64 i ∧ ds = [] ∧ Ext w w' ∧
      w'.heap[b]? = some (.cells #[u] 45 (0, 0)) ∧ TreeAt w' t r m ∧ Rws w' u s ∧ Rel m s ∧ Good m) l.length
      ⟨0, [], [], .slice none 0 0, rfl, Nat.zero_le _, by simp, by simp, by simp, by simp, by simp, rfl, hE2, ho, ht2, Sl.nil _ _ _, ⟨List.Pairwise.nil, List.Perm.nil⟩, Good.nil⟩ ?_
    rintro k ρ ds w3 ⟨i, m, s, u, rfl, hi, e0, e2, e3, e4, e5, rfl, hE3, ho3, ht3, hr3, hR, hg⟩
    have wi : IntKind.i64.wrap ((i : Int) + 1) = ((i + 1 : Nat) : Int) := wnat _ _ (by omega) (by omega)
    have hlen := fun ty W => hs.isLen (P := Try.prog) (t := 42) (by simp) ty W
    by_cases hlt' : i < l.length
    · obtain ⟨q, hq⟩ : ∃ q, l[i]? = some q := ⟨_, List.getElem?_eq_getElem hlt'⟩
      obtain ⟨hq1, hq2⟩ := hp q (List.mem_of_getElem? hq)
      obtain ⟨c1, c2, c3⟩ := actCells_at l i q hq
      have ix := fun W => hs.index (P := Try.prog) (t := 42) (by simp) .i64 i (by omega) (by omega) W
      have cell : ∀ {W : World}, Ext w W → W.cell? ⟨slB v, slO v + i * 3, none⟩ = some (.int .i64 q.what) ∧ W.cell? ⟨slB v, slO v + i * 3 + 1, none⟩ = some (u32 q.a) ∧ W.cell? ⟨slB v, slO v + i * 3 + 2, none⟩ = some (u32 q.b) := by
        intro W hW
        have h' := hs.ext hW
        exact ⟨h'.at_ _ _ c1, h'.at_ _ _ c2, h'.at_ _ _ c3⟩
      simp [e0, e5, hlen, hlt']
      refine WC_drawL 12 (.F 0 <| .F 1 <| .F 2 <| .F 3 <| .F 4 <| .F 5 <| .D 10 <| .L 6 <| .F 7 <| .F 8 <| .F 9 <| .W 10 <| .C 11 <| .Z) (fun k => k == r) (fun k => k == r || decide (b < k)) (fun _ u W => ∃ b2, u = ptr b2 ∧ W.heap[b2]? = some (.cells #[.slice none 0 0] 45 (0, 0)) ∧ b < b2) rfl (by kernel_rfl) (fun k hk => (by simp at hk ⊢; exact hk.1))
        (fun _ _ _ _ ⟨b, h1, h2, h3⟩ h4 => ⟨b, h1, h4.obj h2 (by simp; omega), h3⟩) fun W hW => ?_
      have hWE : Ext w3 W := hW ▸ Ext.drew w3
      obtain ⟨d1, d2, d3⟩ := cell (hE3.trans hWE)
      have ho4 := hWE.obj ho3
      have hV4 := Var.of_obj ho4
      have hbr : (b == r) = false := by simp; omega
      have hvr : slB v ≠ r ∧ slB v ≤ b := by
        have := World.block_lt_of_cell? _ _ ((hs.at_ _ _ c1))
        simp at this
        omega
      simp [e0, e3, e4, e5, ix, d1, d2, d3, hV4.cell, hbr, hvr]
      refine RL_float (fun W1 h1 => ?_) ?_
      · simp
        have hsz := h1.size
        have hl4 := hV4.lt
        refine ⟨(Ext.refl _).alloc _, ?_⟩
        omega
      simp
      refine RL_loose fun W1 h1 => ?_
      simp
      have h31 := hWE.trans h1
      refine FN.mono (act_c (ht3.ext h31) (hr3.ext h31) hR hg q.what hq1 hq2) ?_
      rintro _ W2 ⟨m', s', u', rfl, ht5, hr5, hR5, hg5, hM2⟩
      simp
      refine KR_mk (hM2.agr fun i hi => by simpa using hi) ?_
      simp
      refine RL_wait fun _ W3 h3 ⟨b2, hb2, ho5, hlb⟩ => ?_
      subst hb2
      have hV5 := Var.of_obj ho5
      obtain ⟨a5, p5, rfl⟩ := (hr5.ext h3).isSlice
      have hE5 : Ext w W3 := ((hE3.trans h31).mod.trans' (S := fun k => w.heap.size ≤ k) hM2 (fun i hi => by subst hi; have := hE.size; exact .inr (by omega)) |>.ext fun _ h => h).trans h3
      simp [hV5.cell, hV5.thaw]
      have hM6 := Mod.setCell (S := (· = b2)) (Mod.refl _ W3) ⟨b2, 0, none⟩ (.slice a5 s'.length p5) (.inl rfl)
      have ho6 := set_obj ho5 (.slice a5 s'.length p5)
      have hb2 : b2 < W3.heap.size := (Array.getElem?_eq_some_iff.1 ho5).1
      obtain ⟨W6, hW6⟩ : ∃ W6, W6 = W3.setCell ⟨b2, 0, none⟩ (.slice a5 s'.length p5) := ⟨_, rfl⟩
      rw [← hW6] at hM6 ho6 ⊢
      refine KR_mk (hM6.agr fun i hi => by simp at hi; omega) ?_
      have ho36 : W6.heap[b]? = some (.cells #[u] 45 (0, 0)) := hM6.obj (h3.obj (hM2.obj (h31.obj ho3) (by omega))) (by omega)
      have hr6 : Rws W6 (.slice a5 s'.length p5) s' := Sl.off_mod (hr5.ext h3) ho5 pairs_int hM6
      have ht6 : TreeAt W6 t r m' := ⟨hM6.cell (ht5.ext h3).cell (by simp; omega), (ht5.ext h3).map.mod hM6 (by omega)⟩
      have hE6 : Ext w W6 := by rw [hW6]; exact hE5.setCell _ _ (by simp; omega)
      have hV36 := Var.of_obj ho36
      have hV26 := Var.of_obj ho6
      simp [e4, hV26.cell, hV36.cell, hV36.thaw]
      have hM7 := Mod.setCell (S := (· = b)) (Mod.refl _ W6) ⟨b, 0, none⟩ (.slice a5 s'.length p5) (.inl rfl)
      have ho7 := set_obj ho36 (.slice a5 s'.length p5)
      have hr7 : Rws (W6.setCell ⟨b, 0, none⟩ (.slice a5 s'.length p5)) (.slice a5 s'.length p5) s' := Sl.off_mod hr6 (x := u) ho36 (by obtain ⟨z1, z2, rfl⟩ := hr3.isSlice; exact pairs_int) hM7
      have ht7 : TreeAt (W6.setCell ⟨b, 0, none⟩ (.slice a5 s'.length p5)) t r m' := ⟨hM7.cell ht6.cell (by simp; omega), ht6.map.mod hM7 (by omega)⟩
      have hE7 : Ext w (W6.setCell ⟨b, 0, none⟩ (.slice a5 s'.length p5)) := hE6.setCell _ _ (by simp; omega)
      generalize (W6.setCell ⟨b, 0, none⟩ (.slice a5 s'.length p5)) = W7 at *
      refine WC_drawC 25 (.F 0 <| .F 1 <| .F 2 <| .F 3 <| .F 4 <| .F 5 <| .F 6 <| .F 7 <| .F 8 <| .F 9 <| .F 10 <| .F 11 <| .C 12 <| .F 13 <| .F 14 <| .F 15 <| .F 16 <| .F 17 <| .F 18 <| .F 19 <| .F 20 <| .F 21 <| .F 22 <| .F 23 <| .F 24 <| .Z) (fun _ => false) rfl (by kernel_rfl) fun W8 hW8 => ?_
      have hE8 : Ext W7 W8 := hW8 ▸ Ext.drew W7
      obtain ⟨d1, d2, d3⟩ := cell (hE7.trans hE8)
      have hV8 := Var.of_obj (hE8.obj ho7)
      simp [e0, e3, e4, e5, ix, d2, hV8.cell]
      refine FN.mono (lis_c (ht7.ext hE8) (hr7.ext hE8) hR5 hg5 q.a _) ?_
      rintro _ W9 ⟨rfl, hE9⟩
      simp
      refine KR_ext hE9 ?_
      obtain ⟨d1, d2, d3⟩ := cell ((hE7.trans hE8).trans hE9)
      have hV9 := hV8.ext hE9
      simp [e0, e3, e4, e5, ix, d3, hV9.cell]
      refine FN.mono (lis_c (ht7.ext (hE8.trans hE9)) (hr7.ext (hE8.trans hE9)) hR5 hg5 q.b _) ?_
      rintro _ W10 ⟨rfl, hE10⟩
      simp [e0, e2, e3, e4, e5]
      have hE710 := hE8.trans (hE9.trans hE10)
      rw [wi]
      exact ⟨l.length - (i + 1), by omega, i + 1, rfl, by omega, rfl, hE7.trans hE710, m', s', _, hE710.obj ho7, ht7.ext hE710, hr7.ext hE710, hR5, hg5⟩
    · have hie : i = l.length := by omega
      simp [e0, e5, hlen, hlt']
      refine FN.mono (none_law w3) ?_
      rintro _ w4 ⟨rfl, h4⟩
      simp
      refine FN.mono (works_c w4) ?_
      rintro _ w5 ⟨rfl, h5⟩
      simp
      exact hE3.trans (h4.trans h5)
end Go.Proofs
