/-
  Contracts of the functions that the law reaches, step by step.
-/
import Derived.Test.YtljaeeagbokacaaTrV
import Derived.Test.YtljaeeagbokacaaEngS
set_option maxRecDepth 10000
namespace Go.Proofs
open Pk
/-! ### No tree -/
def NoT (w : World) (v : Value) : Prop := v = .pointer none ∨ ∃ t, v = ptr t ∧ w.cell? ⟨t, 0, none⟩ = some (.map none)
theorem NoT.ext {w w' : World} {v : Value} (h : NoT w v) (hE : Ext w w') : NoT w' v := by
  rcases h with h | ⟨t, h, hc⟩
  · exact .inl h
  · exact .inr ⟨t, h, hE.cell_eq hc⟩
theorem no_none {w : World} {v : Value} (h : NoT w v) : FN Try.prog 37 [v] w fun e w' => e = .returned (.bool true) ∧ w' = w := by
  refine FN_enter Try.func37 rfl rfl (by kernel_rfl) ?_
  rcases h with rfl | ⟨t, rfl, hc⟩
  · simp
  · simp [hc]
theorem no_parent {w : World} {v : Value} (h : NoT w v) (x : Int) : FN Try.prog 13 [v, u32 x] w fun e w' => e = .returned (.tuple #[u32 0, .bool false]) ∧ w' = w := by
  refine FN_enter Try.func13 rfl rfl (by kernel_rfl) ?_
  simp
  refine FN.mono (no_none h) ?_
  rintro _ _ ⟨rfl, rfl⟩
  simp
theorem no_len {w : World} {v : Value} (h : NoT w v) : FN Try.prog 14 [v] w fun e w' => e = .returned (.int .i64 0) ∧ w' = w := by
  refine FN_enter Try.func14 rfl rfl (by kernel_rfl) ?_
  simp
  refine FN.mono (no_none h) ?_
  rintro _ _ ⟨rfl, rfl⟩
  simp
theorem no_copy {w : World} {v : Value} (h : NoT w v) : FN Try.prog 19 [v] w fun e w' => e = .returned (.pointer none) ∧ w' = w := by
  refine FN_enter Try.func19 rfl rfl (by kernel_rfl) ?_
  simp
  refine FN.mono (no_none h) ?_
  rintro _ _ ⟨rfl, rfl⟩
  simp
theorem no_same {w : World} {v v' : Value} (h : NoT w v) (h' : NoT w v') : FN Try.prog 21 [v, v'] w fun e w' => e = .returned (.bool true) ∧ w' = w := by
  refine FN_enter Try.func21 rfl rfl (by kernel_rfl) ?_
  simp
  refine FN.mono (no_none h) ?_
  rintro _ _ ⟨rfl, rfl⟩
  simp
  refine FN.mono (no_none h) ?_
  rintro _ _ ⟨rfl, rfl⟩
  simp
  refine FN.mono (no_none h') ?_
  rintro _ _ ⟨rfl, rfl⟩
  simp
theorem no_is (w : World) (v : Value) : FN Try.prog 26 [v] w fun e w' => e = .returned (.agg #[.func (.func 37) #[v] #[], .int .i64 1]) ∧ Ext w w' := by
  refine FN_enter Try.func26 rfl rfl (by kernel_rfl) ?_
  simp
  exact (Ext.refl w).alloc _
/-- No tree answers first. -/
theorem no_asked {w : World} {v u : Value} (qs : List Qn) (h : NoT w v) (hs : Sl w 2 u (qs.length + 1) (askCells (⟨.func (.func 37) #[v] #[], 1, true⟩ :: qs))) (hb : qs.length ≤ 900) (hf : ∀ q ∈ qs, ∃ f x y, q.f = .func f x y) :
    FN Try.prog 25 [u] w fun e w' => e = .returned (.int .i64 1) ∧ Ext w w' := by
  refine asked_c (⟨.func (.func 37) #[v] #[], 1, true⟩ :: qs) hs (by simp; omega) ?_ ?_
  · intro q hq
    rcases List.mem_cons.1 hq with rfl | hq
    · exact ⟨_, _, _, rfl⟩
    · exact hf q hq
  · intro i q hq hno w' hw'
    cases i with
    | zero =>
      cases hq
      exact FN.mono (no_none (h.ext hw')) fun _ _ h => ⟨h.1, h.2 ▸ Ext.refl _⟩
    | succ i =>
      have := hno 0 _ (by omega) rfl
      cases this
theorem no_drop {w : World} {v : Value} (h : NoT w v) (x : Int) : FN Try.prog 23 [v, u32 x] w fun e w' => e = .returned (.tuple #[u32 0, .int .i64 1]) ∧ Ext w w' := by
  refine FN_enter Try.func23 rfl rfl (by kernel_rfl) ?_
  have he := (Ext.refl w).alloc (.cells #[u32 x] 23)
  have v0 := Var.new w (u32 x) 23
  simp
  generalize (w.alloc (.cells #[u32 x] 23)) = w1 at *
  refine FN.mono (no_parent (h.ext he) x) ?_
  rintro _ _ ⟨rfl, hw⟩
  subst hw
  simp
  rename_i w1
  have he2 := he.trans ((Ext.refl w1).alloc (.cells #[.bool false] 4))
  obtain ⟨w2, hw2⟩ : ∃ w2, w2 = w1.alloc (.cells #[.bool false] 4) := ⟨_, rfl⟩
  rw [← hw2] at he2 ⊢
  refine FN.mono (no_is w2 v) ?_
  rintro _ w3 ⟨rfl, h3⟩
  simp
  have he3 := he2.trans h3
  obtain ⟨w4, hw4⟩ : ∃ w4, w4 = w3.alloc (.cells #[.func (.func 37) #[v] #[], .int .i64 1, .func (.func 50) #[] #[ptr w.heap.size], .int .i64 2, .func (.func 51) #[] #[ptr w1.heap.size], .int .i64 5] 68) := ⟨_, rfl⟩
  rw [← hw4]
  have hs4 : Sl w4 2 (.slice (some ⟨w3.heap.size, 0, none⟩) 3 3) 3 (askCells [⟨.func (.func 37) #[v] #[], 1, true⟩, ⟨.func (.func 50) #[] #[ptr w.heap.size], 2, true⟩, ⟨.func (.func 51) #[] #[ptr w1.heap.size], 5, true⟩]) := by
    rw [hw4]; exact Sl.made w3 _ 68 2 3 rfl
  have he4 : Ext w w4 := by rw [hw4]; exact he3.trans ((Ext.refl _).alloc _)
  refine FN.mono (no_asked [⟨.func (.func 50) #[] #[ptr w.heap.size], 2, true⟩, ⟨.func (.func 51) #[] #[ptr w1.heap.size], 5, true⟩] (h.ext he4) hs4 (by simp) (by simp)) ?_
  rintro _ w5 ⟨rfl, h5⟩
  simp
  exact he4.trans h5
theorem no_line {w : World} {v : Value} (h : NoT w v) (x : Int) : FN Try.prog 31 [v, u32 x] w fun e w' => ∃ b1 b2, e = .returned (.func (.func 54) #[] #[ptr b1, ptr b2]) ∧ Ext w w' ∧
    Var w' b1 (u32 x) ∧ Var w' b2 (.map none) ∧ w.heap.size ≤ b1 ∧ w.heap.size ≤ b2 := by
  refine FN_enter Try.func31 rfl rfl (by kernel_rfl) ?_
  simp
  have he : Ext w ((w.alloc (.cells #[u32 x] 23)).alloc (.cells #[.map none] 63)) := ((Ext.refl w).alloc _).alloc _
  have v1 : Var ((w.alloc (.cells #[u32 x] 23)).alloc (.cells #[.map none] 63)) w.heap.size (u32 x) := (Var.new w _ _).ext ((Ext.refl _).alloc _)
  have v2 : Var ((w.alloc (.cells #[u32 x] 23)).alloc (.cells #[.map none] 63)) (w.heap.size + 1) (.map none) := by simpa using Var.new (w.alloc (.cells #[u32 x] 23)) (.map none) 63
  generalize ((w.alloc (.cells #[u32 x] 23)).alloc (.cells #[.map none] 63)) = w1 at *
  refine FN.mono (no_none (h.ext he)) ?_
  rintro _ _ ⟨rfl, hw⟩
  subst hw
  simp
  exact ⟨_, _, ⟨rfl, rfl⟩, he, v1, v2, by omega, by omega⟩
theorem no_line_it {w : World} {b1 b2 : Nat} {x : Int} (v1 : Var w b1 (u32 x)) (v2 : Var w b2 (.map none)) :
    Iter Try.prog (.func (.func 54) #[] #[ptr b1, ptr b2]) (fun x => [u32 x]) (· = []) (seg []) (fun k => k = b1 ∨ k = b2) w := by
  intro y C0 J Jx W hA hcap hJ hJx hy h0
  have k1 := (hcap b1 (.inl rfl))
  have k2 := (hcap b2 (.inr rfl))
  have w1 := v1.agr hA k1.1
  have w2 := v2.agr hA k2.1
  refine FN_enter Try.func54 rfl rfl (by kernel_rfl) ?_
  simp
  refine WC_scope 0 _ rfl ?_
  simp [w1.cell]
  refine WC_loop (fun k ρ ds w' => ρ 2 = ptr b2 ∧ ds = [] ∧ w' = W) 0 ⟨by simp, rfl, rfl⟩ ?_
  rintro k ρ ds w' ⟨e2, rfl, rfl⟩
  simp [e2, w2.cell]
  exact ⟨C0, .inl h0⟩
theorem no_children {w : World} {v : Value} (h : NoT w v) (x : Int) : FN Try.prog 22 [v, u32 x] w fun e w' => ∃ c, e = .returned (.func (.func 49) #[] #[ptr c]) ∧ Ext w w' ∧ Var w' c (.slice none 0 0) := by
  refine FN_enter Try.func22 rfl rfl (by kernel_rfl) ?_
  simp
  have he := (Ext.refl w).alloc (.cells #[.slice none 0 0] 30)
  have v1 := Var.new w (.slice none 0 0) 30
  generalize (w.alloc (.cells #[.slice none 0 0] 30)) = w1 at *
  refine FN.mono (no_none (h.ext he)) ?_
  rintro _ _ ⟨rfl, hw⟩
  subst hw
  simp [v1.cell]
  rename_i w1
  refine FN.mono (Suint32.sorts (xs := []) (Sl.nil w1 1 0) (fun j hj => by simp at hj) (by simp)) ?_
  rintro _ w4 ⟨⟨u, rfl⟩, ys, h1, h2, h3, h4⟩
  have hM4 : Ext w1 w4 := h4.ext fun i hi => by have := hi.1; simp [slN] at this
  simp
  exact ⟨he.trans hM4, v1.ext hM4⟩
theorem no_collect {w : World} {b1 b2 : Nat} {x : Int} (v1 : Var w b1 (u32 x)) (v2 : Var w b2 (.map none)) : FN Try.prog 30 [.func (.func 54) #[] #[ptr b1, ptr b2]] w fun e w' => ∃ v, e = .returned v ∧ Sl w' 1 v 0 [] ∧ Ext w w' := by
  have hcap : ∀ k, (k = b1 ∨ k = b2) → k < w.heap.size := by
    rintro k (rfl | rfl)
    · exact v1.lt
    · exact v2.lt
  refine FN.mono (collect_c (no_line_it v1 v2) (fun _ _ => callFunc_enter Try.func54 rfl rfl _ _) hcap ?_) ?_
  · rintro xs ⟨h1, suf, h2⟩
    have := congrArg List.length h2
    simp at this
    exact (h1 (List.length_eq_zero_iff.1 (by omega))).elim
  · rintro _ w' ⟨xs, v, rfl, rfl, h3, h4⟩
    exact ⟨v, rfl, sl_of_own h3, h4⟩
theorem no_way {w : World} {v : Value} (h : NoT w v) (x y : Int) : FN Try.prog 33 [v, .agg #[u32 x, u32 y]] w fun e w' => e = .returned (.slice none 0 0) ∧ Ext w w' := by
  refine FN_enter Try.func33 rfl rfl (by kernel_rfl) ?_
  simp
  have he : Ext w (w.alloc (.cells #[u32 x, u32 y] 29)) := (Ext.refl w).alloc _
  have d1 : (w.alloc (.cells #[u32 x, u32 y] 29)).cell? ⟨w.heap.size, 0, none⟩ = some (u32 x) := by simp
  have d2 : (w.alloc (.cells #[u32 x, u32 y] 29)).cell? ⟨w.heap.size, 1, none⟩ = some (u32 y) := by simp
  generalize (w.alloc (.cells #[u32 x, u32 y] 29)) = w1 at *
  refine WC_drawL 11 (.F 0 <| .F 1 <| .F 2 <| .F 5 <| .F 6 <| .F 7 <| .D 10 <| .L 3 <| .L 4 <| .L 8 <| .L 9 <| .W 10 <| .Z) (fun _ => false) (fun _ => false) (fun _ u W => ∃ b, u = ptr b ∧ Var W b (.slice none 0 0) ∧ w1.heap.size ≤ b) rfl (by kernel_rfl) (fun _ h => h)
    (fun _ _ _ _ ⟨b, h1, h2, h3⟩ h4 => ⟨b, h1, h2.ext (agr_ext h4), h3⟩) fun W hW => ?_
  have hWE : Ext w1 W := hW ▸ Ext.drew w1
  have e1 := hWE.cell_eq d1
  have e2 := hWE.cell_eq d2
  have hW' := h.ext (he.trans hWE)
  simp [e1, e2]
  refine RL_float (fun W1 h1 => ?_) ?_
  · simp
    have := Var.new W1 (.slice none 0 0) 30
    have hs := (hWE.trans (agr_ext h1)).size
    exact ⟨(Ext.refl _).alloc _, this, hs⟩
  simp
  refine RL_loose fun W1 h1 => ?_
  simp
  refine FN.mono (no_line (hW'.ext h1) x) ?_
  rintro _ W2 ⟨b1, b2, rfl, h2, v1, v2, -, -⟩
  simp
  refine KR_ext h2 ?_
  simp
  refine RL_loose fun W3 h3 => ?_
  simp
  refine FN.mono (no_collect (v1.ext h3) (v2.ext h3)) ?_
  rintro _ W4 ⟨u1, rfl, hu1, h4⟩
  simp
  refine KR_ext h4 ?_
  have h14 := h1.trans (h2.trans (h3.trans h4))
  simp
  refine RL_loose fun W5 h5 => ?_
  simp
  refine FN.mono (no_line ((hW'.ext h14).ext h5) y) ?_
  rintro _ W6 ⟨b3, b4, rfl, h6, v3, v4, -, -⟩
  simp
  refine KR_ext h6 ?_
  simp
  refine RL_loose fun W7 h7 => ?_
  simp
  refine FN.mono (no_collect (v3.ext h7) (v4.ext h7)) ?_
  rintro _ W8 ⟨u2, rfl, hu2, h8⟩
  simp
  refine KR_ext h8 ?_
  simp
  refine RL_wait fun _ W9 h9 ⟨b, hb, vb, hlb⟩ => ?_
  subst hb
  have hE9 : Ext w1 W9 := hWE.trans (h14.trans (h5.trans (h6.trans (h7.trans (h8.trans h9)))))
  have hu1' := hu1.ext (h5.trans (h6.trans (h7.trans (h8.trans h9))))
  have hu2' := hu2.ext h9
  obtain ⟨a2, c2, rfl⟩ := hu2'.isSlice
  simp [vb.cell, vb.thaw]
  have hM := Mod.setCell (S := (· = b)) (Mod.refl _ W9) ⟨b, 0, none⟩ (.slice a2 0 c2) (.inl rfl)
  have vb' := vb.set (.slice a2 0 c2)
  have hE10 : Ext w1 (W9.setCell ⟨b, 0, none⟩ (.slice a2 0 c2)) := hE9.setCell _ _ hlb
  generalize (W9.setCell ⟨b, 0, none⟩ (.slice a2 0 c2)) = W10 at *
  have hu1'' : Sl W10 1 u1 ([] : List Int).length (([] : List Int).map u32) := ⟨hu1'.1, hu1'.2, by simp⟩
  have hu2'' : Sl W10 1 (.slice a2 0 c2) ([] : List Int).length (([] : List Int).map u32) := ⟨hu2'.1, hu2'.2, by simp⟩
  refine FN.mono (first_c (fun z => decide (z ∈ ([] : List Int))) hu1'' (fun z w' hw' => ?_) (by simp)) ?_
  · exact FN.mono (way1_c (vb'.ext hw') (hu2''.ext hw') z (by simp)) fun _ _ h => ⟨h.1, h.2 ▸ Ext.refl _⟩
  · rintro _ W11 ⟨rfl, h11⟩
    simp
    exact he.trans (hE10.trans h11)
theorem no_Way {w : World} {v : Value} (h : NoT w v) (x y : Int) : FN Try.prog 10 [v, u32 x, u32 y] w fun e w' => e = .returned (.tuple #[.slice none 0 0, .int .i64 1]) ∧ Ext w w' := by
  refine FN_enter Try.func10 rfl rfl (by kernel_rfl) ?_
  simp
  have he : Ext w ((w.alloc (.cells #[u32 x] 23)).alloc (.cells #[u32 y] 23)) := ((Ext.refl w).alloc _).alloc _
  generalize ((w.alloc (.cells #[u32 x] 23)).alloc (.cells #[u32 y] 23)) = w1 at *
  refine FN.mono (no_way (h.ext he) x y) ?_
  rintro _ w2 ⟨rfl, h2⟩
  simp
  have he2 := he.trans (h2.trans ((Ext.refl w2).alloc (.cells #[.slice none 0 0] 30)))
  obtain ⟨w3, hw3⟩ : ∃ w3, w3 = w2.alloc (.cells #[.slice none 0 0] 30) := ⟨_, rfl⟩
  rw [← hw3] at he2 ⊢
  refine FN.mono (no_is w3 v) ?_
  rintro _ w4 ⟨rfl, h4⟩
  simp
  have he4 := he2.trans h4
  obtain ⟨w5, hw5⟩ : ∃ w5, w5 = w4.alloc (.cells #[.func (.func 37) #[v] #[], .int .i64 1, .func (.func 34) #[] #[ptr w.heap.size, ptr (w.heap.size + 1)], .int .i64 2, .func (.func 35) #[] #[ptr w2.heap.size], .int .i64 322] 68) := ⟨_, rfl⟩
  rw [← hw5]
  have he5 : Ext w w5 := by rw [hw5]; exact he4.trans ((Ext.refl _).alloc _)
  have hs5 : Sl w5 2 (.slice (some ⟨w4.heap.size, 0, none⟩) 3 3) 3 (askCells [⟨.func (.func 37) #[v] #[], 1, true⟩, ⟨.func (.func 34) #[] #[ptr w.heap.size, ptr (w.heap.size + 1)], 2, true⟩, ⟨.func (.func 35) #[] #[ptr w2.heap.size], 322, true⟩]) := by
    rw [hw5]; exact Sl.made w4 _ 68 2 3 rfl
  refine FN.mono (no_asked [⟨.func (.func 34) #[] #[ptr w.heap.size, ptr (w.heap.size + 1)], 2, true⟩, ⟨.func (.func 35) #[] #[ptr w2.heap.size], 322, true⟩] (h.ext he5) hs5 (by simp) (by simp)) ?_
  rintro _ w6 ⟨rfl, h6⟩
  simp
  exact he5.trans h6
theorem no_next {w : World} {v : Value} (h : NoT w v) (x y : Int) : FN Try.prog 12 [v, u32 x, u32 y] w fun e w' => e = .returned (.tuple #[u32 0, .bool false, .int .i64 1]) ∧ Ext w w' := by
  refine FN_enter Try.func12 rfl rfl (by kernel_rfl) ?_
  simp
  refine FN.mono (no_Way h x y) ?_
  rintro _ w2 ⟨rfl, h2⟩
  simp
  exact h2
theorem no_set {w : World} {v : Value} (h : NoT w v) (x y : Int) : FN Try.prog 9 [v, u32 x, u32 y] w fun e w' => e = .returned (.int .i64 1) ∧ Ext w w' := by
  refine FN_enter Try.func9 rfl rfl (by kernel_rfl) ?_
  obtain ⟨a, rfl⟩ : ∃ a, v = .pointer a := by
    rcases h with rfl | ⟨t, rfl, hc⟩
    · exact ⟨_, rfl⟩
    · exact ⟨_, rfl⟩
  simp
  have he : Ext w (((w.alloc (.cells #[.pointer a] 25)).alloc (.cells #[u32 x] 23)).alloc (.cells #[u32 y] 23)) := (((Ext.refl w).alloc _).alloc _).alloc _
  have v0 : Var (((w.alloc (.cells #[.pointer a] 25)).alloc (.cells #[u32 x] 23)).alloc (.cells #[u32 y] 23)) w.heap.size (.pointer a) := (Var.new w _ _).ext (((Ext.refl _).alloc _).alloc _)
  generalize (((w.alloc (.cells #[.pointer a] 25)).alloc (.cells #[u32 x] 23)).alloc (.cells #[u32 y] 23)) = w1 at *
  refine FN.mono (no_is w1 (.pointer a)) ?_
  rintro _ w4 ⟨rfl, h4⟩
  simp
  have he4 := he.trans h4
  obtain ⟨w5, hw5⟩ : ∃ w5, w5 = w4.alloc (.cells #[.func (.func 37) #[.pointer a] #[], .int .i64 1, .func (.func 27) #[] #[ptr (w.heap.size + 1), ptr (w.heap.size + 1 + 1)], .int .i64 2, .func (.func 28) #[] #[ptr w.heap.size, ptr (w.heap.size + 1 + 1), ptr (w.heap.size + 1)], .int .i64 320, .func (.func 32) #[] #[ptr w.heap.size, ptr (w.heap.size + 1)], .int .i64 321] 68) := ⟨_, rfl⟩
  rw [← hw5]
  have he5 : Ext w w5 := by rw [hw5]; exact he4.trans ((Ext.refl _).alloc _)
  have hs5 : Sl w5 2 (.slice (some ⟨w4.heap.size, 0, none⟩) 4 4) 4 (askCells [⟨.func (.func 37) #[.pointer a] #[], 1, true⟩, ⟨.func (.func 27) #[] #[ptr (w.heap.size + 1), ptr (w.heap.size + 1 + 1)], 2, true⟩, ⟨.func (.func 28) #[] #[ptr w.heap.size, ptr (w.heap.size + 1 + 1), ptr (w.heap.size + 1)], 320, true⟩, ⟨.func (.func 32) #[] #[ptr w.heap.size, ptr (w.heap.size + 1)], 321, true⟩]) := by
    rw [hw5]; exact Sl.made w4 _ 68 2 4 rfl
  refine FN.mono (no_asked [⟨.func (.func 27) #[] #[ptr (w.heap.size + 1), ptr (w.heap.size + 1 + 1)], 2, true⟩, ⟨.func (.func 28) #[] #[ptr w.heap.size, ptr (w.heap.size + 1 + 1), ptr (w.heap.size + 1)], 320, true⟩, ⟨.func (.func 32) #[] #[ptr w.heap.size, ptr (w.heap.size + 1)], 321, true⟩] (h.ext he5) hs5 (by simp) (by simp)) ?_
  rintro _ w6 ⟨rfl, h6⟩
  simp
  exact he5.trans h6
theorem no_depth {w : World} {v : Value} (h : NoT w v) (x : Int) : FN Try.prog 15 [v, u32 x] w fun e w' => e = .returned (.int .i64 0) ∧ Ext w w' := by
  refine FN_enter Try.func15 rfl rfl (by kernel_rfl) ?_
  simp
  have v1 := Var.new w (.int .i64 (-1)) 3
  have he := (Ext.refl w).alloc (.cells #[.int .i64 (-1)] 3)
  have hsz : (w.alloc (.cells #[.int .i64 (-1)] 3)).heap.size = w.heap.size + 1 := by simp
  generalize (w.alloc (.cells #[.int .i64 (-1)] 3)) = w1 at *
  refine FN.mono (no_line (h.ext he) x) ?_
  rintro _ w2 ⟨b1, b2, rfl, hE, h2, h3, g1, g2⟩
  simp
  have v2 := v1.ext hE
  refine WC_rangeFunc (gf := 54) (first := #[]) (caps := #[ptr b1, ptr b2]) (enc := fun x => [u32 x]) rfl (fun _ _ => callFunc_enter Try.func54 rfl rfl _ _) (no_line_it h2 h3) (by simp) (fun k => k = w.heap.size)
    (fun C pre W => Var W w.heap.size (.int .i64 (-1)) ∧ (∀ k, C k ↔ k = w.heap.size) ∧ Ext w W) (fun _ _ _ _ => False)
    (fun k hk => ⟨?_, ?_⟩) (fun k hk => by have := hE.size; omega) ?_ (fun _ _ _ _ _ h _ => h.elim) ⟨by simpa using v2, fun _ => Iff.rfl, he.trans hE⟩ ?ρ ?ha ?_ ?_ (fun _ _ _ _ _ h _ => h.elim)
  case ha =>
    intro l x W
    simp
    exact rfl
  · rcases hk with rfl | rfl
    · exact h2.lt
    · exact h3.lt
  · rcases hk with rfl | rfl <;> omega
  · rintro C pre W W' ⟨h1, h5, h6⟩ hag
    refine ⟨h1.agr hag (.inr ((h5 _).2 rfl)), h5, ?_⟩
    exact ⟨hag.os.trans h6.os, hag.tape.trans h6.tape, hag.out.trans h6.out, Nat.le_trans h6.size hag.size, fun i hi => (hag.blk i (Nat.lt_of_lt_of_le hi h6.size) (.inl (by have := hE.size; omega))).trans (h6.blk i hi)⟩
  · rintro k C pre z W ⟨_, suf, hsuf⟩
    have := congrArg List.length hsuf
    simp at this
  · rintro C xs W rfl ⟨h1, h5, h6⟩ hD
    simp [h1.cell]
    refine LV_mark hD (by simp) ?_
    simp
    refine ⟨by decide, h6.putObj _ _ ?_⟩
    have := hE.size
    omega
/-- Over nothing one goes nowhere. -/
theorem no_goes_line {w : World} {b1 b2 : Nat} {x : Int} (v1 : Var w b1 (u32 x)) (v2 : Var w b2 (.map none)) : FN Try.prog 44 [.func (.func 54) #[] #[ptr b1, ptr b2], .slice none 0 0, .int .i64 0] w fun e w' => e = .returned (.bool true) ∧ Ext w w' := by
  refine goes_c (xs := []) (fun _ _ => callFunc_enter Try.func54 rfl rfl _ _) (no_line_it v1 v2) ?_ (Sl.nil _ _ _) (by simp)
  rintro k (rfl | rfl)
  · exact v1.lt
  · exact v2.lt
theorem no_goes_child {w : World} {c : Nat} (v1 : Var w c (.slice none 0 0)) : FN Try.prog 44 [.func (.func 49) #[] #[ptr c], .slice none 0 0, .int .i64 0] w fun e w' => e = .returned (.bool true) ∧ Ext w w' := by
  refine goes_c (xs := []) (fun _ _ => callFunc_enter Try.func49 rfl rfl _ _) (child_it (ys := []) v1 (Sl.nil _ _ _) (by simp)) ?_ (Sl.nil _ _ _) (by simp)
  rintro k (rfl | ⟨h, rfl⟩)
  · exact v1.lt
  · simp at h

theorem none_law (w : World) : FN Try.prog 18 [] w fun e w' => e = .returned (.bool true) ∧ Ext w w' := by
  refine FN_enter Try.func18 rfl rfl (by kernel_rfl) ?_
  simp
  refine WC_loop (fun k ρ ds w' => ∃ i : Nat, k = 2 - i ∧ i ≤ 2 ∧ ρ 1 = .int .i64 i ∧ ds = [] ∧ Ext w w') 2 ⟨0, by simp [Ext.refl]⟩ ?_
  rintro k ρ ds w1 ⟨i, rfl, hi, e1, rfl, hE⟩
  have wi : IntKind.i64.wrap ((i : Int) + 1) = ((i + 1 : Nat) : Int) := wnat _ _ (by omega) (by omega)
  by_cases hlt : i < 2
  · have hlb : decide ((i : Int) < 2) = true := by simp; omega
    refine with_tail (T := ∀ (σ : Env) (v : Value) (W : World), (σ 1 = .int .i64 i ∧ σ 2 = v) ∧ NoT W v ∧ Ext w W → FN Try.prog 23 [v, u32 1] W (RC (some 22) ?K ?Q σ [])) (fun tail => ?_) ?_
    rotate_left 2
    · by_cases hi1 : i = 1
      · have hb : ((i : Int) == 1) = true := by simp; omega
        simp [e1, hb, hlb]
        refine tail _ _ (w1.alloc (.cells #[.map none] 65)) ⟨⟨?_, ?_⟩, .inr ⟨w1.heap.size, rfl, by simp⟩, hE.trans ((Ext.refl _).alloc _)⟩
        · simp [e1]
        · simp
      · have hb : ((i : Int) == 1) = false := by simp; omega
        simp [e1, hb, hlb]
        refine tail _ _ _ ⟨⟨?_, ?_⟩, .inl rfl, hE⟩
        · simp [e1]
        · simp
    · rintro σ v W ⟨⟨e1, e2⟩, hN, hE⟩
      refine FN.mono (no_drop hN 1) ?_
      rintro _ W1 ⟨rfl, h1⟩
      simp [e2]
      replace hN := hN.ext h1
      replace hE := hE.trans h1
      refine FN.mono (no_parent hN 1) ?_
      rintro _ _ ⟨rfl, hw⟩
      subst hw
      simp [e2]
      refine FN.mono (no_Way hN 1 2) ?_
      rintro _ W2 ⟨rfl, h1⟩
      replace hN := hN.ext h1
      replace hE := hE.trans h1
      simp [e2]
      refine FN.mono (no_next hN 1 2) ?_
      rintro _ W3 ⟨rfl, h1⟩
      replace hN := hN.ext h1
      replace hE := hE.trans h1
      simp [e2]
      refine FN.mono (no_set hN 1 2) ?_
      rintro _ W4 ⟨rfl, h1⟩
      replace hN := hN.ext h1
      replace hE := hE.trans h1
      simp
      refine num_c _ _ _ ?_
      simp
      refine num_c _ _ _ ?_
      simp
      refine num_c _ _ _ ?_
      simp
      refine num_c _ _ _ ?_
      simp [e2]
      refine FN.mono (no_line hN 1) ?_
      rintro _ W5 ⟨b1, b2, rfl, h1, v1, v2, -, -⟩
      replace hN := hN.ext h1
      replace hE := hE.trans h1
      simp
      refine FN.mono (no_goes_line v1 v2) ?_
      rintro _ W6 ⟨rfl, h1⟩
      replace hN := hN.ext h1
      replace hE := hE.trans h1
      simp [e2]
      refine FN.mono (no_children hN 1) ?_
      rintro _ W7 ⟨c, rfl, h1, v1⟩
      replace hN := hN.ext h1
      replace hE := hE.trans h1
      simp
      refine FN.mono (no_goes_child v1) ?_
      rintro _ W8 ⟨rfl, h1⟩
      replace hN := hN.ext h1
      replace hE := hE.trans h1
      simp [e2]
      refine FN.mono (no_depth hN 1) ?_
      rintro _ W9 ⟨rfl, h1⟩
      replace hN := hN.ext h1
      replace hE := hE.trans h1
      simp [e2]
      refine FN.mono (no_len hN) ?_
      rintro _ _ ⟨rfl, hw⟩
      subst hw
      simp [e2]
      refine FN.mono (no_copy hN) ?_
      rintro _ _ ⟨rfl, hw⟩
      subst hw
      simp [e2]
      refine FN.mono (no_same hN (.inl rfl)) ?_
      rintro _ _ ⟨rfl, hw⟩
      subst hw
      simp [e1]
      rw [wi]
      exact ⟨2 - (i + 1), by omega, i + 1, rfl, by omega, rfl, hE⟩
  · have hlb : decide ((i : Int) < 2) = false := by simp; omega
    simp [e1, hlb]
    exact hE
end Go.Proofs
