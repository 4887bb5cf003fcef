/-
  Contracts of the functions that the law reaches, step by step.
-/
import Derived.Test.YtfppepjaopbanaaRmA
namespace Go.Proofs
open Pk
set_option maxRecDepth 10000
/-- No line, or a zero one. -/
def NoL (w : World) (a : Option Addr) : Prop := a = none ∨ ∃ b, a = some ⟨b, 0, none⟩ ∧ w.cell? ⟨b, 2, none⟩ = some (.map none)
theorem NoL.ext {w w' : World} {a : Option Addr} (h : NoL w a) (hE : Ext w w') : NoL w' a := by
  rcases h with h | ⟨b, h, hc⟩
  · exact .inl h
  · exact .inr ⟨b, h, hE.cell_eq hc⟩
theorem no_none {w : World} {a : Option Addr} (h : NoL w a) : FN Try.prog 32 [.pointer a] w fun e w' => e = .returned (.bool true) ∧ w' = w := by
  refine FN_enter Try.func32 rfl rfl (by kernel_rfl) ?_
  rcases h with rfl | ⟨b, rfl, hc⟩
  · simp
  · simp [hc]
theorem no_is (a : Option Addr) (w : World) : FN Try.prog 23 [.pointer a] w fun e w' => e = .returned (.agg #[.func (.func 32) #[.pointer a] #[], i64 1]) ∧ Ext w w' := by
  refine FN_enter Try.func23 rfl rfl (by kernel_rfl) ?_
  simp
  exact (Ext.refl w).alloc _
theorem no_waits (a : Option Addr) (n : Nm) (w : World) : FN Try.prog 35 [.pointer a, nmV n] w fun e w' => ∃ b0 b1, e = .returned (.agg #[.func (.func 60) #[] #[ptr b0, ptr b1], i64 5]) ∧ Ext w w' := by
  refine FN_enter Try.func35 rfl rfl (by kernel_rfl) ?_
  simp
  exact (((Ext.refl w).alloc _).alloc _).alloc _
theorem no_asked {w w0 : World} {a : Option Addr} {v : Value} {R : Ending → World → Prop} (hn : NoL w0 a) (qs : List Qn) (hs : Sl w 2 v (qs.length + 1) (askCells (⟨.func (.func 32) #[.pointer a] #[], 1, true⟩ :: qs))) (hb : qs.length ≤ 100) (hf : ∀ q ∈ qs, ∃ f x y, q.f = .func f x y) (hE : Ext w0 w)
    (h : ∀ w', Ext w0 w' → R (.returned (i64 1)) w') : FN Try.prog 22 [v] w R := by
  refine asked_go (w0 := w0) (⟨.func (.func 32) #[.pointer a] #[], 1, true⟩ :: qs) hs (by simp; omega) ?_ hE ?_ ?_
  · intro q hq
    rcases List.mem_cons.1 hq with rfl | hq
    · exact ⟨_, _, _, rfl⟩
    · exact hf q hq
  · intro i q hq hno w' hw'
    match i, hq with
    | 0, hq =>
      simp at hq; subst hq
      exact FN.mono (no_none (hn.ext hw')) fun _ _ h => ⟨h.1, h.2 ▸ Ext.refl _⟩
    | i + 1, _ =>
      have := hno 0 _ (by omega) rfl
      simp at this
  · intro w' hw'
    exact h w' hw'
theorem no_list {w : World} {a : Option Addr} (h : NoL w a) (nd : Int) : FN Try.prog 39 [.pointer a, u32 nd] w fun e w' => e = .returned (.slice none 0 0) ∧ Ext w w' := by
  refine FN_enter Try.func39 rfl rfl (by kernel_rfl) ?_
  simp
  refine FN.mono (no_none h) ?_
  rintro _ w1 ⟨rfl, hw⟩
  rw [hw]
  simp
  exact Ext.refl w
theorem no_put {w : World} {a : Option Addr} (h : NoL w a) (x : Wt) : FN Try.prog 8 [.pointer a, wtV x] w fun e w' => e = .returned (i64 1) ∧ Ext w w' := by
  refine FN_enter Try.func8 rfl rfl (by kernel_rfl) ?_
  simp
  have hE1 : Ext w ((w.alloc (.cells #[.pointer a] 32)).alloc (.cells #[u32 x.1.1, u32 x.1.2.1, u64 x.1.2.2.1, u32 x.1.2.2.2, u32 x.2.1, i64 x.2.2.1, i64 x.2.2.2] 30)) := ((Ext.refl w).alloc _).alloc _
  have v0 : Var ((w.alloc (.cells #[.pointer a] 32)).alloc (.cells #[u32 x.1.1, u32 x.1.2.1, u64 x.1.2.2.1, u32 x.1.2.2.2, u32 x.2.1, i64 x.2.2.1, i64 x.2.2.2] 30)) w.heap.size (.pointer a) := (Var.new w _ _).ext ((Ext.refl _).alloc _)
  have hx : WtAt ((w.alloc (.cells #[.pointer a] 32)).alloc (.cells #[u32 x.1.1, u32 x.1.2.1, u64 x.1.2.2.1, u32 x.1.2.2.2, u32 x.2.1, i64 x.2.2.1, i64 x.2.2.2] 30)) (w.heap.size + 1) x := by
    have := WtAt.new (w.alloc (.cells #[.pointer a] 32)) x 30
    simpa using this
  generalize ((w.alloc (.cells #[.pointer a] 32)).alloc (.cells #[u32 x.1.1, u32 x.1.2.1, u64 x.1.2.2.1, u32 x.1.2.2.2, u32 x.2.1, i64 x.2.2.1, i64 x.2.2.2] 30)) = w1 at *
  refine WC_drawC 14 (.F 0 <| .F 2 <| .F 3 <| .F 5 <| .F 6 <| .F 8 <| .F 9 <| .F 10 <| .F 11 <| .F 12 <| .F 13 <| .C 1 <| .C 4 <| .C 7 <| .Z) (fun _ => false) rfl (by kernel_rfl) fun W hW => ?_
  have hWE : Ext w1 W := hW ▸ Ext.drew _
  have hx2 := hx.ext hWE
  simp [(v0.ext hWE).cell, hx2.c0, hx2.c1, hx2.c2, hx2.c3, hx2.c4]
  refine FN.mono (no_is a W) ?_
  rintro _ W1 ⟨rfl, hE2⟩
  simp
  refine KR_ext hE2 ?_
  simp
  refine FN.mono (right_c x.1 W1) ?_
  rintro _ W2 ⟨rb, rfl, hr, hE3⟩
  simp
  refine KR_ext hE3 ?_
  simp
  refine FN.mono (node_c x.2.1 W2) ?_
  rintro _ W3 ⟨nb, rfl, hnv, hE4⟩
  simp
  refine KR_ext hE4 ?_
  simp
  have hE41 := ((hWE.trans hE2).trans hE3).trans hE4
  let qs : List Qn := [⟨.func (.func 55) #[] #[ptr rb], 2, false⟩, ⟨.func (.func 57) #[] #[ptr nb], 2, false⟩, ⟨.func (.func 26) #[] #[ptr (w.heap.size + 1)], 2, false⟩,
    ⟨.func (.func 28) #[] #[ptr w.heap.size, ptr (w.heap.size + 1)], 150, false⟩, ⟨.func (.func 29) #[] #[ptr w.heap.size], 220, false⟩]
  have hsl := Sl.made W3 (askCells (⟨.func (.func 32) #[.pointer a] #[], 1, true⟩ :: qs)) 73 2 6 rfl
  refine no_asked (w0 := W3) (h.ext (hE1.trans hE41)) qs hsl (by simp [qs]) ?_ ((Ext.refl W3).alloc _) fun w4 hw4 => ?_
  · intro q hq
    simp [qs] at hq
    rcases hq with rfl | rfl | rfl | rfl | rfl <;> exact ⟨_, _, _, rfl⟩
  simp
  exact (hE1.trans hE41).trans hw4
theorem no_drop {w : World} {a : Option Addr} (h : NoL w a) (n : Nm) : FN Try.prog 10 [.pointer a, nmV n] w fun e w' => e = .returned (.tuple #[wtV zW, i64 1]) ∧ Ext w w' := by
  refine FN_enter Try.func10 rfl rfl (by kernel_rfl) ?_
  simp
  have hE1 : Ext w ((w.alloc (.cells #[u32 n.1, u32 n.2.1, u64 n.2.2.1, u32 n.2.2.2] 28)).alloc (.cells #[u32 0, u32 0, u64 0, u32 0, u32 0, i64 0, i64 0] 30)) := ((Ext.refl w).alloc _).alloc _
  have hn1 : NmAt ((w.alloc (.cells #[u32 n.1, u32 n.2.1, u64 n.2.2.1, u32 n.2.2.2] 28)).alloc (.cells #[u32 0, u32 0, u64 0, u32 0, u32 0, i64 0, i64 0] 30)) w.heap.size n := (NmAt.new w n 28).ext ((Ext.refl _).alloc _)
  have hob : ((w.alloc (.cells #[u32 n.1, u32 n.2.1, u64 n.2.2.1, u32 n.2.2.2] 28)).alloc (.cells #[u32 0, u32 0, u64 0, u32 0, u32 0, i64 0, i64 0] 30)).heap[w.heap.size + 1]? = some (.cells #[u32 0, u32 0, u64 0, u32 0, u32 0, i64 0, i64 0] 30 (0, 0)) := by
    have := World.alloc_heap_new (w.alloc (.cells #[u32 n.1, u32 n.2.1, u64 n.2.2.1, u32 n.2.2.2] 28)) (.cells #[u32 0, u32 0, u64 0, u32 0, u32 0, i64 0, i64 0] 30 (0, 0))
    simpa using this
  have hsz : ((w.alloc (.cells #[u32 n.1, u32 n.2.1, u64 n.2.2.1, u32 n.2.2.2] 28)).alloc (.cells #[u32 0, u32 0, u64 0, u32 0, u32 0, i64 0, i64 0] 30)).heap.size = w.heap.size + 1 + 1 := by simp
  generalize ((w.alloc (.cells #[u32 n.1, u32 n.2.1, u64 n.2.2.1, u32 n.2.2.2] 28)).alloc (.cells #[u32 0, u32 0, u64 0, u32 0, u32 0, i64 0, i64 0] 30)) = w1 at *
  refine WC_drawC 6 (.F 0 <| .F 2 <| .F 4 <| .F 5 <| .C 1 <| .C 3 <| .Z) (fun _ => false) rfl (by kernel_rfl) fun W hW => ?_
  have hWE : Ext w1 W := hW ▸ Ext.drew _
  have hn2 := hn1.ext hWE
  simp [hn2.c0, hn2.c1, hn2.c2, hn2.c3]
  refine FN.mono (no_is a W) ?_
  rintro _ W1 ⟨rfl, hE2⟩
  simp
  refine KR_ext hE2 ?_
  simp
  refine FN.mono (right_c n W1) ?_
  rintro _ W2 ⟨rb, rfl, hr, hE3⟩
  simp
  refine KR_ext hE3 ?_
  simp
  refine FN.mono (no_waits a n W2) ?_
  rintro _ W3 ⟨b0, b1, rfl, hE4⟩
  simp
  have hE41 := ((hWE.trans hE2).trans hE3).trans hE4
  let qs : List Qn := [⟨.func (.func 55) #[] #[ptr rb], 2, false⟩, ⟨.func (.func 60) #[] #[ptr b0, ptr b1], 5, false⟩]
  have hsl := Sl.made W3 (askCells (⟨.func (.func 32) #[.pointer a] #[], 1, true⟩ :: qs)) 73 2 3 rfl
  refine no_asked (w0 := W3) (h.ext (hE1.trans hE41)) qs hsl (by simp [qs]) ?_ ((Ext.refl W3).alloc _) fun w4 hw4 => ?_
  · intro q hq
    simp [qs] at hq
    rcases hq with rfl | rfl <;> exact ⟨_, _, _, rfl⟩
  have hX := hE41.trans hw4
  obtain ⟨y0, yf⟩ := setZ7 (hX.obj hob)
  simp [y0 0 _ rfl, y0 1 _ rfl, y0 2 _ rfl, y0 3 _ rfl, y0 4 _ rfl, y0 5 _ rfl, y0 6 _ rfl, yf, cell_setCell]
  have hS := mod7 w4 (w.heap.size + 1) (u32 0) (u32 0) (u64 0) (u32 0) (u32 0) (i64 0) (i64 0)
  exact ⟨by simp [zW], (((hE1.trans hX).mod (S := fun _ => False)).trans' hS fun k hk => .inr (by omega)).ext fun _ h => h.elim⟩
theorem no_get {w : World} {a : Option Addr} (h : NoL w a) (n : Nm) : FN Try.prog 18 [.pointer a, nmV n] w fun e w' => e = .returned (.tuple #[wtV zW, i64 0, i64 1]) ∧ Ext w w' := by
  refine FN_enter Try.func18 rfl rfl (by kernel_rfl) ?_
  simp
  have hE1 : Ext w ((((w.alloc (.cells #[u32 n.1, u32 n.2.1, u64 n.2.2.1, u32 n.2.2.2] 28)).alloc (.cells #[u32 0, u32 0, u64 0, u32 0, u32 0, i64 0, i64 0] 30)).alloc (.cells #[i64 0] 3)).alloc (.cells #[i64 0] 33)) := ((((Ext.refl w).alloc _).alloc _).alloc _).alloc _
  have hn1 : NmAt ((((w.alloc (.cells #[u32 n.1, u32 n.2.1, u64 n.2.2.1, u32 n.2.2.2] 28)).alloc (.cells #[u32 0, u32 0, u64 0, u32 0, u32 0, i64 0, i64 0] 30)).alloc (.cells #[i64 0] 3)).alloc (.cells #[i64 0] 33)) w.heap.size n := (NmAt.new w n 28).ext ((((Ext.refl _).alloc _).alloc _).alloc _)
  have hob : ((((w.alloc (.cells #[u32 n.1, u32 n.2.1, u64 n.2.2.1, u32 n.2.2.2] 28)).alloc (.cells #[u32 0, u32 0, u64 0, u32 0, u32 0, i64 0, i64 0] 30)).alloc (.cells #[i64 0] 3)).alloc (.cells #[i64 0] 33)).heap[w.heap.size + 1]? = some (.cells #[u32 0, u32 0, u64 0, u32 0, u32 0, i64 0, i64 0] 30 (0, 0)) := by
    have := (((Ext.refl _).alloc (.cells #[i64 0] 3)).alloc (.cells #[i64 0] 33)).obj (World.alloc_heap_new (w.alloc (.cells #[u32 n.1, u32 n.2.1, u64 n.2.2.1, u32 n.2.2.2] 28)) (.cells #[u32 0, u32 0, u64 0, u32 0, u32 0, i64 0, i64 0] 30 (0, 0)))
    simpa using this
  have v5 : Var ((((w.alloc (.cells #[u32 n.1, u32 n.2.1, u64 n.2.2.1, u32 n.2.2.2] 28)).alloc (.cells #[u32 0, u32 0, u64 0, u32 0, u32 0, i64 0, i64 0] 30)).alloc (.cells #[i64 0] 3)).alloc (.cells #[i64 0] 33)) (w.heap.size + 1 + 1) (i64 0) := by
    have := (Var.new ((w.alloc (.cells #[u32 n.1, u32 n.2.1, u64 n.2.2.1, u32 n.2.2.2] 28)).alloc (.cells #[u32 0, u32 0, u64 0, u32 0, u32 0, i64 0, i64 0] 30)) (i64 0) 3).ext ((Ext.refl _).alloc (.cells #[i64 0] 33))
    simpa using this
  have v6 : Var ((((w.alloc (.cells #[u32 n.1, u32 n.2.1, u64 n.2.2.1, u32 n.2.2.2] 28)).alloc (.cells #[u32 0, u32 0, u64 0, u32 0, u32 0, i64 0, i64 0] 30)).alloc (.cells #[i64 0] 3)).alloc (.cells #[i64 0] 33)) (w.heap.size + 1 + 1 + 1) (i64 0) := by
    have := Var.new (((w.alloc (.cells #[u32 n.1, u32 n.2.1, u64 n.2.2.1, u32 n.2.2.2] 28)).alloc (.cells #[u32 0, u32 0, u64 0, u32 0, u32 0, i64 0, i64 0] 30)).alloc (.cells #[i64 0] 3)) (i64 0) 33
    simpa using this
  have hsz : ((((w.alloc (.cells #[u32 n.1, u32 n.2.1, u64 n.2.2.1, u32 n.2.2.2] 28)).alloc (.cells #[u32 0, u32 0, u64 0, u32 0, u32 0, i64 0, i64 0] 30)).alloc (.cells #[i64 0] 3)).alloc (.cells #[i64 0] 33)).heap.size = w.heap.size + 1 + 1 + 1 + 1 := by simp
  generalize ((((w.alloc (.cells #[u32 n.1, u32 n.2.1, u64 n.2.2.1, u32 n.2.2.2] 28)).alloc (.cells #[u32 0, u32 0, u64 0, u32 0, u32 0, i64 0, i64 0] 30)).alloc (.cells #[i64 0] 3)).alloc (.cells #[i64 0] 33)) = w1 at *
  refine WC_drawC 6 (.F 0 <| .F 2 <| .F 4 <| .F 5 <| .C 1 <| .C 3 <| .Z) (fun _ => false) rfl (by kernel_rfl) fun W hW => ?_
  have hWE : Ext w1 W := hW ▸ Ext.drew _
  have hn2 := hn1.ext hWE
  simp [hn2.c0, hn2.c1, hn2.c2, hn2.c3]
  refine FN.mono (no_is a W) ?_
  rintro _ W1 ⟨rfl, hE2⟩
  simp
  refine KR_ext hE2 ?_
  simp
  refine FN.mono (right_c n W1) ?_
  rintro _ W2 ⟨rb, rfl, hr, hE3⟩
  simp
  refine KR_ext hE3 ?_
  simp
  refine FN.mono (no_waits a n W2) ?_
  rintro _ W3 ⟨b0, b1, rfl, hE4⟩
  simp
  have hE41 := ((hWE.trans hE2).trans hE3).trans hE4
  let qs : List Qn := [⟨.func (.func 55) #[] #[ptr rb], 2, false⟩, ⟨.func (.func 60) #[] #[ptr b0, ptr b1], 5, false⟩]
  have hsl := Sl.made W3 (askCells (⟨.func (.func 32) #[.pointer a] #[], 1, true⟩ :: qs)) 73 2 3 rfl
  refine no_asked (w0 := W3) (h.ext (hE1.trans hE41)) qs hsl (by simp [qs]) ?_ ((Ext.refl W3).alloc _) fun w4 hw4 => ?_
  · intro q hq
    simp [qs] at hq
    rcases hq with rfl | rfl <;> exact ⟨_, _, _, rfl⟩
  have hX := hE41.trans hw4
  have hs1 := hE1.size
  obtain ⟨y0, yf⟩ := setZ7 (hX.obj hob)
  have v54 := v5.ext hX
  have v64 := v6.ext hX
  simp [y0 0 _ rfl, y0 1 _ rfl, y0 2 _ rfl, y0 3 _ rfl, y0 4 _ rfl, y0 5 _ rfl, y0 6 _ rfl, yf, cell_setCell, v54.cell, v54.thaw, v64.cell, v64.thaw]
  have hS := (((mod7 w4 (w.heap.size + 1) (u32 0) (u32 0) (u64 0) (u32 0) (u32 0) (i64 0) (i64 0)).weaken (S' := fun k => w.heap.size ≤ k) fun k hk => by omega).setCell ⟨w.heap.size + 1 + 1, 0, none⟩ (i64 0) (.inl (by simp only; omega))).setCell ⟨w.heap.size + 1 + 1 + 1, 0, none⟩ (i64 1) (.inl (by simp only; omega))
  exact ⟨by simp [zW], (((hE1.trans hX).mod (S := fun k => w.heap.size ≤ k)).trans hS).ext fun _ h => h⟩
theorem no_first {w : World} {a : Option Addr} (h : NoL w a) (nd : Int) : FN Try.prog 12 [.pointer a, u32 nd] w fun e w' => e = .returned (.tuple #[wtV zW, i64 1]) ∧ Ext w w' := by
  refine FN_enter Try.func12 rfl rfl (by kernel_rfl) ?_
  simp
  have hE1 : Ext w (w.alloc (.cells #[u32 0, u32 0, u64 0, u32 0, u32 0, i64 0, i64 0] 30)) := (Ext.refl w).alloc _
  have hob : (w.alloc (.cells #[u32 0, u32 0, u64 0, u32 0, u32 0, i64 0, i64 0] 30)).heap[w.heap.size]? = some (.cells #[u32 0, u32 0, u64 0, u32 0, u32 0, i64 0, i64 0] 30 (0, 0)) := World.alloc_heap_new w (.cells #[u32 0, u32 0, u64 0, u32 0, u32 0, i64 0, i64 0] 30 (0, 0))
  generalize (w.alloc (.cells #[u32 0, u32 0, u64 0, u32 0, u32 0, i64 0, i64 0] 30)) = w1 at *
  refine FN.mono (no_list (h.ext hE1) nd) ?_
  rintro _ w2 ⟨rfl, hE2⟩
  simp
  have hE3 : Ext w2 (w2.alloc (.cells #[.slice none 0 0] 22)) := (Ext.refl w2).alloc _
  obtain ⟨vb, hvb⟩ : ∃ vb, vb = w2.heap.size := ⟨_, rfl⟩
  rw [← hvb]
  generalize (w2.alloc (.cells #[.slice none 0 0] 22)) = w3 at *
  refine FN.mono (no_is a w3) ?_
  rintro _ W1 ⟨rfl, hE4⟩
  simp
  refine FN.mono (node_c nd W1) ?_
  rintro _ W2 ⟨nb, rfl, hnv, hE5⟩
  simp
  have hE35 := hE4.trans hE5
  let qs : List Qn := [⟨.func (.func 57) #[] #[ptr nb], 2, false⟩, ⟨.func (.func 40) #[] #[ptr vb], 5, false⟩]
  have hsl := Sl.made W2 (askCells (⟨.func (.func 32) #[.pointer a] #[], 1, true⟩ :: qs)) 73 2 3 rfl
  refine no_asked (w0 := W2) (h.ext ((hE1.trans (hE2.trans hE3)).trans hE35)) qs hsl (by simp [qs]) ?_ ((Ext.refl W2).alloc _) fun w4 hw4 => ?_
  · intro q hq
    simp [qs] at hq
    rcases hq with rfl | rfl <;> exact ⟨_, _, _, rfl⟩
  have hX := (hE2.trans hE3).trans (hE35.trans hw4)
  obtain ⟨y0, yf⟩ := setZ7 (hX.obj hob)
  simp [y0 0 _ rfl, y0 1 _ rfl, y0 2 _ rfl, y0 3 _ rfl, y0 4 _ rfl, y0 5 _ rfl, y0 6 _ rfl, yf, cell_setCell]
  have hS := mod7 w4 w.heap.size (u32 0) (u32 0) (u64 0) (u32 0) (u32 0) (i64 0) (i64 0)
  exact ⟨by simp [zW], (((hE1.trans hX).mod (S := fun _ => False)).trans' hS fun k hk => .inr (by omega)).ext fun _ h => h.elim⟩
theorem no_move {w : World} {a : Option Addr} (h : NoL w a) (n : Nm) (tn : Int) : FN Try.prog 20 [.pointer a, nmV n, u32 tn] w fun e w' => e = .returned (i64 1) ∧ Ext w w' := by
  refine FN_enter Try.func20 rfl rfl (by kernel_rfl) ?_
  simp
  have hE1 : Ext w (w.alloc (.cells #[u32 n.1, u32 n.2.1, u64 n.2.2.1, u32 n.2.2.2] 28)) := (Ext.refl w).alloc _
  have hn1 : NmAt (w.alloc (.cells #[u32 n.1, u32 n.2.1, u64 n.2.2.1, u32 n.2.2.2] 28)) w.heap.size n := NmAt.new w n 28
  generalize (w.alloc (.cells #[u32 n.1, u32 n.2.1, u64 n.2.2.1, u32 n.2.2.2] 28)) = w1 at *
  refine WC_drawC 8 (.F 0 <| .F 2 <| .F 4 <| .F 6 <| .F 7 <| .C 1 <| .C 3 <| .C 5 <| .Z) (fun _ => false) rfl (by kernel_rfl) fun W hW => ?_
  have hWE : Ext w1 W := hW ▸ Ext.drew _
  have hn2 := hn1.ext hWE
  simp [hn2.c0, hn2.c1, hn2.c2, hn2.c3]
  refine FN.mono (no_is a W) ?_
  rintro _ W1 ⟨rfl, hE2⟩
  simp
  refine KR_ext hE2 ?_
  simp
  refine FN.mono (right_c n W1) ?_
  rintro _ W2 ⟨rb, rfl, hr, hE3⟩
  simp
  refine KR_ext hE3 ?_
  simp
  refine FN.mono (node_c tn W2) ?_
  rintro _ W3 ⟨nb, rfl, hnv, hE4⟩
  simp
  refine KR_ext hE4 ?_
  simp
  refine FN.mono (no_waits a n W3) ?_
  rintro _ W4 ⟨b0, b1, rfl, hE4'⟩
  simp
  have hE41 := (((hWE.trans hE2).trans hE3).trans hE4).trans hE4'
  let qs : List Qn := [⟨.func (.func 55) #[] #[ptr rb], 2, false⟩, ⟨.func (.func 57) #[] #[ptr nb], 2, false⟩, ⟨.func (.func 60) #[] #[ptr b0, ptr b1], 5, false⟩]
  have hsl := Sl.made W4 (askCells (⟨.func (.func 32) #[.pointer a] #[], 1, true⟩ :: qs)) 73 2 4 rfl
  refine no_asked (w0 := W4) (h.ext (hE1.trans hE41)) qs hsl (by simp [qs]) ?_ ((Ext.refl W4).alloc _) fun w4 hw4 => ?_
  · intro q hq
    simp [qs] at hq
    rcases hq with rfl | rfl | rfl <;> exact ⟨_, _, _, rfl⟩
  simp
  exact (hE1.trans hE41).trans hw4
theorem no_all {w : World} {a : Option Addr} (h : NoL w a) (nd : Int) : FN Try.prog 21 [.pointer a, u32 nd] w fun e w' => ∃ b, e = .returned (.func (.func 54) #[] #[ptr b]) ∧ Var w' b (.slice none 0 0) ∧ Ext w w' := by
  refine FN_enter Try.func21 rfl rfl (by kernel_rfl) ?_
  simp
  refine FN.mono (no_list h nd) ?_
  rintro _ w1 ⟨rfl, hE⟩
  simp
  exact ⟨Var.new w1 _ _, hE.alloc _⟩
theorem no_nodes {w : World} {a : Option Addr} (h : NoL w a) : FN Try.prog 19 [.pointer a] w fun e w' => ∃ b r, e = .returned (.func (.func 51) #[] #[ptr b]) ∧ Var w' b (.map (some r)) ∧ SM w' r [] ∧ Ext w w' := by
  refine FN_enter Try.func19 rfl rfl (by kernel_rfl) ?_
  simp
  have hE1 : Ext w ((w.alloc (.map #[] 0)).alloc (.cells #[.map (some w.heap.size)] 103)) := ((Ext.refl w).alloc _).alloc _
  have m1 : SM ((w.alloc (.map #[] 0)).alloc (.cells #[.map (some w.heap.size)] 103)) w.heap.size [] := (MapAt.alloc0 _ _ w).ext ((Ext.refl _).alloc _)
  have v1 : Var ((w.alloc (.map #[] 0)).alloc (.cells #[.map (some w.heap.size)] 103)) (w.heap.size + 1) (.map (some w.heap.size)) := by
    have := Var.new (w.alloc (.map #[] 0)) (.map (some w.heap.size)) 103
    simpa using this
  generalize ((w.alloc (.map #[] 0)).alloc (.cells #[.map (some w.heap.size)] 103)) = w1 at *
  refine FN.mono (no_none (h.ext hE1)) ?_
  rintro _ w2 ⟨rfl, hw⟩
  rw [hw]
  simp
  exact ⟨_, v1, m1, hE1⟩
theorem no_len {w : World} {a : Option Addr} (h : NoL w a) : FN Try.prog 48 [.pointer a] w fun e w' => e = .returned (.tuple #[i64 0, i64 0]) ∧ Ext w w' := by
  refine FN_enter Try.func48 rfl rfl (by kernel_rfl) ?_
  simp
  refine FN.mono (no_none h) ?_
  rintro _ w1 ⟨rfl, hw⟩
  rw [hw]
  simp
  exact Ext.refl w
theorem no_copy {w : World} {a : Option Addr} (h : NoL w a) : FN Try.prog 9 [.pointer a] w fun e w' => e = .returned (.pointer none) ∧ Ext w w' := by
  refine FN_enter Try.func9 rfl rfl (by kernel_rfl) ?_
  simp
  refine FN.mono (no_none h) ?_
  rintro _ w1 ⟨rfl, hw⟩
  rw [hw]
  simp
  exact Ext.refl w
theorem no_same {w : World} {a : Option Addr} (h : NoL w a) : FN Try.prog 11 [.pointer a, .pointer none] w fun e w' => e = .returned (.bool true) ∧ Ext w w' := by
  refine FN_enter Try.func11 rfl rfl (by kernel_rfl) ?_
  simp
  refine FN.mono (no_none h) ?_
  rintro _ w1 ⟨rfl, hw⟩
  rw [hw]
  simp
  refine FN.mono (no_none h) ?_
  rintro _ w1 ⟨rfl, hw⟩
  rw [hw]
  simp
  refine FN.mono (no_none (.inl rfl)) ?_
  rintro _ w1 ⟨rfl, hw⟩
  rw [hw]
  simp
  exact Ext.refl w
end Go.Proofs
namespace Go.Proofs
open Pk
set_option maxRecDepth 10000
theorem kNisKeys_nil : kNisKeys [] [] := ⟨by simp, List.Pairwise.nil⟩
set_option maxHeartbeats 4000000 in
theorem lnone_c (w : World) : FN Try.prog 16 [] w fun e w' => e = .returned (.bool true) ∧ Ext w w' := by
  refine FN_enter Try.func16 rfl rfl (by kernel_rfl) ?_
  simp
  have hE1 := (Ext.refl w).alloc (.cells #[.bool false] 4)
  have v1 := Var.new w (.bool false) 4
  obtain ⟨B, hB⟩ : ∃ B, B = w.heap.size := ⟨_, rfl⟩
  have z1 : (w.alloc (.cells #[.bool false] 4)).heap.size = w.heap.size + 1 := by simp
  rw [← hB] at v1 z1 ⊢
  generalize (w.alloc (.cells #[.bool false] 4)) = w1 at *
  refine WC_loop (fun k ρ ds w' => ∃ (turn : Nat) (Ds : List Nat), k = 2 - turn ∧ turn ≤ 2 ∧ ρ 0 = ptr B ∧ ρ 1 = i64 turn ∧ ds = Ds.map mark ∧ Ds.Nodup ∧ (∀ D ∈ Ds, w1.heap.size ≤ D ∧ w'.heap[D]? = some (.deferred (some []))) ∧ Ext w1 w') 2
    ⟨0, [], rfl, by omega, by simp, by simp, rfl, List.nodup_nil, fun _ h => by simp at h, Ext.refl _⟩ ?_
  rintro k ρ ds w2 ⟨turn, Ds, rfl, ht2, e0, e1, rfl, hDn, hDs, hE2⟩
  by_cases ht : turn < 2
  · have htb : (turn : Int) < 2 := by omega
    simp [e1, htb]
    refine with_tail (T := ∀ (σ : Env) (W : World) (a : Option Addr), (σ 0 = ptr B ∧ σ 1 = i64 turn ∧ σ 2 = .pointer a ∧ σ 21 = .pointer a) → NoL W a → Ext w2 W → FNt Try.prog 17 [u32 1] W (RC ?dA ?KA ?QA σ (Ds.map mark)) Tok.mk) (fun tail => ?br) ?jn
    case br =>
      by_cases h1 : turn = 1
      · have h1' : (turn : Int) = 1 := by omega
        simp [h1']
        refine tail _ _ (some ⟨w2.heap.size, 0, none⟩) ?_ (.inr ⟨_, rfl, ?_⟩) ((Ext.refl w2).alloc _)
        · simp [e0, e1]
        · simp
      · have h1' : ¬ (turn : Int) = 1 := by omega
        simp [h1']
        refine tail _ _ none ?_ (.inl rfl) (Ext.refl w2)
        simp [e0, e1]
    case jn =>
      rintro σ w3 a ⟨e0, e1, e2, e21⟩ ha hE3
      refine FN.mono (named_c 1 w3) ?_
      rintro _ w4 ⟨rfl, hE4⟩
      simp [e21]
      refine FN.mono (no_drop (ha.ext hE4) (nmN 1)) ?_
      rintro _ w5 ⟨rfl, hE5⟩
      simp [e2]
      have hE6 : Ext w5 (w5.alloc (.cells #[u32 zW.1.1, u32 zW.1.2.1, u64 zW.1.2.2.1, u32 zW.1.2.2.2, u32 zW.2.1, i64 zW.2.2.1, i64 zW.2.2.2] 30)) := (Ext.refl w5).alloc _
      generalize (w5.alloc (.cells #[u32 zW.1.1, u32 zW.1.2.1, u64 zW.1.2.2.1, u32 zW.1.2.2.2, u32 zW.2.1, i64 zW.2.2.1, i64 zW.2.2.2] 30)) = w6 at *
      refine FN.mono (named_c 1 w6) ?_
      rintro _ w7 ⟨rfl, hE7⟩
      simp
      have hE47 := (hE5.trans hE6).trans hE7
      refine FN.mono (no_get ((ha.ext hE4).ext hE47) (nmN 1)) ?_
      rintro _ w8 ⟨rfl, hE8⟩
      simp [e2]
      have hE9 : Ext w8 (w8.alloc (.cells #[u32 zW.1.1, u32 zW.1.2.1, u64 zW.1.2.2.1, u32 zW.1.2.2.2, u32 zW.2.1, i64 zW.2.2.1, i64 zW.2.2.2] 30)) := (Ext.refl w8).alloc _
      generalize (w8.alloc (.cells #[u32 zW.1.1, u32 zW.1.2.1, u64 zW.1.2.2.1, u32 zW.1.2.2.2, u32 zW.2.1, i64 zW.2.2.1, i64 zW.2.2.2] 30)) = w9 at *
      have hE49 := hE4.trans (hE47.trans (hE8.trans hE9))
      refine FN.mono (no_first (ha.ext hE49) 1) ?_
      rintro _ w10 ⟨rfl, hE10⟩
      simp [e2]
      have hE11 : Ext w10 (w10.alloc (.cells #[u32 zW.1.1, u32 zW.1.2.1, u64 zW.1.2.2.1, u32 zW.1.2.2.2, u32 zW.2.1, i64 zW.2.2.1, i64 zW.2.2.2] 30)) := (Ext.refl w10).alloc _
      generalize (w10.alloc (.cells #[u32 zW.1.1, u32 zW.1.2.1, u64 zW.1.2.2.1, u32 zW.1.2.2.2, u32 zW.2.1, i64 zW.2.2.1, i64 zW.2.2.2] 30)) = w11 at *
      have hE311 := hE49.trans (hE10.trans hE11)
      refine FN.mono (no_all (ha.ext hE311) 1) ?_
      rintro _ w12 ⟨b12, rfl, -, hE12⟩
      simp [e2]
      have hE312 := hE311.trans hE12
      refine FN.mono (no_all (ha.ext hE312) 1) ?_
      rintro _ w13 ⟨b13, rfl, v13, hE13⟩
      simp
      have hE313 := hE312.trans hE13
      have hitA := all_it (ls := []) v13 (Sl.nil w13 7 0) (by simp)
      refine WC_rangeFunc (gf := 54) (first := #[]) (caps := #[ptr b13]) (enc := fun x => [wtV x]) (by simp) (fun _ _ => callFunc_enter Try.func54 rfl rfl _ _) hitA (fun x => rfl) (fun _ => False)
        (fun C pre W => (∀ k, ¬ C k) ∧ Ext w13 W) (fun _ _ _ _ => False) (fun k hk => ⟨?_, id⟩) (fun k hk => hk.elim) ?_ (fun _ _ _ _ _ h _ => h.elim) ⟨fun _ h => h, Ext.refl _⟩ ?ρA ?haA ?_ ?_ (fun _ _ _ _ _ h _ => h.elim)
      case haA =>
        intro l x W
        simp
        exact rfl
      · rcases hk with rfl | ⟨hn, -⟩
        · exact v13.lt
        · simp [slN] at hn
      · rintro C pre W W' ⟨h1, h2⟩ hag
        exact ⟨h1, ((h2.mod (S := fun _ => False)).agr_old hag).ext fun _ h => h.elim⟩
      · rintro l C pre x W ⟨hne, suf, hsuf⟩ - - - -
        simp at hsuf
      · rintro C xs w14 rfl ⟨-, hE14⟩ hD14
        simp [e2]
        have hE314 := hE313.trans hE14
        refine FN.mono (no_nodes (ha.ext hE314)) ?_
        rintro _ w15 ⟨b15, r15, rfl, v15, m15, hE15⟩
        simp
        have hE315 := hE314.trans hE15
        have hitN := kNsteps kU32 zI v15 m15.val (by simp) kNisKeys_nil
        refine WC_rangeFunc (gf := 51) (first := #[]) (caps := #[ptr b15]) (enc := kNst []) (by simp) (fun _ _ => callFunc_enter Try.func51 rfl rfl _ _) hitN (fun x => rfl) (fun _ => False)
          (fun C pre W => (∀ k, ¬ C k) ∧ Ext w15 W) (fun _ _ _ _ => False) (fun k hk => ⟨?_, id⟩) (fun k hk => hk.elim) ?_ (fun _ _ _ _ _ h _ => h.elim) ⟨fun _ h => h, Ext.refl _⟩ ?ρB ?haB ?_ ?_ (fun _ _ _ _ _ h _ => h.elim)
        case haB =>
          intro l x W
          simp
          exact rfl
        · rcases hk with rfl | h
          · exact v15.lt
          · have := m15.lt
            cases h
            exact this
        · rintro C pre W W' ⟨h1, h2⟩ hag
          exact ⟨h1, ((h2.mod (S := fun _ => False)).agr_old hag).ext fun _ h => h.elim⟩
        · rintro l C pre x W ⟨hne, suf, hsuf⟩ - - - -
          simp at hsuf
        · rintro C xs w16 rfl ⟨-, hE16⟩ hD16
          simp [e2]
          have hE316 := hE315.trans hE16
          refine FN.mono (no_len (ha.ext hE316)) ?_
          rintro _ w17 ⟨rfl, hE17⟩
          simp [e2]
          have hE317 := hE316.trans hE17
          refine FN.mono (no_put (ha.ext hE317) zW) ?_
          rintro _ w18 ⟨rfl, hE18⟩
          simp
          refine FN.mono (num_c 1 w18) ?_
          rintro _ w18a ⟨rfl, hw⟩
          rw [hw]
          simp
          refine FN.mono (num_c 1 w18) ?_
          rintro _ w18b ⟨rfl, hw⟩
          rw [hw]
          simp
          refine FN.mono (num_c 1 w18) ?_
          rintro _ w18c ⟨rfl, hw⟩
          rw [hw]
          simp
          refine FN.mono (num_c 1 w18) ?_
          rintro _ w18d ⟨rfl, hw⟩
          rw [hw]
          simp [e2]
          have hE318 := hE317.trans hE18
          refine FN.mono (named_c 1 w18) ?_
          rintro _ w19 ⟨rfl, hE19⟩
          simp
          have hE319 := hE318.trans hE19
          refine FN.mono (no_move (ha.ext hE319) (nmN 1) 1) ?_
          rintro _ w20 ⟨rfl, hE20⟩
          simp
          refine FN.mono (num_c 1 w20) ?_
          rintro _ w20a ⟨rfl, hw⟩
          rw [hw]
          have q0 : IntKind.i64.wrap 0 = 0 := by decide
          simp [e2, q0]
          have hE320 := hE319.trans hE20
          refine FN.mono (no_copy (ha.ext hE320)) ?_
          rintro _ w21 ⟨rfl, hE21⟩
          simp [e2]
          have hE321 := hE320.trans hE21
          refine FN.mono (no_same (ha.ext hE321)) ?_
          rintro _ w22 ⟨rfl, hE22⟩
          simp [e0, e1]
          have hE322 := hE321.trans hE22
          have hDlt : ∀ D ∈ Ds, D < w2.heap.size := fun D hD => (Array.getElem?_eq_some_iff.1 (hDs D hD).2).1
          have k14 := (Array.getElem?_eq_some_iff.1 hD14).1
          have k16 := (Array.getElem?_eq_some_iff.1 hD16).1
          have s2 := hE2.size
          have s313 := (hE3.trans hE313).size
          have s15 := hE15.size
          have hE2216 := (hE17.trans (hE18.trans (hE19.trans (hE20.trans (hE21.trans hE22)))))
          refine ⟨2 - (turn + 1), by omega, turn + 1, rfl, by omega, by rw [wrap64 _ (by omega) (by omega)]; rfl, w15.heap.size :: w13.heap.size :: Ds, rfl, ?_, ?_, hE2.trans (hE3.trans hE322)⟩
          · refine List.nodup_cons.2 ⟨fun h => ?_, List.nodup_cons.2 ⟨fun h => ?_, hDn⟩⟩
            · rcases List.mem_cons.1 h with h | h
              · omega
              · have := hDlt _ h; omega
            · have := hDlt _ h; omega
          · intro D hD
            rcases List.mem_cons.1 hD with rfl | hD
            · exact ⟨by omega, hE2216.obj hD16⟩
            · rcases List.mem_cons.1 hD with rfl | hD
              · exact ⟨by omega, ((hE15.trans hE16).trans hE2216).obj hD14⟩
              · exact ⟨(hDs D hD).1, (hE3.trans hE322).obj (hDs D hD).2⟩
  · have htb : ¬ (turn : Int) < 2 := by omega
    have v2 := v1.ext hE2
    simp [e0, e1, htb, v2.cell, v2.thaw]
    have mF := (Mod.refl (fun k => k = B) w2).setC 0 (.bool true)
    have vF := v2.set (.bool true)
    generalize (w2.setCell ⟨B, 0, none⟩ (.bool true)) = w3 at *
    refine LV_marks Ds w3 hDn (fun D hD => ?_) fun w' hM' => ?_
    · have := hDs D hD
      exact mF.obj this.2 (by omega)
    · have vF' := vF.mod hM' (fun h => by have := (hDs _ h).1; omega)
      simp [vF'.cell, e0]
      exact ((((hE1.trans hE2).mod (S := fun k => w.heap.size ≤ k)).trans (mF.weaken fun k hk => by omega)).trans (hM'.weaken fun k hk => by have := (hDs _ hk).1; omega)).ext fun _ h => h
end Go.Proofs
namespace Go.Proofs
open Pk
set_option maxRecDepth 10000
theorem newBad_c (m : Int) (h : ¬ (0 ≤ m ∧ m ≤ 4096)) (w : World) : FN Try.prog 6 [i64 m] w fun e w' => e = .returned (.tuple #[.pointer none, i64 2]) ∧ Ext w w' := by
  refine FN_enter Try.func6 rfl rfl (by kernel_rfl) ?_
  by_cases g0 : m < 0
  · simp [g0]
    exact Ext.refl w
  · have g1 : 4096 < m := by omega
    simp [g0, g1]
    exact Ext.refl w
def acC (a : Int × Wt) : List Value := [i64 a.1, u32 a.2.1.1, u32 a.2.1.2.1, u64 a.2.1.2.2.1, u32 a.2.1.2.2.2, u32 a.2.2.1, i64 a.2.2.2.1, i64 a.2.2.2.2]
abbrev ASl (w : World) (v : Value) (l : List (Int × Wt)) := SlA w 8 v l.length (l.flatMap acC)
structure ActAt (w : World) (v : Value) (i : Nat) (a : Int × Wt) : Prop where
  c0 : w.cell? ⟨slB v, slO v + i * 8, none⟩ = some (i64 a.1)
  c1 : w.cell? ⟨slB v, slO v + i * 8 + 1, none⟩ = some (u32 a.2.1.1)
  c2 : w.cell? ⟨slB v, slO v + i * 8 + 2, none⟩ = some (u32 a.2.1.2.1)
  c3 : w.cell? ⟨slB v, slO v + i * 8 + 3, none⟩ = some (u64 a.2.1.2.2.1)
  c4 : w.cell? ⟨slB v, slO v + i * 8 + 4, none⟩ = some (u32 a.2.1.2.2.2)
  c5 : w.cell? ⟨slB v, slO v + i * 8 + 5, none⟩ = some (u32 a.2.2.1)
  c6 : w.cell? ⟨slB v, slO v + i * 8 + 6, none⟩ = some (i64 a.2.2.2.1)
  c7 : w.cell? ⟨slB v, slO v + i * 8 + 7, none⟩ = some (i64 a.2.2.2.2)
theorem ASl.row {w : World} {v : Value} {l : List (Int × Wt)} (h : ASl w v l) {i : Nat} {x : Int × Wt} (hi : l[i]? = some x) : ActAt w v i x := by
  have d := fun (j : Nat) (u : Value) (hj : j < 8) (e : (acC x)[j]? = some u) => h.at_ (i * 8 + j) u ((flat_at acC (fun _ => rfl) l i j x hi hj).trans e)
  simp only [← Nat.add_assoc] at d
  exact ⟨d 0 _ (by omega) rfl, d 1 _ (by omega) rfl, d 2 _ (by omega) rfl, d 3 _ (by omega) rfl, d 4 _ (by omega) rfl, d 5 _ (by omega) rfl, d 6 _ (by omega) rfl, d 7 _ (by omega) rfl⟩
theorem ASl.index {w : World} {v : Value} {l : List (Int × Wt)} (h : ASl w v l) (i : Nat) (hi : i < l.length) (W : World) : (Instr.indexAt 44 v (.int .i64 (i : Int))).run Try.prog W = .ok (.pointer (some ⟨slB v, slO v + i * 8, none⟩)) W := by
  have := SlA.index (P := Try.prog) (t := 44) h (by simp) .i64 i (by omega) (by omega) W
  simpa using this
theorem badR_f2 {x : Wt} (h : badR x = false) : 1 ≤ x.2.2.2 ∧ x.2.2.2 ≤ 65536 := by
  unfold badR at h
  simp only [Bool.or_eq_false_iff, decide_eq_false_iff_not] at h
  omega
theorem actS_len (s : List Wt) (most a : Int) (x : Wt) : (actS s most a x).length ≤ s.length + 1 := by
  unfold actS
  split
  · split <;> simp
  · split
    · split
      · exact Nat.le_succ_of_le (List.length_filter_le _ _)
      · simp
    · split
      · unfold moved
        split
        · have := List.length_filter_le (fun y : Wt => decide (y.1 ≠ x.1)) s
          rw [List.length_append, List.length_singleton]
          exact Nat.succ_le_succ (List.length_filter_le _ _)
        · simp
      · simp
theorem actS_all {p : Wt → Prop} {s : List Wt} {most a : Int} {x : Wt} (h : ∀ y ∈ s, p y) (h1 : putE s most x = 0 → p x) (h2 : ∀ y ∈ s, p (x.1, x.2.1, y.2.2)) : ∀ y ∈ actS s most a x, p y := by
  intro y hy
  unfold actS at hy
  split at hy
  · split at hy
    · rename_i he
      rcases List.mem_append.1 hy with hy | hy
      · exact h y hy
      · simp at hy; subst hy; exact h1 he
    · exact h y hy
  · split at hy
    · split at hy
      · exact h y (List.mem_filter.1 hy).1
      · exact h y hy
    · split at hy
      · unfold moved at hy
        split at hy
        · rename_i he
          obtain ⟨z, hz⟩ := moveE_0 he
          rcases List.mem_append.1 hy with hy | hy
          · exact h y (List.mem_filter.1 hy).1
          · simp at hy; subst hy
            rw [hz]
            exact h2 z (findN_some hz).1
        · exact h y hy
      · exact h y hy
theorem _root_.Pk.Mod.tight {S : Nat → Prop} {w w' : World} (h : Mod (fun k => S k ∨ w.heap.size ≤ k) w w') : Mod S w w' :=
  ⟨h.os, h.tape, h.out, h.size, fun i hi hn => h.blk i hi fun e => e.elim hn fun e => by omega⟩
theorem no_foot {w : World} {l Rq Rw : Nat} {M : MQ} {N : MN} {s : List Wt} {most : Int} (h : LineAt w l Rq Rw M N s most) {c : Nat} (hc : w.heap[c]? = some (.cells #[.slice none 0 0, i64 0] 46 (0, 0))) : ¬ Foot l Rq Rw M c := by
  have hcell : w.cell? ⟨c, 0, none⟩ = some (.slice none 0 0) := by simp [World.cell?, hc]
  rintro (rfl | rfl | rfl | ⟨e, he, rfl⟩)
  · rw [h.c0] at hcell; cases hcell
  · obtain ⟨es, g, hg, -⟩ := h.mq.ex
    rw [hg] at hc; cases hc
  · obtain ⟨es, g, hg, -⟩ := h.mw.ex
    rw [hg] at hc; cases hc
  · have ho := h.row e he
    have hne := List.length_pos_iff.2 (h.nn e he)
    have hr := WSl.row (sl_of_own ho) (List.getElem?_eq_getElem hne)
    have h0 := hr.c0
    have ho0 : slO e.2.1 = 0 := own_off ho
    rw [ho0] at h0
    simp at h0
    rw [h0] at hcell
    cases hcell
theorem sl_other {w w' : World} {v : Value} {s : List Wt} (h : WSl w v s) {S : Nat → Prop} (hM : Mod S w w') {c : Nat} (hc : w.heap[c]? = some (.cells #[.slice none 0 0, i64 0] 46 (0, 0))) (hS : ∀ k, S k → k = c) : WSl w' v s := by
  by_cases hs : s = []
  · subst hs
    exact ⟨h.len, h.val, fun _ _ h => by simp at h⟩
  · refine Sl.mod h hM fun e => ?_
    have hr := (WSl.row h (List.getElem?_eq_getElem (List.length_pos_iff.2 hs))).c6
    rw [hS _ e] at hr
    simp only [World.cell?, hc] at hr
    simp at hr
set_option maxHeartbeats 4000000 in
theorem RankPlays_c {w : World} {v : Value} {l : List (Int × Wt)} (hl : ASl w v l) (hok : ∀ a ∈ l, WtOk a.2) (most : Int) : FN Try.prog 4 [i64 most, v] w fun e w' => e = .returned (.bool true) ∧ Ext w w' := by
  refine FN_enter Try.func4 rfl rfl (by kernel_rfl) ?_
  have hlen := fun ty W => hl.isLen (P := Try.prog) (t := 44) (by simp) ty W
  by_cases h60 : 60 < l.length
  · have hb : decide ((60 : Int) < (l.length : Int)) = true := by simp; omega
    simp [hlen, hb]
    refine FN.mono (works_c w) ?_
    rintro _ w2 ⟨rfl, hE⟩
    simp
    exact hE
  · have hb : decide ((60 : Int) < (l.length : Int)) = false := by simp; omega
    simp [hlen, hb]
    by_cases hm : 0 ≤ most ∧ most ≤ 4096
    · refine FN.mono (new_c most hm.1 hm.2 w) ?_
      rintro _ w1 ⟨b, Rq, Rw, rfl, hL, hE1, hb1, hb2, hb3⟩
      simp
      refine FN.mono (rnew_c most w1) ?_
      rintro _ w2 ⟨rfl, hE2⟩
      simp [hm]
      have a2 : Ext w2 (w2.alloc (.cells #[.slice none 0 0, i64 most] 46)) := (Ext.refl w2).alloc _
      have r2 : RAt (w2.alloc (.cells #[.slice none 0 0, i64 most] 46)) w2.heap.size (.slice none 0 0) most := RAt.new w2 _ most
      have z2 : (w2.alloc (.cells #[.slice none 0 0, i64 most] 46)).heap.size = w2.heap.size + 1 := by simp
      obtain ⟨B, hB⟩ : ∃ B, B = w2.heap.size := ⟨_, rfl⟩
      rw [← hB] at r2 z2 ⊢
      generalize (w2.alloc (.cells #[.slice none 0 0, i64 most] 46)) = w3 at *
      have hE13 := hE2.trans a2
      have s1 := hE1.size
      have s2 := hE2.size
      have bo3 : Both (fun k => w.heap.size ≤ k ∧ k ≠ B) (fun k => k ≠ B) w3 w3 b (.slice none 0 0) [] most := by
        refine ⟨⟨Rq, Rw, [], [], hL.ext hE13, fun k hk => ?_, fun h => by simp [slN] at h⟩, Sl.nil w3 7 0, fun h => by simp [slN] at h, Mod.refl _ _⟩
        have hlt := hL.lt k hk
        rcases hk with rfl | rfl | rfl | ⟨e, he, -⟩
        · exact ⟨hb1, by omega⟩
        · exact ⟨hb2, by omega⟩
        · exact ⟨hb3, by omega⟩
        · simp at he
      refine WC_loop (fun k ρ ds w' => ∃ (i : Nat) (s : List Wt) (u : Value), k = l.length - i ∧ i ≤ l.length ∧ ρ 1 = v ∧ ρ 5 = ptr b ∧ ρ 7 = ptr B ∧ ρ 9 = i64 i ∧ ds = [] ∧ Both (fun k => w.heap.size ≤ k ∧ k ≠ B) (fun k => k ≠ B) w' w' b u s most ∧ RAt w' B u most ∧ Ext w w' ∧ B < w'.heap.size ∧ s.length ≤ i ∧ ranked s ∧ sized s) l.length
        ⟨0, [], .slice none 0 0, rfl, by omega, by simp, by simp, by simp, by simp, rfl, bo3, r2, hE1.trans hE13, by omega, by simp, (fun y hy => by cases hy), (fun y hy => by cases hy)⟩ ?_
      rintro k ρ ds w4 ⟨i, s, u, rfl, hi, e1, e5, e7, e9, rfl, hbo, hra, hEw, hB4, hsl, hrk, hsz⟩
      by_cases hlt : i < l.length
      · have hq := List.getElem?_eq_getElem hlt
        obtain ⟨y, hy⟩ : ∃ y, y = l[i] := ⟨_, rfl⟩
        rw [← hy] at hq
        simp [e1, e9, hlen, hlt]
        obtain ⟨⟨Rq4, Rw4, M4, N4, hL4, hF4, hd4⟩, ro4, lt4, -⟩ := hbo
        have fl4 := hL4.lt
        refine WC_drawL 12 (.F 0 <| .F 1 <| .F 2 <| .F 3 <| .F 4 <| .F 5 <| .D 10 <| .L 6 <| .F 7 <| .F 8 <| .F 9 <| .W 10 <| .S 11 <| .Z) (XF b Rq4 Rw4 M4) (XF b Rq4 Rw4 M4) (fun _ u W => ∃ c, u = ptr c ∧ W.heap[c]? = some (.cells #[.slice none 0 0, i64 0] 46 (0, 0)) ∧ w4.heap.size ≤ c) rfl (by kernel_rfl) (fun _ h => h) ?_ fun W hW => ?_
        · rintro - u a b' ⟨c, h1, h2, h3⟩ hag
          exact ⟨c, h1, hag.obj h2 (XF_f fun hk => by have := fl4 c hk; omega), h3⟩
        have hWE : Ext w4 W := hW ▸ Ext.drew w4
        have ra5 := hra.ext hWE
        have ar := ASl.row (SlA.ext hl (hEw.trans hWE)) hq
        have ix := ASl.index hl i hlt W
        have X0 : XF b Rq4 Rw4 M4 B = false := XF_f fun hk => (hF4 _ hk).2 rfl
        have Xv : XF b Rq4 Rw4 M4 (slB v) = false := XF_f fun hk => by
          have := (hF4 _ hk).1
          have := World.block_lt_of_cell? _ _ (ASl.row hl hq).c0
          simp only at this
          omega
        simp [e1, e5, e7, e9, ra5.c0, ra5.c1, ix, ar.c0, ar.c1, ar.c2, ar.c3, ar.c4, ar.c5, ar.c6, ar.c7, X0, Xv]
        refine RL_float (fun W1 h1 => ?_) ?_
        · simp
          have hs := h1.size
          have hs2 := hWE.size
          exact ⟨(Ext.refl _).alloc _, Nat.le_trans hs2 hs⟩
        simp
        refine RL_loose fun W6 h6 => ?_
        have hE46 := hWE.trans h6
        have hbo6 : Both (fun k => Foot b Rq4 Rw4 M4 k ∨ W6.heap.size ≤ k) (fun k => k ≠ B) W6 W6 b u s most :=
          ⟨⟨Rq4, Rw4, M4, N4, hL4.ext hE46, fun k hk => .inl hk, hd4⟩, ro4.ext hE46, fun hn => ⟨Nat.lt_of_lt_of_le (lt4 hn).1 hE46.size, (lt4 hn).2⟩, Mod.refl _ _⟩
        have s46 := hE46.size
        simp
        refine FN.mono (act_c hbo6 (fun k hk => .inr hk) (fun k hk => by omega) y.1 y.2 (hok y (by rw [hy]; exact List.getElem_mem hlt)) (by omega) hrk) ?_
        rintro _ W7 ⟨u', rfl, hbo7⟩
        simp
        have hM67 := hbo7.ext
        obtain ⟨⟨Rq7, Rw7, M7, N7, hL7, hF7, hd7⟩, ro7, lt7, -⟩ := hbo7
        have hM67' := hM67.tight
        refine KR_mk (XF_agr hM67') ?_
        simp
        refine RL_wait fun vc W8 h8 ⟨c, hc, hrc, hcw⟩ => ?_
        subst hc
        obtain ⟨ua, uc, hu'⟩ := ro7.isSlice
        have rc0 : RAt W8 c (.slice none 0 0) 0 := by
          refine ⟨?_, ?_, ?_, ?_⟩ <;> simp [World.cell?, World.frozen?, hrc]
        have rc := rc0
        subst hu'
        simp [rc.c0, rc.c1, rc.f0, rc.f1, cell_setCell]
        have mC := ((Mod.refl (fun k => k = c) W8).setC 0 (.slice ua (actS s most y.1 y.2).length uc)).setC 1 (i64 most)
        have c0' : ((W8.setCell ⟨c, 0, none⟩ (.slice ua (actS s most y.1 y.2).length uc)).setCell ⟨c, 1, none⟩ (i64 most)).cell? ⟨c, 0, none⟩ = some (.slice ua (actS s most y.1 y.2).length uc) := by simp [rc.c0, cell_setCell]
        have c1' : ((W8.setCell ⟨c, 0, none⟩ (.slice ua (actS s most y.1 y.2).length uc)).setCell ⟨c, 1, none⟩ (i64 most)).cell? ⟨c, 1, none⟩ = some (i64 most) := by simp [rc.c1, cell_setCell]
        refine KR_set2 ?_
        have hL8 := hL7.ext h8
        have nc : ¬ Foot b Rq7 Rw7 M7 c := no_foot hL8 hrc
        have nB : ¬ Foot b Rq7 Rw7 M7 B := fun hk => by
          rcases hF7 _ hk with h | h
          · exact (hF4 _ h).2 rfl
          · omega
        have ro8 : WSl W8 (.slice ua (actS s most y.1 y.2).length uc) (actS s most y.1 y.2) := Sl.ext ro7 h8
        have s67 := hM67.size
        have s8 := h8.size
        have ra8 : RAt W8 B u most := ((hra.ext hE46).mod hM67' (fun hk => (hF4 _ hk).2 rfl)).ext h8
        have raC := ra8.mod mC (by omega)
        generalize hW9 : ((W8.setCell ⟨c, 0, none⟩ (.slice ua (actS s most y.1 y.2).length uc)).setCell ⟨c, 1, none⟩ (i64 most)) = W9 at *
        simp [e1, e5, e7, e9, c0', c1', raC.c0, raC.c1, raC.f0, raC.f1, cell_setCell]
        have mB := ((Mod.refl (fun k => k = B) W9).setC 0 (.slice ua (actS s most y.1 y.2).length uc)).setC 1 (i64 most)
        have raD : RAt ((W9.setCell ⟨B, 0, none⟩ (.slice ua (actS s most y.1 y.2).length uc)).setCell ⟨B, 1, none⟩ (i64 most)) B (.slice ua (actS s most y.1 y.2).length uc) most := by
          refine ⟨?_, ?_, ?_, ?_⟩ <;> simp [raC.c0, raC.c1, raC.f0, raC.f1, cell_setCell]
        have hE9 : Ext w ((W9.setCell ⟨B, 0, none⟩ (.slice ua (actS s most y.1 y.2).length uc)).setCell ⟨B, 1, none⟩ (i64 most)) :=
          (((((hEw.trans hE46).mod (S := fun k => w.heap.size ≤ k)).trans (hM67'.weaken fun k hk => (hF4 _ hk).1)).trans (h8.mod.trans ((mC.weaken fun k hk => by omega).trans (mB.weaken fun k hk => by omega)))).ext fun _ h => h)
        have roE : WSl ((W9.setCell ⟨B, 0, none⟩ (.slice ua (actS s most y.1 y.2).length uc)).setCell ⟨B, 1, none⟩ (i64 most)) (.slice ua (actS s most y.1 y.2).length uc) (actS s most y.1 y.2) := by
          have r9 := sl_other ro8 mC hrc (fun _ h => h)
          by_cases hn : slN (.slice ua (actS s most y.1 y.2).length uc) = false
          · exact Sl.mod r9 mB (lt7 hn).2
          · rcases r9.val with ⟨c', e1, e2⟩ | ⟨b', o, c', e, -⟩
            · have hs : actS s most y.1 y.2 = [] := List.eq_nil_of_length_eq_zero e2
              rw [hs] at e1 ⊢
              rw [e1]
              exact Sl.nil _ 7 c'
            · rw [e] at hn; simp [slN] at hn
        have s9 := mC.size
        have sB := mB.size
        refine ⟨l.length - (i + 1), by omega, i + 1, rfl, by omega, by rw [wrap64 _ (by omega) (by omega)]; rfl, actS s most y.1 y.2, .slice ua (actS s most y.1 y.2).length uc, ⟨⟨Rq7, Rw7, M7, N7, (hL8.mod mC fun k hk e => nc (e ▸ hk)).mod mB fun k hk e => nB (e ▸ hk), fun k hk => ?_, hd7⟩, roE, fun hn => ⟨?_, (lt7 hn).2⟩, Mod.refl _ _⟩, raD, hE9, by omega, ?_, ?_, ?_⟩
        · rcases hF7 _ hk with h | h
          · exact hF4 _ h
          · have := hEw.size; exact ⟨by omega, by omega⟩
        · exact Nat.lt_of_lt_of_le (lt7 hn).1 (Nat.le_trans s8 (Nat.le_trans s9 sB))
        · have := actS_len s most y.1 y.2; omega
        · exact actS_all hrk (fun h => badR_f (putE_0 h).2.1) fun z hz => hrk z hz
        · exact actS_all hsz (fun h => badR_f2 (putE_0 h).2.1) fun z hz => hsz z hz
      · have : i = l.length := by omega
        subst this
        simp [e1, e5, e7, e9, hlen, hra.c0, hra.c1]
        refine FN.mono (lis_c hbo (by omega) hsz ((l.length : Int).tmod 3)) ?_
        rintro _ w5 ⟨rfl, hE5⟩
        simp
        refine FN.mono (lnone_c w5) ?_
        rintro _ w6 ⟨rfl, hE6⟩
        simp
        refine FN.mono (works_c w6) ?_
        rintro _ w7 ⟨rfl, hE7⟩
        simp
        exact ((hEw.trans hE5).trans hE6).trans hE7
    · refine FN.mono (newBad_c most hm w) ?_
      rintro _ w1 ⟨rfl, hE1⟩
      simp
      refine FN.mono (rnew_c most w1) ?_
      rintro _ w2 ⟨rfl, hE2⟩
      simp [hm]
      refine FN.mono (num_c 2 _) ?_
      rintro _ w3 ⟨rfl, hw⟩
      rw [hw]
      simp
      refine FN.mono (works_c _) ?_
      rintro _ w4 ⟨rfl, hE4⟩
      simp
      exact (hE1.trans (hE2.alloc _)).trans hE4
end Go.Proofs
