/-
  Contracts of the functions that the law reaches, step by step.
-/
import Derived.Test.YtljaeeagbokacaaTrG
namespace Go.Proofs
open Pk
set_option maxRecDepth 10000
theorem drop1_c {w : World} {b : Nat} {x : Int} (v : Var w b (u32 x)) : FN Try.prog 50 [ptr b] w fun e w' => e = .returned (.bool (decide (x = 0))) ∧ w' = w := by
  refine FN_enter Try.func50 rfl rfl (by kernel_rfl) ?_
  simp [v.cell]
  rfl
theorem drop2_c {w : World} {b : Nat} {x : Bool} (v : Var w b (.bool x)) : FN Try.prog 51 [ptr b] w fun e w' => e = .returned (.bool (!x)) ∧ w' = w := by
  refine FN_enter Try.func51 rfl rfl (by kernel_rfl) ?_
  simp [v.cell]
/-- What Drop answers. -/
def dropE (m : ML) (x : Int) : Int := if x = 0 then 2 else if (mget m x).isNone then 5 else 0
theorem drop_c {w : World} {t r : Nat} {m : ML} {x : Int} (ht : TreeAt w t r m) (hlen : m.length ≤ 1000) :
    FN Try.prog 23 [ptr t, u32 x] w fun e w' => e = .returned (.tuple #[u32 (if dropE m x = 0 then (mget m x).getD 0 else 0), .int .i64 (dropE m x)]) ∧ TreeAt w' t r (if dropE m x = 0 then mdel m x else m) ∧ Mod (· = r) w w' := by
  refine FN_enter Try.func23 rfl rfl (by kernel_rfl) ?_
  simp
  have he : Ext w (w.alloc (.cells #[u32 x] 23)) := (Ext.refl w).alloc _
  have v0 : Var (w.alloc (.cells #[u32 x] 23)) w.heap.size (u32 x) := Var.new w _ _
  have hs : (w.alloc (.cells #[u32 x] 23)).heap.size = w.heap.size + 1 := by simp
  generalize (w.alloc (.cells #[u32 x] 23)) = w1 at *
  refine FN.mono (parent_c (ht.ext he) x) ?_
  rintro _ w2 ⟨rfl, hw⟩
  subst hw
  simp
  have he2 := (Ext.refl w2).alloc (.cells #[.bool (mget m x).isSome] 4)
  have v1 := Var.new w2 (.bool (mget m x).isSome) 4
  generalize w2.alloc (.cells #[.bool (mget m x).isSome] 4) = w3 at *
  refine FN.mono (is_c w3 t) ?_
  rintro _ w4 ⟨rfl, h1⟩
  simp
  let qs : List Qn := [⟨.func (.func 37) #[ptr t] #[], 1, false⟩, ⟨.func (.func 50) #[] #[ptr w.heap.size], 2, decide (x = 0)⟩, ⟨.func (.func 51) #[] #[ptr w2.heap.size], 5, !(mget m x).isSome⟩]
  have hq := Sl.made w4 (askCells qs) 68 2 3 rfl
  have he3 := (Ext.refl w4).alloc (.cells (askCells qs).toArray 68)
  refine FN.mono (asked_c qs hq (by simp [qs]) ?_ ?_) ?_
  · intro q hq
    simp [qs] at hq
    rcases hq with rfl | rfl | rfl <;> exact ⟨_, _, _, rfl⟩
  · intro i q hq hno w' hw'
    have hx := (h1.trans he3).trans hw'
    match i, hq with
    | 0, hq =>
      simp [qs] at hq; subst hq
      exact FN.mono (none_c ((ht.ext (he.trans he2)).ext hx)) fun _ _ h => ⟨h.1, h.2 ▸ Ext.refl _⟩
    | 1, hq =>
      simp [qs] at hq; subst hq
      exact FN.mono (drop1_c ((v0.ext he2).ext hx)) fun _ _ h => ⟨h.1, h.2 ▸ Ext.refl _⟩
    | 2, hq =>
      simp [qs] at hq; subst hq
      exact FN.mono (drop2_c (v1.ext hx)) fun _ _ h => ⟨by rw [h.1]; cases mget m x <;> rfl, h.2 ▸ Ext.refl _⟩
    | i + 3, hq => simp [qs] at hq
  · rintro _ w5 ⟨rfl, h2⟩
    have hA : askE qs = dropE m x := by
      simp [qs, askE, dropE]
    rw [hA]
    have hx := (h1.trans he3).trans h2
    have ht5 := (ht.ext (he.trans he2)).ext hx
    have hE5 := (he.trans he2).trans hx
    have v0' := (v0.ext he2).ext hx
    by_cases h0 : dropE m x = 0
    · have hb : (dropE m x != 0) = false := by simpa using h0
      simp [h0]
      refine WC_drawQ 5 rfl (by kernel_rfl) ?_
      obtain ⟨w6, hr6, hm6, hM6, _⟩ := (ht5.ext (Ext.drew w5)).map.delete (P := Try.prog) kq tm63 x 23 0
      simp [(v0'.ext (Ext.drew w5)).cell, (ht5.ext (Ext.drew w5)).cell, hr6]
      exact ⟨(ht5.ext (Ext.drew w5)).put hm6 hM6, (hE5.trans (Ext.drew w5)).mod.trans hM6⟩
    · have hb : (dropE m x != 0) = true := by simpa using h0
      simp [h0, hb]
      exact ⟨ht5, hE5.mod⟩
/-! ### works -/
def m3 : ML := [(2, 1), (3, 1), (4, 2)]
theorem lin1 : Lin m3 1 [1] := .on (by decide) .top
theorem lin21 : Lin m3 2 [2, 1] := .on (by decide) lin1
theorem lin421 : Lin m3 4 [4, 2, 1] := .on (by decide) lin21
theorem lin31 : Lin m3 3 [3, 1] := .on (by decide) lin1
theorem lin9 : Lin m3 9 [9] := .on (by decide) .top
theorem lin5 : Lin m3 5 [5] := .on (by decide) .top
theorem kids3 (ys : List Int) (h : isKids m3 1 ys) : ys = [2, 3] := by
  have : kids m3 1 = [2, 3] := by decide
  refine List.Perm.eq_of_pairwise (le := fun x y => x ≤ y) (fun a b _ _ h1 h2 => by omega) h.2 (by decide) (this ▸ h.1)
theorem works_c (w : World) : FN Try.prog 7 [] w fun e w' => e = .returned (.bool true) ∧ Ext w w' := by
  refine FN_enter Try.func7 rfl rfl (by kernel_rfl) ?_
  simp
  refine FN.mono (new_c w) ?_
  rintro _ w1 ⟨t, r, rfl, ht, hE, hlt, hlr⟩
  simp
  have hS : ∀ {w' : World} (w0 : World), Ext w w0 → Mod (· = r) w0 w' → Ext w w' := fun w0 h1 h2 => ((h1.mod (S := fun k => w.heap.size ≤ k)).trans (h2.weaken fun i hi => by omega)).ext fun _ h => h
  refine FN.mono (set_c (x := 2) (y := 1) (l := [1]) ht (.on (by decide) .top) (by decide)) ?_
  rintro _ w2 ⟨rfl, ht, hM⟩
  have hE := hS _ hE hM
  rw [if_pos (by decide), show mset [] (2 : Int) (1 : Int) = [(2, 1)] by decide] at ht
  rw [show setE [] [1] 2 1 = 0 by decide]
  simp
  refine FN.mono (set_c (x := 3) (y := 1) (l := [1]) ht (.on (by decide) .top) (by decide)) ?_
  rintro _ w3 ⟨rfl, ht, hM⟩
  have hE := hS _ hE hM
  rw [if_pos (by decide), show mset [((2 : Int), (1 : Int))] (3 : Int) (1 : Int) = [(2, 1), (3, 1)] by decide] at ht
  rw [show setE [(2, 1)] [1] 3 1 = 0 by decide]
  simp
  refine FN.mono (set_c (x := 4) (y := 2) (l := [2, 1]) ht (.on (by decide) (.on (by decide) .top)) (by decide)) ?_
  rintro _ w4 ⟨rfl, ht, hM⟩
  have hE := hS _ hE hM
  rw [if_pos (by decide), show mset [((2 : Int), (1 : Int)), (3, 1)] (4 : Int) (2 : Int) = m3 by decide] at ht
  rw [show setE [(2, 1), (3, 1)] [2, 1] 4 2 = 0 by decide]
  simp
  refine FN.mono (Way_c ht lin421 lin31 (by decide)) ?_
  rintro _ w5 ⟨v, rfl, hE5, hs5⟩
  rw [show wayE [4, 2, 1] [3, 1] 4 3 = 0 by decide] at hs5 ⊢
  rw [if_pos rfl, show (wayL [4, 2, 1] [3, 1]).getD [] = [4, 2, 1, 3] by decide] at hs5
  have ht := ht.ext hE5
  have hE := hE.trans hE5
  simp
  refine FN.mono (next_c ht lin421 lin31 (by decide) (by decide)) ?_
  rintro _ w6 ⟨rfl, hE6⟩
  rw [show nextE [4, 2, 1] [3, 1] 4 3 = 0 by decide, if_pos rfl, if_pos rfl, show ((wayL [4, 2, 1] [3, 1]).getD []).getD 1 0 = 2 by decide, show (decide ((mget m3 4).getD 0 = 2)) = true by decide]
  have ht := ht.ext hE6
  have hE := hE.trans hE6
  have hs6 := hs5.ext hE6
  simp
  refine FN.mono (next_c ht lin1 lin421 (by decide) (by decide)) ?_
  rintro _ w7 ⟨rfl, hE7⟩
  rw [show nextE [1] [4, 2, 1] 1 4 = 0 by decide, if_pos rfl, if_pos rfl, show ((wayL [1] [4, 2, 1]).getD []).getD 1 0 = 2 by decide, show (decide ((mget m3 1).getD 0 = 2)) = false by decide]
  have ht := ht.ext hE7
  have hE := hE.trans hE7
  have hs7 := hs6.ext hE7
  have ht7 := ht
  simp
  refine FN.mono (set_c (x := 1) (y := 4) (l := [4, 2, 1]) ht lin421 (by decide)) ?_
  rintro _ w8 ⟨rfl, ht, hM⟩
  have hE := hS _ hE hM
  rw [show setE m3 [4, 2, 1] 1 4 = 320 by decide] at ht ⊢
  rw [if_neg (by decide)] at ht
  have hs8 := hs7.kept fun a u _ hu => (ht7.map.cells hM a (by rw [hu]; rfl)).trans hu
  simp
  refine FN.mono (Way_c ht lin421 lin9 (by decide)) ?_
  rintro _ w9 ⟨v9, rfl, hE9, hs9⟩
  rw [show wayE [4, 2, 1] [9] 4 9 = 322 by decide]
  have ht := ht.ext hE9
  have hE := hE.trans hE9
  have hs9 := hs8.ext hE9
  simp
  have htl : t < w9.heap.size := World.block_lt_of_cell? w9 _ ht.cell
  have hrl : r < w9.heap.size := ht.map.lt
  have hvl : slB v < w9.heap.size := hs9.lt (by simp)
  have vn := Var.new w9 (.int .i64 0) 3
  have he10 := (Ext.refl w9).alloc (.cells #[.int .i64 0] 3)
  have hsz10 : (w9.alloc (.cells #[.int .i64 0] 3)).heap.size = w9.heap.size + 1 := by simp
  have hwn := hE.size
  have ht := ht.ext he10
  have hE := hE.trans he10
  have hs10 := hs9.ext he10
  generalize hbn : w9.heap.size = bn at *
  generalize w9.alloc (.cells #[.int .i64 0] 3) = w10 at *
  refine FN.mono (children_c ht (by decide) (by decide)) ?_
  rintro _ w11 ⟨v11, ys, rfl, hE11, hys, hc⟩
  obtain ⟨c, u, rfl, -, -, -, -⟩ := hc
  simp
  have ht := ht.ext hE11
  have vn := vn.ext hE11
  refine FN.mono (children_c ht (by decide) (by decide)) ?_
  rintro _ w12 ⟨v12, ys, rfl, hE12, hys, hc⟩
  obtain ⟨c, u, rfl, hcv, hcs, hcl, hcl2⟩ := hc
  have hys := kids3 ys hys
  subst hys
  simp
  have ht := ht.ext hE12
  have vn := vn.ext hE12
  have hE := (hE.trans hE11).trans hE12
  have hs12 := (hs10.ext hE11).ext hE12
  have hbl := vn.lt
  have hb11 := hE11.size
  refine WC_rangeFunc (gf := 49) (first := #[]) (caps := #[ptr c]) (enc := fun x => [u32 x]) rfl (fun _ _ => callFunc_enter Try.func49 rfl rfl _ _) (child_it hcv hcs (by decide)) (by simp) (fun k => k = bn)
    (fun C pre W => Var W bn (.int .i64 (pre.foldl (fun n k => 10 * n + k) 0)) ∧ (∀ k, C k ↔ k = bn) ∧ Ext w W ∧ (∀ i, i < w12.heap.size → i ≠ bn → W.heap[i]? = w12.heap[i]?)) (fun _ _ _ _ => False)
    ?hcap (fun k hk => by omega) ?hst (fun _ _ _ _ _ h _ => h.elim) ⟨vn, fun _ => Iff.rfl, hE, fun _ _ _ => rfl⟩ ?ρ ?ha ?hb ?hd (fun _ _ _ _ _ h _ => h.elim)
  case ha =>
    intro l x W
    simp
    exact rfl
  case hcap =>
    rintro k (rfl | ⟨hn, rfl⟩)
    · exact ⟨hcv.lt, by omega⟩
    · exact ⟨hcs.lt (by simp), by have := hcl2 (by rcases hcs.blk with ⟨_, h0⟩ | ⟨b, o, c, rfl, _⟩; exact absurd h0 (by simp); rfl); omega⟩
  case hst =>
    rintro C pre W W' ⟨h1, h2, h3, h4⟩ hag
    have hw12 := hE.size
    refine ⟨h1.agr hag (.inr ((h2 _).2 rfl)), h2, ⟨hag.os.trans h3.os, hag.tape.trans h3.tape, hag.out.trans h3.out, Nat.le_trans h3.size hag.size, fun i hi => (hag.blk i (Nat.lt_of_lt_of_le hi h3.size) (.inl (by omega))).trans (h3.blk i hi)⟩, fun i hi hn => ?_⟩
    have := h4 i hi hn
    rw [← this]
    have hiW : i < W.heap.size := by
      rcases Nat.lt_or_ge i W.heap.size with h | h
      · exact h
      · rw [Array.getElem?_eq_none h, Array.getElem?_eq_getElem hi] at this; cases this
    exact hag.blk i hiW (.inl hi)
  case hb =>
    rintro l C pre x W hsp ⟨h1, h2, h3, h4⟩ - - -
    have hpx : pre = [] ∧ x = 2 ∨ pre = [2] ∧ x = 3 := by
      obtain ⟨_, suf, hsuf⟩ := hsp
      match pre, hsuf with
      | [], h => simp at h; exact .inl ⟨rfl, h.1.symm⟩
      | [a], h => simp at h; exact .inr ⟨by rw [h.1], h.2.1.symm⟩
      | a :: b :: l, h => have := congrArg List.length h; simp at this
    have hM := fun u => Mod.setCell (S := fun k => k = bn) (Mod.refl _ W) ⟨bn, 0, none⟩ u (.inl rfl)
    have fin : ∀ u : Int, u = (pre ++ [x]).foldl (fun n k => 10 * n + k) 0 → ∃ C', (Var (W.setCell ⟨bn, 0, none⟩ (.int .i64 u)) bn (.int .i64 ((pre ++ [x]).foldl (fun n k => 10 * n + k) 0)) ∧ (∀ k, C' k ↔ k = bn) ∧ Ext w (W.setCell ⟨bn, 0, none⟩ (.int .i64 u)) ∧ (∀ i, i < w12.heap.size → i ≠ bn → (W.setCell ⟨bn, 0, none⟩ (.int .i64 u)).heap[i]? = w12.heap[i]?)) ∧ Own C C' W (W.setCell ⟨bn, 0, none⟩ (.int .i64 u)) := by
      rintro u rfl
      refine ⟨fun k => k = bn, ⟨h1.set _, fun _ => Iff.rfl, h3.setCell _ _ hwn, fun i hi hn => ?_⟩, ⟨(hM _).weaken fun i hi => (h2 i).2 hi, fun k hk => .inl ((h2 k).2 hk)⟩⟩
      have := h4 i hi hn
      rw [← this]
      have hiW : i < W.heap.size := by
        rcases Nat.lt_or_ge i W.heap.size with h | h
        · exact h
        · rw [Array.getElem?_eq_none h, Array.getElem?_eq_getElem hi] at this; cases this
      exact (hM _).blk i hiW hn
    rcases hpx with ⟨rfl, rfl⟩ | ⟨rfl, rfl⟩
    · have h1c := h1.cell
      simp only [List.foldl_nil] at h1c
      simp [h1c, h1.thaw]
      exact fin _ (by decide)
    · have h1c := h1.cell
      simp only [List.foldl_cons, List.foldl_nil] at h1c
      simp [h1c, h1.thaw]
      exact fin _ (by decide)
  case hd =>
    rintro C xs W rfl ⟨h1, h2, h3, h4⟩ hD
    have hW : ∀ {a : Addr} {u : Value}, a.block ≠ bn → w12.cell? a = some u → W.cell? a = some u := fun hn hu => (World.cell?_of_block (h4 _ (World.block_lt_of_cell? w12 _ hu) hn)).trans hu
    have htW : TreeAt W t r m3 := ⟨hW (by show t ≠ bn; omega) ht.cell, ht.map.keep (h4 r ht.map.lt (by omega))⟩
    have hsW := hs12.kept fun a u ha hu => hW (by rw [ha]; omega) hu
    simp
    refine FN.mono (drop_c (x := 9) htW (by decide)) ?_
    rintro _ w13 ⟨rfl, ht13, hM13⟩
    rw [show dropE m3 9 = 5 by decide] at ht13 ⊢
    rw [if_neg (by decide)] at ht13
    have hs13 := hsW.kept fun a u _ hu => (htW.map.cells hM13 a (by rw [hu]; rfl)).trans hu
    have h13 := hS _ h3 hM13
    have hD13 := hM13.obj hD (by have := ht.map.lt; omega)
    have hn13 := h1.mod hM13 (by omega)
    simp
    refine FN.mono (set_c (x := 5) (y := 5) (l := [5]) ht13 lin5 (by decide)) ?_
    rintro _ w14 ⟨rfl, ht14, hM14⟩
    rw [show setE m3 [5] 5 5 = 2 by decide] at ht14 ⊢
    rw [if_neg (by decide)] at ht14
    have hs14 := hs13.kept fun a u _ hu => (ht13.map.cells hM14 a (by rw [hu]; rfl)).trans hu
    have h14 := hS _ h13 hM14
    have hD14 := hM14.obj hD13 (by have := ht.map.lt; omega)
    have hn14 := hn13.mod hM14 (by omega)
    simp
    have w0 : IntKind.i64.wrap 0 = 0 := by decide
    iterate 6
      refine num_c _ _ _ ?_
      simp [w0]
    have eS := (Ext.refl w14).alloc (.cells #[u32 4, u32 2, u32 1, u32 3] 23)
    have hsl := Sl.made w14 ([4, 2, 1, 3].map u32) 23 1 4 rfl
    refine FN.mono (same_c (xs := [4, 2, 1, 3]) (ys := [4, 2, 1, 3]) (hs14.ext eS) hsl (by decide)) ?_
    rintro _ w15 ⟨rfl, hE15⟩
    simp
    refine num_c _ _ _ ?_
    simp
    refine num_c _ _ _ ?_
    simp
    have ht15 := (ht14.ext eS).ext hE15
    have hn15 := (hn14.ext eS).ext hE15
    refine FN.mono (depth_c ht15 lin421 (by decide)) ?_
    rintro _ w16 ⟨rfl, hE16⟩
    have hn16 := (hn15.ext hE16).cell
    rw [show List.foldl (fun n k => 10 * n + k) 0 [(2 : Int), 3] = 23 by decide] at hn16
    simp [hn16]
    refine num_c _ _ _ ?_
    simp
    refine num_c _ _ _ ?_
    simp
    have hD16 := hE16.obj (hE15.obj (eS.obj hD14))
    refine LV_mark hD16 (by simp) ?_
    simp
    exact (((h14.trans eS).trans hE15).trans hE16).putObj _ _ hE.size
end Go.Proofs
