/-
  Contracts of the functions that the law reaches, step by step.
-/
import Derived.Test.YtljaeeagbokacaaProg
import Derived.Test.YtljaeeagbokacaaEngI
namespace Go.Proofs
open Pk
set_option maxRecDepth 10000

abbrev u32 (x : Int) : Value := .int .u32 x
abbrev ptr (b : Nat) : Value := .pointer (some ⟨b, 0, none⟩)
abbrev ML := List (Int × Int)
abbrev MA (w : World) (r : Nat) (m : ML) := MapAt (Value.int .u32) (Value.int .u32) w r m
theorem kq : KeyEq Try.prog 23 (Value.int .u32) := keyEq_int (by simp)
theorem tm63 : Try.prog.underlying 63 = some (.map 23 23) := by simp
theorem z23 (w : World) : (zeroValue 23).run Try.prog w = .ok (.int .u32 0) w := by simp

structure TreeAt (w : World) (t r : Nat) (m : ML) : Prop where
  cell : w.cell? ⟨t, 0, none⟩ = some (.map (some r))
  map : MA w r m
theorem TreeAt.ext {w w' : World} {t r : Nat} {m : ML} (h : TreeAt w t r m) (he : Ext w w') : TreeAt w' t r m := ⟨he.cell_eq h.cell, h.map.ext he⟩

theorem num_c (a : Int) (w : World) (R : Ending → World → Prop) (h : R (.returned (.int .i64 a)) w) : FN Try.prog 11 [.int .i64 a] w R := by
  refine FN_enter Try.func11 rfl rfl (by kernel_rfl) ?_
  simp
  exact h
theorem new_c (w : World) : FN Try.prog 8 [] w fun e w' => ∃ t r, e = .returned (ptr t) ∧ TreeAt w' t r [] ∧ Ext w w' ∧ w.heap.size ≤ t ∧ w.heap.size ≤ r := by
  refine FN_enter Try.func8 rfl rfl (by kernel_rfl) ?_
  simp
  exact ⟨w.heap.size, ⟨by simp, (MapAt.alloc0 _ _ w).ext ((Ext.refl _).alloc _)⟩, ((Ext.refl _).alloc _).alloc _, Nat.le_refl _⟩
theorem none_c {w : World} {t r : Nat} {m : ML} (ht : TreeAt w t r m) : FN Try.prog 37 [ptr t] w fun e w' => e = .returned (.bool false) ∧ w' = w := by
  refine FN_enter Try.func37 rfl rfl (by kernel_rfl) ?_
  simp [ht.cell]
theorem of_c {w : World} {r : Nat} {m : ML} (h : MA w r m) (x : Int) : FN Try.prog 36 [.map (some r), u32 x] w fun e w' => e = .returned (u32 ((mget m x).getD 0)) ∧ w' = w := by
  refine FN_enter Try.func36 rfl rfl (by kernel_rfl) ?_
  have := h.lookup kq tm63 (z23 w) x false
  simp [this]
theorem parent_c {w : World} {t r : Nat} {m : ML} (ht : TreeAt w t r m) (x : Int) : FN Try.prog 13 [ptr t, u32 x] w fun e w' => e = .returned (.tuple #[u32 ((mget m x).getD 0), .bool (mget m x).isSome]) ∧ w' = w := by
  refine FN_enter Try.func13 rfl rfl (by kernel_rfl) ?_
  have := ht.map.lookup kq tm63 (z23 w) x true
  simp
  refine FN.mono (none_c ht) ?_
  rintro _ _ ⟨rfl, rfl⟩
  simp [ht.cell, this]
theorem len_c {w : World} {t r : Nat} {m : ML} (ht : TreeAt w t r m) : FN Try.prog 14 [ptr t] w fun e w' => e = .returned (.int .i64 m.length) ∧ w' = w := by
  refine FN_enter Try.func14 rfl rfl (by kernel_rfl) ?_
  have := ht.map.len (P := Try.prog) (T := 63) (by simp) 3
  simp
  refine FN.mono (none_c ht) ?_
  rintro _ _ ⟨rfl, rfl⟩
  simp [ht.cell, this]
theorem clone_c {w : World} {r : Nat} {m : ML} (h : MA w r m) : FN Try.prog 46 [.map (some r)] w fun e w' => ∃ r', e = .returned (.map (some r')) ∧ MA w' r' m ∧ Ext w w' ∧ w.heap.size ≤ r' := by
  refine FN_enter Try.func46 rfl rfl (by kernel_rfl) ?_
  obtain ⟨o, h1, h2, h3⟩ := h.clone (P := Try.prog)
  simp
  refine FN_extern (e := Extern.MapsClone.clone) Try.func60 rfl (by kernel_rfl) (by kernel_rfl) (by kernel_rfl) (h2 63) ?_
  simp [Instr.typeAssert]
  exact ⟨h3, (Ext.refl w).alloc _⟩
/-- The line of x. -/
inductive Lin (m : ML) : Int → List Int → Prop
  | top : Lin m 0 []
  | on {x : Int} {l : List Int} (h : x ≠ 0) (k : Lin m ((mget m x).getD 0) l) : Lin m x (x :: l)
theorem Lin.uniq {m : ML} {x : Int} {l l' : List Int} (h : Lin m x l) (k : Lin m x l') : l = l' := by
  induction h generalizing l' with
  | top => cases k with
    | top => rfl
    | on h => exact (h rfl).elim
  | on h _ ih => cases k with
    | top => exact (h rfl).elim
    | on h' k' => rw [ih k']
theorem Lin.zero {m : ML} {l : List Int} (h : Lin m 0 l) : l = [] := h.uniq .top

theorem line_c {w : World} {t r : Nat} {m : ML} (ht : TreeAt w t r m) (x : Int) : FN Try.prog 31 [ptr t, u32 x] w fun e w' => ∃ b1 b2 r', e = .returned (.func (.func 54) #[] #[ptr b1, ptr b2]) ∧ Ext w w' ∧
    Var w' b1 (u32 x) ∧ Var w' b2 (.map (some r')) ∧ MA w' r' m ∧ w.heap.size ≤ b1 ∧ w.heap.size ≤ b2 ∧ w.heap.size ≤ r' := by
  refine FN_enter Try.func31 rfl rfl (by kernel_rfl) ?_
  simp
  have he : Ext w ((w.alloc (.cells #[u32 x] 23)).alloc (.cells #[.map none] 63)) := ((Ext.refl w).alloc _).alloc _
  have ht' := ht.ext he
  have v1 : Var ((w.alloc (.cells #[u32 x] 23)).alloc (.cells #[.map none] 63)) w.heap.size (u32 x) := (Var.new w _ _).ext ((Ext.refl _).alloc _)
  have v2 : Var ((w.alloc (.cells #[u32 x] 23)).alloc (.cells #[.map none] 63)) (w.heap.size + 1) (.map none) := by simpa using Var.new (w.alloc (.cells #[u32 x] 23)) (.map none) 63
  have hsz : ((w.alloc (.cells #[u32 x] 23)).alloc (.cells #[.map none] 63)).heap.size = w.heap.size + 2 := by simp
  generalize ((w.alloc (.cells #[u32 x] 23)).alloc (.cells #[.map none] 63)) = w1 at *
  refine FN.mono (none_c ht') ?_
  rintro _ _ ⟨rfl, rfl⟩
  simp [ht'.cell]
  refine FN.mono (clone_c ht'.map) ?_
  rintro _ w2 ⟨r', rfl, h1, h2, h3⟩
  have v2' := v2.ext h2
  simp [v2'.cell, v2'.thaw]
  have hM := Mod.setCell (S := (· = w.heap.size + 1)) (Mod.refl _ w2) ⟨w.heap.size + 1, 0, none⟩ (.map (some r')) (.inl rfl)
  refine ⟨w.heap.size, w.heap.size + 1, ⟨rfl, rfl⟩, ?_, (v1.ext h2).mod hM (by omega), r', v2'.set _, h1.mod hM (by omega), Nat.le_refl _, by omega, by omega⟩
  exact (he.trans h2).setCell _ _ (by simp)
theorem Lin.step {m : ML} {x : Int} {l : List Int} (h : Lin m x l) (hx : x ≠ 0) : ∃ l', l = x :: l' ∧ Lin m ((mget m x).getD 0) l' := by
  cases h with
  | top => exact (hx rfl).elim
  | on _ k => exact ⟨_, rfl, k⟩
def seg (l : List Int) (pre : List Int) : Prop := pre ≠ [] ∧ ∃ suf, l = pre ++ suf
theorem line_it {w : World} {b1 b2 r : Nat} {m : ML} {x : Int} {l : List Int} (v1 : Var w b1 (u32 x)) (v2 : Var w b2 (.map (some r))) (hm : MA w r m) (hl : Lin m x l) :
    Iter Try.prog (.func (.func 54) #[] #[ptr b1, ptr b2]) (fun x => [u32 x]) (· = l) (seg l) (fun k => k = b1 ∨ k = b2 ∨ k = r) w := by
  intro y C0 J Jx W hA hcap hJ hJx hy h0
  have k1 := (hcap b1 (.inl rfl))
  have k2 := (hcap b2 (.inr (.inl rfl)))
  have k3 := (hcap r (.inr (.inr rfl)))
  refine FN_enter Try.func54 rfl rfl (by kernel_rfl) ?_
  simp
  refine WC_scope 0 _ rfl ?_
  simp [(v1.agr hA k1.1).cell]
  refine WC_loop (fun k ρ ds w' => ∃ x' pre l' C, k = l'.length ∧ ρ 0 = y ∧ ρ 1 = ptr b1 ∧ ρ 2 = ptr b2 ∧ ρ 4 = u32 x' ∧ ds = [] ∧ Lin m x' l' ∧ l = pre ++ l' ∧ J C pre w' ∧ (∀ k, C k → C0 k ∨ W.heap.size ≤ k) ∧ Agr (fun k => k < W.heap.size ∧ ¬ C0 k) W w') l.length ?_ ?_
  · exact ⟨x, [], l, C0, rfl, by simp, by simp, by simp, by simp, rfl, hl, rfl, h0, fun k h => .inl h, Agr.refl _ _⟩
  · rintro k ρ ds w' ⟨x', pre, l', C, rfl, e0, e1, e2, e4, rfl, hl', rfl, hj, hC, hAg⟩
    have a1 := (v1.agr hA k1.1).agr hAg ⟨Nat.lt_of_lt_of_le k1.1 hA.size, k1.2⟩
    have a2 := (v2.agr hA k2.1).agr hAg ⟨Nat.lt_of_lt_of_le k2.1 hA.size, k2.2⟩
    have a3 : MA w' r m := (hm.keep (hA.blk r hm.lt k3.1)).keep (hAg.blk r (Nat.lt_of_lt_of_le k3.1 hA.size) ⟨Nat.lt_of_lt_of_le k3.1 hA.size, k3.2⟩)
    by_cases hx : x' = 0
    · subst hx
      have := hl'.zero
      subst this
      simp [e2, e4, a2.cell]
      exact ⟨C, .inl (by simpa using hj)⟩
    · obtain ⟨l'', rfl, hl''⟩ := hl'.step hx
      have hb : (x' != 0) = true := by simpa using hx
      simp [e0, e2, e4, a2.cell, hb]
      refine CV.mono (hy C pre x' w' ⟨by simp, l'', by simp⟩ hj) ?_
      rintro _ w2 (⟨rfl, C', hj', hown⟩ | ⟨rfl, C', hj', hown⟩)
      · have hAg' : Agr (fun k => k < W.heap.size ∧ ¬ C0 k) w' w2 := hown.mod.agr (fun k hk hc => by rcases hC k hc with h | h; exact hk.2 h; omega)
        have a2' := a2.agr hAg' ⟨Nat.lt_of_lt_of_le k2.1 hA.size, k2.2⟩
        have a3' := a3.keep (hAg'.blk r a3.lt ⟨Nat.lt_of_lt_of_le k3.1 hA.size, k3.2⟩)
        simp [e2, e4, a2'.cell]
        refine FN.mono (of_c a3' x') ?_
        rintro _ _ ⟨rfl, rfl⟩
        simp
        refine ⟨l''.length, by omega, _, pre ++ [x'], l'', rfl, e0, e1, e2, rfl, hl'', by simp, C', hj', ?_, hAg.trans hAg'⟩
        intro k hk
        rcases hown.own k hk with h | h
        · exact hC k h
        · have := hAg.size; exact .inr (by omega)
      · simp
        exact ⟨C', .inr ⟨pre ++ [x'], ⟨by simp, l'', by simp⟩, hj'⟩⟩
theorem appendSeq_c {w : World} {gf : FuncId} {first caps : Array Value} {S Sp : List Int → Prop} {Cap : Nat → Prop} (hit : Iter Try.prog (.func (.func gf) first caps) (fun x => [u32 x]) S Sp Cap w) (hent : ∀ l w, (callFunc gf l).run Try.prog w = .ok (.enter gf l) w)
    (hcap : ∀ k, Cap k → k < w.heap.size) (hb : ∀ xs, Sp xs → xs.length ≤ 1048576) :
    FN Try.prog 53 [.slice none 0 0, .func (.func gf) first caps] w fun e w' => ∃ xs v, S xs ∧ e = .returned v ∧ w'.ownsRow w.heap.size 23 1 v xs.length (xs.map u32) ∧ Ext w w' := by
  refine FN_enter Try.func53 rfl rfl (by kernel_rfl) ?_
  simp
  have v1 := Var.new w (.slice none 0 0) 30
  have he := (Ext.refl w).alloc (.cells #[.slice none 0 0] 30)
  have hsz : (w.alloc (.cells #[.slice none 0 0] 30)).heap.size = w.heap.size + 1 := by simp
  generalize (w.alloc (.cells #[.slice none 0 0] 30)) = w1 at *
  refine WC_rangeFunc (gf := gf) (first := first) (caps := caps) (enc := fun x => [u32 x]) (S := S) (Sp := Sp) (Cap := Cap) rfl hent (hit.ext he hcap) (by simp) (fun k => k = w.heap.size)
    (fun C pre W => ∃ v, Var W w.heap.size v ∧ W.ownsRow (w.heap.size + 1) 23 1 v pre.length (pre.map u32) ∧ (∀ k, C k ↔ k = w.heap.size ∨ (slN v = false ∧ k = slB v)) ∧ Ext w W) (fun _ _ _ _ => False)
    (fun k hk => ⟨by have := hcap k hk; omega, by have := hcap k hk; omega⟩) (fun k hk => by omega) ?_ (fun _ _ _ _ _ h _ => h.elim) ⟨_, v1, World.ownsRow_nil _ _ _ _, by simp [slN], he⟩ ?ρ ?ha ?_ ?_ (fun _ _ _ _ _ h _ => h.elim)
  case ha =>
    intro l x W
    simp
    exact rfl
  · rintro C pre W W' ⟨v, h1, h2, h3, h4⟩ hag
    refine ⟨v, h1.agr hag (.inl (by omega)), own_keep h2 fun hn hl => hag.blk _ hl (.inr ((h3 _).2 (.inr ⟨hn, rfl⟩))), h3, ?_⟩
    exact ⟨hag.os.trans h4.os, hag.tape.trans h4.tape, hag.out.trans h4.out, Nat.le_trans h4.size hag.size, fun i hi => (hag.blk i (Nat.lt_of_lt_of_le hi h4.size) (.inl (by omega))).trans (h4.blk i hi)⟩
  · rintro l C pre x W hsp ⟨v, h1, h2, h3, h4⟩ - - -
    simp [h1.cell]
    have e1 := (Ext.refl W).alloc (.cells #[u32 x] 23)
    have h1' := h1.ext e1
    have h2' := own_ext h2 e1
    have hlen := hb _ hsp
    rw [List.length_append, List.length_singleton] at hlen
    obtain ⟨v', W2, hr, ho, hm, hnew⟩ := append_own (P := Try.prog) (t := 30) (ty := 30) (e := 23) (s := 1) (by simp) (by simp) (by kernel_rfl) h2' (Sl.one W (u32 x) 23) (by intro u hu; rw [List.mem_singleton] at hu; subst hu; rfl) hlen (by have := h1'.lt; omega)
    simp [hr]
    have g1 := h1'.mod hm (fun h => by have := own_ge h2' h.1; omega)
    obtain ⟨a', c', rfl⟩ := own_val ho
    simp [g1.cell, g1.thaw]
    have hM := Mod.setCell (S := fun k => k = w.heap.size) (Mod.refl _ W2) ⟨w.heap.size, 0, none⟩ (.slice a' (pre.length + 1) c') (.inl rfl)
    have hCge : ∀ i, C i → w.heap.size ≤ i := fun i hi => by
      rcases (h3 i).1 hi with h | ⟨h, h'⟩
      · omega
      · have := own_ge h2 h; omega
    have hm' : Pk.Mod C W W2 := e1.mod.trans' hm (S := C) (fun i hi => .inl ((h3 i).2 (.inr hi)))
    have hx : Ext w W2 := ((h4.mod (S := fun k => w.heap.size ≤ k)).trans (hm'.weaken hCge)).ext (fun _ h => h)
    refine ⟨fun k => k = w.heap.size ∨ (slN (.slice a' (pre.length + 1) c') = false ∧ k = slB (.slice a' (pre.length + 1) c')), ⟨_, g1.set _, own_keep ho ?_, fun k => Iff.rfl, ?_⟩, ?_, ?_⟩
    · intro hn hl
      refine hM.blk _ hl ?_
      have := own_ge ho hn
      omega
    · exact hx.setCell _ _ (Nat.le_refl _)
    · exact hm'.trans (hM.weaken fun i hi => (h3 i).2 (.inl hi))
    · rintro k (h | ⟨h, rfl⟩)
      · exact .inl ((h3 k).2 (.inl h))
      · rcases hnew h with ⟨h5, h6⟩ | h5
        · exact .inl ((h3 _).2 (.inr ⟨h5, h6⟩))
        · have := e1.size; exact .inr (by omega)
  · rintro C xs W hS ⟨v, h1, h2, h3, h4⟩ hD
    simp [h1.cell]
    refine LV_mark hD (by simp) ?_
    simp
    refine ⟨xs, hS, own_keep (own_lower h2 (Nat.le_succ _)) fun hn hl => World.putObj_heap_other ?_, h4.putObj _ _ (by omega)⟩
    intro e
    obtain ⟨c, hc⟩ := own_obj h2 hn
    rw [e, hD] at hc
    cases hc
theorem collect_c {w : World} {gf : FuncId} {first caps : Array Value} {S Sp : List Int → Prop} {Cap : Nat → Prop} (hit : Iter Try.prog (.func (.func gf) first caps) (fun x => [u32 x]) S Sp Cap w) (hent : ∀ l w, (callFunc gf l).run Try.prog w = .ok (.enter gf l) w)
    (hcap : ∀ k, Cap k → k < w.heap.size) (hb : ∀ xs, Sp xs → xs.length ≤ 1048576) :
    FN Try.prog 30 [.func (.func gf) first caps] w fun e w' => ∃ xs v, S xs ∧ e = .returned v ∧ w'.ownsRow w.heap.size 23 1 v xs.length (xs.map u32) ∧ Ext w w' := by
  refine FN_enter Try.func30 rfl rfl (by kernel_rfl) ?_
  simp
  refine FN.mono (appendSeq_c hit hent hcap hb) ?_
  rintro _ w1 ⟨xs, v, h1, rfl, h2, h3⟩
  simp
  exact ⟨xs, h1, h2, h3⟩
/-- The place of x. -/
theorem index_c {w : World} {v : Value} {xs : List Int} (h : Sl w 1 v xs.length (xs.map u32)) (x : Int) (hb : xs.length ≤ 1048576) : FN Try.prog 52 [v, u32 x] w fun e w' => e = .returned (.int .i64 (match xs.findIdx? (· = x) with | some i => (i : Int) | none => -1)) ∧ w' = w := by
  refine FN_enter Try.func52 rfl rfl (by kernel_rfl) ?_
  simp [h.isLen]
  refine WC_loop (fun k ρ ds w' => ∃ i : Nat, k = xs.length - i ∧ i ≤ xs.length ∧ ρ 0 = v ∧ ρ 1 = u32 x ∧ ρ 7 = .int .i64 xs.length ∧ ρ 8 = .int .i64 i ∧ ds = [] ∧ w' = w ∧ ∀ j, j < i → xs[j]? ≠ some x) xs.length ⟨0, by simp⟩ ?_
  rintro k ρ ds w' ⟨i, rfl, hi, e0, e1, e7, e8, rfl, rfl, hno⟩
  by_cases hlt : i < xs.length
  · have hc := h.at_ i (u32 xs[i]) (by simp [hlt])
    have hix := h.index (P := Try.prog) (t := 30) (by simp) .i64 i (by omega) (by omega) w'
    simp [e0, e1, e7, e8, hlt, hix, hc]
    refine GIt_split ?_ ?_
    · intro hx
      simp at hx
      simp
      have : xs.findIdx? (fun y => decide (y = x)) = some i := by
        rw [List.findIdx?_eq_some_iff_getElem]
        refine ⟨hlt, by simp [hx], fun j hj => ?_⟩
        have := hno j hj
        rw [List.getElem?_eq_getElem (by omega)] at this
        simpa using this
      rw [this]
    · intro hx
      simp at hx
      simp [e0, e1, e7, e8]
      refine ⟨xs.length - (i + 1), by omega, i + 1, rfl, by omega, ?_, ?_⟩
      · rw [wrap64 _ (by omega) (by omega)]; rfl
      · intro j hj
        rcases Nat.lt_succ_iff_lt_or_eq.1 hj with h1 | rfl
        · exact hno j h1
        · rw [List.getElem?_eq_getElem hlt]; simpa using Ne.symm hx
  · simp [e7, e8, hlt]
    have : xs.findIdx? (fun y => decide (y = x)) = none := by
      rw [List.findIdx?_eq_none_iff]
      intro y hy
      obtain ⟨j, hj, rfl⟩ := List.mem_iff_getElem.1 hy
      have := hno j (by omega)
      rw [List.getElem?_eq_getElem hj] at this
      simpa using this
    rw [this]
theorem contains_c {w : World} {v : Value} {xs : List Int} (h : Sl w 1 v xs.length (xs.map u32)) (x : Int) (hb : xs.length ≤ 1048576) : FN Try.prog 29 [v, u32 x] w fun e w' => e = .returned (.bool (decide (x ∈ xs))) ∧ w' = w := by
  refine FN_enter Try.func29 rfl rfl (by kernel_rfl) ?_
  simp
  refine FN.mono (index_c h x hb) ?_
  rintro _ _ ⟨rfl, rfl⟩
  simp
  cases hf : xs.findIdx? (fun y => decide (y = x)) with
  | none =>
    rw [List.findIdx?_eq_none_iff] at hf
    simp
    intro hm
    have := hf x hm
    simp at this
  | some i =>
    rw [List.findIdx?_eq_some_iff_getElem] at hf
    obtain ⟨h1, h2, _⟩ := hf
    simp
    have : xs[i] = x := by simpa using h2
    rw [← this]; simp
/-- A question: a pair of cells in the row of questions. -/
theorem is_c (w : World) (t : Nat) : FN Try.prog 26 [ptr t] w fun e w' => e = .returned (.agg #[.func (.func 37) #[ptr t] #[], .int .i64 1]) ∧ Ext w w' := by
  refine FN_enter Try.func26 rfl rfl (by kernel_rfl) ?_
  simp
  exact (Ext.refl w).alloc _
structure Qn where
  f : Value
  e : Int
  b : Bool
def askE : List Qn → Int
  | [] => 0
  | q :: qs => if q.b then q.e else askE qs
def askCells (qs : List Qn) : List Value := qs.flatMap fun q => [q.f, .int .i64 q.e]
theorem askCells_at : ∀ (qs : List Qn) (i : Nat) (q : Qn), qs[i]? = some q → (askCells qs)[i * 2]? = some q.f ∧ (askCells qs)[i * 2 + 1]? = some (.int .i64 q.e)
  | [], i, q, h => by simp at h
  | a :: qs, 0, q, h => by
    simp at h; subst h
    simp [askCells]
  | a :: qs, i + 1, q, h => by
    have := askCells_at qs i q (by simpa using h)
    have e1 : (i + 1) * 2 = i * 2 + 1 + 1 := by omega
    have e2 : (i + 1) * 2 + 1 = i * 2 + 1 + 1 + 1 := by omega
    rw [e1]
    simp only [askCells, List.flatMap_cons] at this ⊢
    simpa using this
theorem askE_none : ∀ (qs : List Qn), (∀ (j : Nat) (q : Qn), qs[j]? = some q → q.b = false) → askE qs = 0
  | [], _ => rfl
  | q :: qs, h => by
    have h0 := h 0 q rfl
    simp [askE, h0]
    exact askE_none qs fun j q hj => h (j + 1) q hj
theorem askE_at : ∀ (qs : List Qn) (i : Nat) (q : Qn), qs[i]? = some q → q.b = true → (∀ (j : Nat) (q : Qn), j < i → qs[j]? = some q → q.b = false) → askE qs = q.e
  | [], i, q, h, _, _ => by simp at h
  | a :: qs, 0, q, h, hb, _ => by
    simp at h; subst h
    simp [askE, hb]
  | a :: qs, i + 1, q, h, hb, hn => by
    have h0 := hn 0 a (by omega) rfl
    simp [askE, h0]
    exact askE_at qs i q (by simpa using h) hb fun j q hj hq => hn (j + 1) q (by omega) (by simpa using hq)
theorem asked_c {w : World} {v : Value} (qs : List Qn) (hs : Sl w 2 v qs.length (askCells qs)) (hb : qs.length ≤ 1000) (hf : ∀ q ∈ qs, ∃ f x y, q.f = .func f x y)
    (hq : ∀ (i : Nat) (q : Qn), qs[i]? = some q → (∀ (j : Nat) (p : Qn), j < i → qs[j]? = some p → p.b = false) → ∀ w', Ext w w' → CV Try.prog q.f [] w' fun e w'' => e = .returned (.bool q.b) ∧ Ext w' w'') :
    FN Try.prog 25 [v] w fun e w' => e = .returned (.int .i64 (askE qs)) ∧ Ext w w' := by
  refine FN_enter Try.func25 rfl rfl (by kernel_rfl) ?_
  simp
  refine WC_scope 0 _ rfl ?_
  simp [hs.isLen]
  refine WC_loop (fun k ρ ds w' => ∃ i : Nat, k = qs.length - i ∧ i ≤ qs.length ∧ ρ 5 = v ∧ ρ 6 = .int .i64 qs.length ∧ ρ 7 = .int .i64 i ∧ ds = [] ∧ Ext w w' ∧ ∀ (j : Nat) (q : Qn), j < i → qs[j]? = some q → q.b = false) qs.length ⟨0, by simp [Ext.refl]⟩ ?_
  rintro k ρ ds w1 ⟨i, rfl, hi, e5, e6, e7, rfl, hE, hno⟩
  by_cases hlt : i < qs.length
  · have hq0 : qs[i]? = some qs[i] := by simp [hlt]
    obtain ⟨c1, c2⟩ := askCells_at qs i _ hq0
    have hs1 := hs.ext hE
    have d1 := hs1.at_ _ _ c1
    have d2 := hs1.at_ _ _ c2
    rw [← Nat.add_assoc] at d2
    have hix := hs1.index (P := Try.prog) (t := 90) (by simp) .i64 i (by omega) (by omega) w1
    obtain ⟨f, x, y, hfv⟩ := hf qs[i] (by simp)
    have hcall := hq i _ hq0 hno
    rw [hfv] at d1 hcall
    simp [e5, e6, e7, hlt, hix, d1, d2]
    have hE1 := (Ext.refl w1).alloc (.cells #[.func f x y, .int .i64 qs[i].e] 68)
    refine CV.mono (hcall _ (hE.trans hE1)) ?_
    rintro _ w2 ⟨rfl, hE2⟩
    cases hqb : qs[i].b with
    | true =>
      simp
      exact ⟨(askE_at qs i _ hq0 hqb hno).symm, (hE.trans hE1).trans hE2⟩
    | false =>
      simp [e5, e6, e7]
      refine ⟨qs.length - (i + 1), by omega, i + 1, rfl, by omega, ?_, (hE.trans hE1).trans hE2, ?_⟩
      · rw [wrap64 _ (by omega) (by omega)]; rfl
      · intro j q hj hjq
        rcases Nat.lt_succ_iff_lt_or_eq.1 hj with h1 | rfl
        · exact hno j q h1 hjq
        · rw [hq0] at hjq; cases hjq; exact hqb
  · simp [e6, e7, hlt]
    exact ⟨(askE_none qs fun j q hj => hno j q (by have := (List.getElem?_eq_some_iff.1 hj).1; omega) hj).symm, hE⟩
/-! ### Set -/
theorem set1_c {w : World} {b1 b2 : Nat} {x y : Int} (v1 : Var w b1 (u32 x)) (v2 : Var w b2 (u32 y)) : FN Try.prog 27 [ptr b1, ptr b2] w fun e w' => e = .returned (.bool (decide (x = 0) || decide (x = y))) ∧ w' = w := by
  refine FN_enter Try.func27 rfl rfl (by kernel_rfl) ?_
  simp [v1.cell]
  cases hb : (x == 0) <;> simp [v1.cell, v2.cell] <;> simp at hb <;> simp [hb]
  rfl
theorem sub_le {α : Type} [BEq α] [LawfulBEq α] : ∀ (l k : List α), l.Nodup → (∀ x ∈ l, x ∈ k) → l.length ≤ k.length
  | [], _, _, _ => Nat.zero_le _
  | a :: l, k, hn, h => by
    obtain ⟨h1, h2⟩ := List.nodup_cons.1 hn
    have ha := h a (by simp)
    have := sub_le l (k.erase a) h2 fun x hx => by
      have hne : x ≠ a := fun e => h1 (e ▸ hx)
      exact (List.mem_erase_of_ne hne).2 (h x (by simp [hx]))
    rw [List.length_erase_of_mem ha] at this
    have := List.length_pos_of_mem ha
    simp only [List.length_cons]; omega
theorem Lin.tail {m : ML} {x y : Int} {l : List Int} (h : Lin m x l) (hy : y ∈ l) : ∃ l', Lin m y l' ∧ l'.length ≤ l.length := by
  induction h with
  | top => cases hy
  | @on x l h k ih =>
    rcases List.mem_cons.1 hy with rfl | hy
    · exact ⟨_, .on h k, Nat.le_refl _⟩
    · obtain ⟨l', h1, h2⟩ := ih hy
      exact ⟨l', h1, by simp only [List.length_cons]; omega⟩
theorem Lin.nodup {m : ML} {x : Int} {l : List Int} (h : Lin m x l) : l.Nodup := by
  induction h with
  | top => exact List.nodup_nil
  | @on x l h k ih =>
    refine List.nodup_cons.2 ⟨fun hx => ?_, ih⟩
    obtain ⟨l', h1, h2⟩ := k.tail hx
    have := h1.uniq (.on h k)
    rw [this] at h2
    simp only [List.length_cons] at h2; omega
theorem mget_mem {m : ML} {x : Int} (h : (mget m x).isSome = true) : x ∈ m.map (·.1) := by
  unfold mget at h
  rw [Option.isSome_map] at h
  obtain ⟨p, hp⟩ := Option.isSome_iff_exists.1 h
  have h1 := List.find?_some hp
  exact List.mem_map.2 ⟨p, List.mem_of_find?_eq_some hp, by simpa using h1⟩
theorem Lin.keys {m : ML} {x : Int} {l : List Int} (h : Lin m x l) : ∀ y ∈ l.dropLast, y ∈ m.map (·.1) := by
  induction h with
  | top => intro y hy; cases hy
  | @on x l h k ih =>
    intro y hy
    cases l with
    | nil => cases hy
    | cons z l =>
      rw [List.dropLast_cons_cons, List.mem_cons] at hy
      rcases hy with rfl | hy
      · cases hm : mget m y with
        | none =>
          rw [hm] at k
          have := Lin.zero k
          cases this
        | some v => exact mget_mem (by rw [hm]; rfl)
      · exact ih y hy
theorem Lin.bound {m : ML} {x : Int} {l : List Int} (h : Lin m x l) : l.length ≤ m.length + 1 := by
  have h1 := sub_le l.dropLast (m.map (·.1)) (h.nodup.sublist (List.dropLast_sublist l)) h.keys
  rw [List.length_dropLast, List.length_map] at h1
  omega
def LineAt (m : ML) (y : Int) (v : Value) (w : World) : Prop := ∃ c1 c2 r', v = .func (.func 54) #[] #[ptr c1, ptr c2] ∧ Var w c1 (u32 y) ∧ Var w c2 (.map (some r')) ∧ MA w r' m
theorem LineAt.ext {m : ML} {y : Int} {v : Value} {w w' : World} (h : LineAt m y v w) (hE : Ext w w') : LineAt m y v w' := by
  obtain ⟨c1, c2, r', h1, h2, h3, h4⟩ := h
  exact ⟨c1, c2, r', h1, h2.ext hE, h3.ext hE, h4.ext hE⟩
theorem collectLine_c {w : World} {m : ML} {y : Int} {v : Value} {l : List Int} (h : LineAt m y v w) (hl : Lin m y l) (hlen : m.length ≤ 1000) :
    FN Try.prog 30 [v] w fun e w' => ∃ v', e = .returned v' ∧ w'.ownsRow w.heap.size 23 1 v' l.length (l.map u32) ∧ Ext w w' := by
  obtain ⟨c1, c2, r', rfl, h2, h3, h4⟩ := h
  refine FN.mono (collect_c (line_it h2 h3 h4 hl) (fun _ _ => callFunc_enter Try.func54 rfl rfl _ _) ?_ ?_) ?_
  · rintro k (rfl | rfl | rfl)
    · exact h2.lt
    · exact h3.lt
    · exact h4.lt
  · rintro xs ⟨_, suf, rfl⟩
    have := hl.bound
    rw [List.length_append] at this
    omega
  · rintro _ w2 ⟨xs, v, rfl, rfl, h5, h6⟩
    exact ⟨v, rfl, h5, h6⟩
theorem set2_c {w : World} {b0 b1 b2 t r : Nat} {m : ML} {x y : Int} {l : List Int} (v0 : Var w b0 (ptr t)) (v1 : Var w b1 (u32 y)) (v2 : Var w b2 (u32 x)) (ht : TreeAt w t r m) (hl : Lin m y l) (hlen : m.length ≤ 1000) :
    FN Try.prog 28 [ptr b0, ptr b1, ptr b2] w fun e w' => e = .returned (.bool (decide (x ∈ l))) ∧ Ext w w' := by
  refine FN_enter Try.func28 rfl rfl (by kernel_rfl) ?_
  simp
  refine WC_drawK 6 [[], [], [0, 1], [2, 0, 1], [], [3, 4, 2, 0, 1]] [fun v _ => v = ptr t, fun v _ => v = u32 y,
    fun v w' => LineAt m y v w',
    fun v w' => Sl w' 1 v l.length (l.map u32), fun v _ => v = u32 x, fun v _ => v = .bool (decide (x ∈ l))] Ext rfl (by kernel_rfl) rfl (w0 := w) ⟨rfl, rfl, rfl, Nat.le_refl _, fun _ _ => rfl⟩ Ext.refl (fun _ _ _ h k => h.trans k) ?_ ?_
  · intro A hA v a b hv hE
    simp at hA
    rcases hA with rfl | rfl | rfl | rfl | rfl | rfl
    · exact hv
    · exact hv
    · exact hv.ext hE
    · exact hv.ext hE
    · exact hv
    · exact hv
  refine VA_mk (fun w' hE hp => ?_) fun x0 => VA_mk (fun w' hE hp => ?_) fun x1 => VA_mk (fun w' hE hp => ?_) fun x2 => VA_mk (fun w' hE hp => ?_) fun x3 => VA_mk (fun w' hE hp => ?_) fun x4 => VA_mk (fun w' hE hp => ?_) fun x5 => VA_fin fun w' hE hp => ?_
  all_goals simp at hp
  · simp [(v0.ext hE).cell, Ext.refl]
  · simp [(v1.ext hE).cell, Ext.refl]
  · obtain ⟨rfl, rfl⟩ := hp
    simp
    refine FN.mono (line_c (ht.ext hE) y) ?_
    rintro _ w2 ⟨c1, c2, r', rfl, h1, h2, h3, h4, -⟩
    simp
    exact ⟨h1, c1, c2, r', rfl, h2, h3, h4⟩
  · obtain ⟨rfl, rfl, hL⟩ := hp
    simp
    refine FN.mono (collectLine_c hL hl hlen) ?_
    rintro _ w2 ⟨v', rfl, h5, h6⟩
    simp
    exact ⟨h6, sl_of_own h5⟩
  · simp [(v2.ext hE).cell, Ext.refl]
  · obtain ⟨rfl, rfl, -, h, rfl⟩ := hp
    simp
    refine FN.mono (contains_c h x (by have := hl.bound; omega)) ?_
    rintro _ _ ⟨rfl, rfl⟩
    simp [Ext.refl]
  · simp [hp, hE]
theorem set3_c {w : World} {b0 b1 t r : Nat} {m : ML} {x : Int} (v0 : Var w b0 (ptr t)) (v1 : Var w b1 (u32 x)) (ht : TreeAt w t r m) (hlen : m.length ≤ 1000) :
    FN Try.prog 32 [ptr b0, ptr b1] w fun e w' => e = .returned (.bool ((mget m x).isNone && decide (64 ≤ m.length))) ∧ w' = w := by
  refine FN_enter Try.func32 rfl rfl (by kernel_rfl) ?_
  have hL := ht.map.len (P := Try.prog) (T := 63) (by simp) 3
  simp [v0.cell, v1.cell]
  refine FN.mono (parent_c ht x) ?_
  rintro _ _ ⟨rfl, rfl⟩
  simp
  cases hm : mget m x <;> simp [v0.cell, ht.cell, hL]
  omega
end Go.Proofs
