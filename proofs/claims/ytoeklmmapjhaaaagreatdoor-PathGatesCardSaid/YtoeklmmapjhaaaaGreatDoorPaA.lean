/-
  Contracts of the functions that the law reaches, step by step.
-/
import Derived.Test.YtoeklmmapjhaaaaGreatDoorPaO
import Derived.Test.YtoeklmmapjhaaaaGreatDoorEngAA
namespace Go.Proofs
open Pk
set_option maxRecDepth 10000
attribute [simp] beq_dec bne_dec prod_eta
theorem str_eq (s t : ByteArray) : (s.toList == t.toList) = decide (s = t) := by
  rw [ByteArray.toList_eq, ByteArray.toList_eq]
  obtain ⟨s⟩ := s
  obtain ⟨t⟩ := t
  rw [Bool.eq_iff_iff]
  simp only [beq_iff_eq, decide_eq_true_eq]
  constructor
  · intro h; rw [Array.toList_inj.1 h]
  · intro h; cases h; rfl
attribute [simp] str_eq
theorem map_inj {b b' : List Int} (h : b.map u8 = b'.map u8) : b = b' := by
  have := congrArg (List.map fun v => match v with | Value.int _ x => x | _ => 0) h
  simpa [List.map_map, Function.comp_def] using this
theorem beq_c {w : World} {v v' : Value} {b b' : List Int} (h : SlB w 1 v b.length (b.map u8)) (h' : SlB w 1 v' b'.length (b'.map u8)) (hb : b.length ≤ 9223372036854775807) :
    FN Tryz.prog 54 [v, v'] w fun e w' => e = .returned (.bool (decide (b = b'))) ∧ Ext w w' := by
  refine FN_enter Tryz.func54 rfl rfl (by kernel_rfl) ?_
  have l1 := fun ty W => h.isLen (P := Tryz.prog) (t := 43) (by simp) ty W
  have l2 := fun ty W => h'.isLen (P := Tryz.prog) (t := 43) (by simp) ty W
  by_cases hl : b.length = b'.length
  · simp [l1, l2, hl]
    rw [← hl]
    refine WC_loop (fun k ρ ds w' => ∃ i : Nat, k = b.length - i ∧ i ≤ b.length ∧ ρ 0 = v ∧ ρ 1 = v' ∧ ρ 12 = i64 b.length ∧ ρ 13 = i64 i ∧ ds = [] ∧ Ext w w' ∧ b.take i = b'.take i) b.length ⟨0, by simp, by simp, by simp, by simp, by simp, by simp, rfl, Ext.refl _, rfl⟩ ?_
    rintro k ρ ds w1 ⟨i, rfl, hi, e0, e1, e12, e13, rfl, hE, ht⟩
    by_cases hlt : i < b.length
    · have hlt' : i < b'.length := by omega
      simp [e12, e13, hlt]
      refine WC_drawQ 8 rfl (by kernel_rfl) ?_
      have hd := hE.trans (Ext.drew w1)
      have s1 := h.ext hd
      have s2 := h'.ext hd
      have i1 := s1.index (P := Tryz.prog) (t := 43) (by simp) .i64 i (by omega) (by omega) w1.drew
      have i2 := s2.index (P := Tryz.prog) (t := 43) (by simp) .i64 i (by omega) (by omega) w1.drew
      have a1 := s1.at_ i (u8 b[i]) (by simp [hlt])
      have a2 := s2.at_ i (u8 b'[i]) (by simp [hlt'])
      simp at i1 i2
      have t1 : b.take (i + 1) = b.take i ++ [b[i]] := by rw [List.take_add_one, List.getElem?_eq_getElem hlt]; rfl
      have t2 : b'.take (i + 1) = b'.take i ++ [b'[i]] := by rw [List.take_add_one, List.getElem?_eq_getElem hlt']; rfl
      by_cases he : b[i] = b'[i]
      · simp [e0, e1, e12, e13, i1, i2, a1, a2, he]
        exact ⟨b.length - (i + 1), by omega, i + 1, rfl, by omega, by rw [wrap64 _ (by omega) (by omega)]; rfl, hd, by rw [t1, t2, ht, he]⟩
      · simp [e0, e1, i1, i2, a1, a2, he]
        refine ⟨fun h => he ?_, hd⟩
        simp [h]
    · have : i = b.length := by omega
      subst this
      simp [e12, e13]
      rw [List.take_length, hl, List.take_length] at ht
      exact ⟨ht, hE⟩
  · have hn : ¬ b = b' := fun e => hl (by rw [e])
    have hl2 : ¬ ((b.length : Int) = (b'.length : Int)) := by omega
    simp [l1, l2, hl2, hn]
    exact Ext.refl w
theorem It.inj {k n : Int} {b : List Int} {s : ByteArray} {l : List It} {k' n' : Int} {b' : List Int} {s' : ByteArray} {l' : List It} : It.mk k n b s l = It.mk k' n' b' s' l' ↔ k = k' ∧ n = n' ∧ b = b' ∧ s = s' ∧ l = l' := by
  constructor
  · intro h; cases h; exact ⟨rfl, rfl, rfl, rfl, rfl⟩
  · rintro ⟨rfl, rfl, rfl, rfl, rfl⟩; rfl
/-- Rows of items, compared by what compares their items. -/
theorem ieq_c {w : World} {v v' : Value} {l l' : List It} {css css' : List (List Value)} {f : FuncId} (h : SlB w 5 v l.length css.flatten) (hc : ItCs w l css) (h' : SlB w 5 v' l'.length css'.flatten) (hc' : ItCs w l' css') (hb : l.length ≤ 9223372036854775807)
    (hf : ∀ (x y : It) (cs ds : List Value) (W : World), x ∈ l → y ∈ l' → ItC W x cs → ItC W y ds → FN Tryz.prog f [.agg cs.toArray, .agg ds.toArray] W fun e w' => e = .returned (.bool (decide (x = y))) ∧ Ext W w') :
    FN Tryz.prog 55 [v, v', .func (.func f) #[] #[]] w fun e w' => e = .returned (.bool (decide (l = l'))) ∧ Ext w w' := by
  refine FN_enter Tryz.func55 rfl rfl (by kernel_rfl) ?_
  have l1 := fun ty W => h.isLen (P := Tryz.prog) (t := 44) (by simp) ty W
  have l2 := fun ty W => h'.isLen (P := Tryz.prog) (t := 44) (by simp) ty W
  by_cases hl : l.length = l'.length
  · simp [l1, l2, hl]
    rw [← hl]
    refine WC_loop (fun k ρ ds w' => ∃ i : Nat, k = l.length - i ∧ i ≤ l.length ∧ ρ 1 = v' ∧ ρ 2 = .func (.func f) #[] #[] ∧ ρ 15 = v ∧ ρ 16 = i64 l.length ∧ ρ 17 = i64 i ∧ ds = [] ∧ Ext w w' ∧ l.take i = l'.take i) l.length ⟨0, by simp, by simp, by simp, by simp, by simp, by simp, by simp, rfl, Ext.refl _, rfl⟩ ?_
    rintro k ρ ds w1 ⟨i, rfl, hi, e1, e2, e15, e16, e17, rfl, hE, ht⟩
    by_cases hlt : i < l.length
    · have hlt' : i < l'.length := by omega
      obtain ⟨k1, n1, b1, s1, v1, g1, c1, r1⟩ := itRow (h.ext hE) (hc.ext hE) hlt
      obtain ⟨k2, n2, b2, s2, v2, g2, c2, r2⟩ := itRow (h'.ext hE) (hc'.ext hE) hlt'
      have i1 := fun W => h.index (P := Tryz.prog) (t := 44) (by simp) .i64 i (by omega) (by omega) W
      have i2 := fun W => h'.index (P := Tryz.prog) (t := 44) (by simp) .i64 i (by omega) (by omega) W
      simp at i1 i2
      obtain ⟨⟨ba1, bm1, bc1, rfl⟩, ⟨la1, lm1, lc1, rfl⟩⟩ := itC_slices c1
      obtain ⟨⟨ba2, bm2, bc2, rfl⟩, ⟨la2, lm2, lc2, rfl⟩⟩ := itC_slices c2
      have hEA := (Ext.refl w1).alloc (.cells #[i64 k1, u64 n1, .slice ba1 bm1 bc1, .string s1, .slice la1 lm1 lc1] 46)
      have r2' := r2.ext hEA
      have hEB := hEA.alloc (.cells #[i64 k2, u64 n2, .slice ba2 bm2 bc2, .string s2, .slice la2 lm2 lc2] 46)
      simp [e1, e2, e15, e16, e17, hlt, i1, i2, r1.c0, r1.c1, r1.c2, r1.c3, r1.c4, r2.c0, r2.c1, r2.c2, r2.c3, r2.c4]
      have t1 : l.take (i + 1) = l.take i ++ [l[i]] := by rw [List.take_add_one, List.getElem?_eq_getElem hlt]; rfl
      have t2 : l'.take (i + 1) = l'.take i ++ [l'[i]] := by rw [List.take_add_one, List.getElem?_eq_getElem hlt']; rfl
      refine FN.mono (hf l[i] l'[i] _ _ _ (List.getElem_mem hlt) (List.getElem_mem hlt') (c1.ext hEB) (c2.ext hEB)) ?_
      rintro _ w2 ⟨rfl, hE2⟩
      have hE3 := hE.trans (hEB.trans hE2)
      by_cases he : l[i] = l'[i]
      · simp [e1, e2, e15, e16, e17, he]
        exact ⟨l.length - (i + 1), by omega, i + 1, rfl, by omega, by rw [wrap64 _ (by omega) (by omega)]; rfl, hE3, by rw [t1, t2, ht, he]⟩
      · simp [he]
        refine ⟨fun h => he ?_, hE3⟩
        simp [h]
    · have : i = l.length := by omega
      subst this
      simp [e16, e17]
      rw [List.take_length, hl, List.take_length] at ht
      exact ⟨ht, hE⟩
  · have hn : ¬ l = l' := fun e => hl (by rw [e])
    have hl2 : ¬ ((l.length : Int) = (l'.length : Int)) := by omega
    simp [l1, l2, hl2, hn]
    exact Ext.refl w
/-- Are two items the same? -/
theorem same_n : ∀ (m : Nat) (t u : It) (cs ds : List Value) (w : World), SizeOf.sizeOf t ≤ m → ItC w t cs → ItC w u ds → FN Tryz.prog 39 [.agg cs.toArray, .agg ds.toArray] w fun e w' => e = .returned (.bool (decide (t = u))) ∧ Ext w w' := by
  intro m
  induction m with
  | zero => intro t u cs ds w hm; cases t; simp at hm
  | succ m ih =>
    intro t u cs ds w hm ht hu
    obtain ⟨k, n, b, s, l⟩ := t
    obtain ⟨k', n', b', s', l'⟩ := u
    obtain ⟨bv, lv, css, rfl, hb, hl, hc, hb1, hl1⟩ := itC_mk.1 ht
    obtain ⟨bv', lv', css', rfl, hb', hl', hc', hb1', hl1'⟩ := itC_mk.1 hu
    obtain ⟨⟨ba1, bm1, bc1, rfl⟩, ⟨la1, lm1, lc1, rfl⟩⟩ := itC_slices ht
    obtain ⟨⟨ba2, bm2, bc2, rfl⟩, ⟨la2, lm2, lc2, rfl⟩⟩ := itC_slices hu
    refine FN_enter Tryz.func39 rfl rfl (by kernel_rfl) ?_
    have hE1 : Ext w ((w.alloc (.cells #[i64 k, u64 n, .slice ba1 bm1 bc1, .string s, .slice la1 lm1 lc1] 46)).alloc (.cells #[i64 k', u64 n', .slice ba2 bm2 bc2, .string s', .slice la2 lm2 lc2] 46)) := ((Ext.refl w).alloc _).alloc _
    have x1 : ItBx ((w.alloc (.cells #[i64 k, u64 n, .slice ba1 bm1 bc1, .string s, .slice la1 lm1 lc1] 46)).alloc (.cells #[i64 k', u64 n', .slice ba2 bm2 bc2, .string s', .slice la2 lm2 lc2] 46)) w.heap.size k n (.slice ba1 bm1 bc1) s (.slice la1 lm1 lc1) := (ItBx.new w _ _ _ _ _ 46).ext ((Ext.refl _).alloc _)
    have x2 : ItBx ((w.alloc (.cells #[i64 k, u64 n, .slice ba1 bm1 bc1, .string s, .slice la1 lm1 lc1] 46)).alloc (.cells #[i64 k', u64 n', .slice ba2 bm2 bc2, .string s', .slice la2 lm2 lc2] 46)) (w.heap.size + 1) k' n' (.slice ba2 bm2 bc2) s' (.slice la2 lm2 lc2) := by
      have := ItBx.new (w.alloc (.cells #[i64 k, u64 n, .slice ba1 bm1 bc1, .string s, .slice la1 lm1 lc1] 46)) k' n' (.slice ba2 bm2 bc2) s' (.slice la2 lm2 lc2) 46
      simpa using this
    rw [show decide (It.mk k n b s l = It.mk k' n' b' s' l') = decide (k = k' ∧ n = n' ∧ b = b' ∧ s = s' ∧ l = l') by simp]
    by_cases hk : k = k'
    · by_cases hn : n = n'
      · simp [hk, hn]
        rw [hk, hn] at hE1 x1 x2
        generalize ((w.alloc _).alloc _) = w1 at *
        refine FN.mono (beq_c (hb.ext hE1) (hb'.ext hE1) hb1) ?_
        rintro _ w2 ⟨rfl, hE2⟩
        have hE12 := hE1.trans hE2
        have y1 := x1.ext hE2
        have y2 := x2.ext hE2
        by_cases hbb : b = b'
        · by_cases hss : s = s'
          · simp [hk, hn, hbb, hss, y1.c3, y2.c3, y1.c4, y2.c4]
            refine FN.mono (ieq_c (hl.ext hE12) (hc.ext hE12) (hl'.ext hE12) (hc'.ext hE12) hl1 (fun x y cs ds W hx hy h1 h2 => ih x y cs ds W (by have := It.lt hx k n b s; omega) h1 h2)) ?_
            rintro _ w3 ⟨rfl, hE3⟩
            simp
            exact hE12.trans hE3
          · simp [hk, hn, hbb, hss, y1.c3, y2.c3]
            exact hE12
        · simp [hbb]
          exact hE12
      · simp [hk, hn]
        rw [hk] at hE1
        exact hE1
    · simp [hk]
      exact hE1
theorem same_c {w : World} {t u : It} {cs ds : List Value} (ht : ItC w t cs) (hu : ItC w u ds) : FN Tryz.prog 39 [.agg cs.toArray, .agg ds.toArray] w fun e w' => e = .returned (.bool (decide (t = u))) ∧ Ext w w' := same_n _ t u cs ds w (Nat.le_refl _) ht hu
end Go.Proofs
namespace Go.Proofs
open Pk
set_option maxRecDepth 10000
abbrev Cr := Int × Bool
abbrev crC (c : Cr) : List Value := [u32 c.1, .bool c.2]
abbrev crV (c : Cr) : Value := .agg #[u32 c.1, .bool c.2]
abbrev CSl (w : World) (v : Value) (l : List Cr) := SlB w 2 v l.length (l.flatMap crC)
theorem fCross : flatA Tryz.prog 37 = some [.int .u32, .bool] := by kernel_rfl
theorem eqInt (k : IntKind) (a b : Int) : eqc (.int k a) (.int k b) = decide (a = b) := by
  by_cases h : a = b <;> simp [eqc, h]
theorem cr_eq (a b : Cr) : eqcs (crC a) (crC b) = decide (a = b) := by
  obtain ⟨a1, a2⟩ := a
  obtain ⟨b1, b2⟩ := b
  rw [Bool.eq_iff_iff]
  simp [eqcs, eqc]
theorem kCross : KeyEq Tryz.prog 37 crV := keyEq_flat (g := crC) fCross (fun _ => rfl) cr_eq
def crB (a b : Cr) : Bool := decide (a = b)
@[simp] theorem eqC (a1 b1 : Int) (a2 b2 : Bool) (w : World) : (binOp .eql 37 (.agg #[.int .u32 a1, .bool a2]) (.agg #[.int .u32 b1, .bool b2])).run Tryz.prog w = .ok (.bool (crB (a1, a2) (b1, b2))) w := by
  unfold crB
  rw [← cr_eq (a1, a2) (b1, b2)]
  exact run_eql_flat w fCross _ _ rfl rfl
theorem flat_at {α : Type} {s : Nat} (g : α → List Value) (hg : ∀ x, (g x).length = s) : ∀ (l : List α) (i j : Nat) (x : α), l[i]? = some x → j < s → (l.flatMap g)[i * s + j]? = (g x)[j]?
  | [], i, j, x, h, _ => by simp at h
  | a :: l, 0, j, x, h, hj => by
    simp at h; subst h
    rw [List.flatMap_cons, Nat.zero_mul, Nat.zero_add, List.getElem?_append_left (by rw [hg]; exact hj)]
  | a :: l, i + 1, j, x, h, hj => by
    have := flat_at g hg l i j x (by simpa using h) hj
    rw [List.flatMap_cons, Nat.add_mul, Nat.one_mul, List.getElem?_append_right (by rw [hg]; omega), hg]
    rw [show i * s + s + j - s = i * s + j from by omega]
    exact this
/-- A crossing in a row. -/
structure CrAt (W : World) (v : Value) (i : Nat) (c : Cr) : Prop where
  c0 : W.cell? ⟨slB v, slO v + i * 2, none⟩ = some (u32 c.1)
  c1 : W.cell? ⟨slB v, slO v + i * 2 + 1, none⟩ = some (.bool c.2)
theorem CSl.row {w : World} {v : Value} {l : List Cr} (h : CSl w v l) {i : Nat} {x : Cr} (hi : l[i]? = some x) : CrAt w v i x := by
  have d := fun (j : Nat) (u : Value) (hj : j < 2) (e : (crC x)[j]? = some u) => h.at_ (i * 2 + j) u ((flat_at crC (fun _ => rfl) l i j x hi hj).trans e)
  simp only [← Nat.add_assoc] at d
  exact ⟨d 0 _ (by omega) rfl, d 1 _ (by omega) rfl⟩
theorem CSl.index {w : World} {v : Value} {l : List Cr} (h : CSl w v l) (i : Nat) (hi : i < l.length) (W : World) : (Instr.indexAt 22 v (.int .i64 (i : Int))).run Tryz.prog W = .ok (.pointer (some ⟨slB v, slO v + i * 2, none⟩)) W := by
  have := SlB.index (P := Tryz.prog) (t := 22) h (by simp) .i64 i (by omega) (by omega) W
  simpa using this
def idx (p : Cr → Bool) (l : List Cr) : Int := match l.findIdx? p with | some i => i | none => -1
theorem idx_ge (p : Cr → Bool) (l : List Cr) : decide (0 ≤ idx p l) = l.any p := by
  unfold idx
  cases h : l.findIdx? p with
  | none =>
    have := List.findIdx?_eq_none_iff.1 h
    have h2 : l.any p = false := List.any_eq_false.2 fun x hx => by rw [this x hx]; simp
    rw [h2]; rfl
  | some i =>
    obtain ⟨hi, h1, -⟩ := List.findIdx?_eq_some_iff_getElem.1 h
    rw [List.any_eq_true.2 ⟨_, List.getElem_mem hi, h1⟩]
    simp
theorem idx_at {p : Cr → Bool} {l : List Cr} {i : Nat} (hi : i < l.length) (h1 : p l[i] = true) (h2 : ∀ j (hj : j < i), p l[j] = false) : idx p l = i := by
  unfold idx
  rw [List.findIdx?_eq_some_iff_getElem.2 ⟨hi, h1, fun j hj => by simp [h2 j hj]⟩]
theorem idx_none {p : Cr → Bool} {l : List Cr} (h2 : ∀ j (hj : j < l.length), p l[j] = false) : idx p l = -1 := by
  unfold idx
  rw [List.findIdx?_eq_none_iff.2 fun x hx => by
    obtain ⟨j, hj, rfl⟩ := List.getElem_of_mem hx
    exact h2 j hj]
theorem index_c {w : World} {v : Value} {l : List Cr} (h : CSl w v l) (x : Cr) (hb : l.length ≤ 9223372036854775807) : FN Tryz.prog 60 [v, crV x] w fun e w' => e = .returned (i64 (idx (fun y => crB x y) l)) ∧ Ext w w' := by
  refine FN_enter Tryz.func60 rfl rfl (by kernel_rfl) ?_
  have hlen := fun ty W => h.isLen (P := Tryz.prog) (t := 22) (by simp) ty W
  simp [hlen]
  have hE1 := (Ext.refl w).alloc (.cells #[u32 x.1, .bool x.2] 37)
  refine WC_loop (fun k ρ ds w' => ∃ i : Nat, k = l.length - i ∧ i ≤ l.length ∧ ρ 0 = v ∧ ρ 3 = ptr w.heap.size ∧ ρ 7 = i64 l.length ∧ ρ 8 = i64 i ∧ ds = [] ∧ Ext (w.alloc (.cells #[u32 x.1, .bool x.2] 37)) w' ∧ ∀ j (hj : j < l.length), j < i → crB x l[j] = false) l.length ⟨0, by simp, by simp, by simp, by simp, by simp, by simp, rfl, Ext.refl _, fun j _ h => by omega⟩ ?_
  rintro k ρ ds w1 ⟨i, rfl, hi, e0, e3, e7, e8, rfl, hE, hno⟩
  by_cases hlt : i < l.length
  · simp [e7, e8, hlt]
    refine WC_drawC 5 (.F 0 <| .F 1 <| .F 2 <| .F 3 <| .F 4 <| .Z) (fun _ => false) rfl (by kernel_rfl) fun W hW => ?_
    have hWE : Ext w1 W := hW ▸ Ext.drew _
    have hEW := hE.trans hWE
    have r := CSl.row (SlB.ext h (hE1.trans hEW)) (List.getElem?_eq_getElem hlt)
    have ix := CSl.index h i hlt W
    have k0 : (w.alloc (.cells #[u32 x.1, .bool x.2] 37)).cell? ⟨w.heap.size, 0, none⟩ = some (u32 x.1) := by simp
    have k1 : (w.alloc (.cells #[u32 x.1, .bool x.2] 37)).cell? ⟨w.heap.size, 1, none⟩ = some (.bool x.2) := by simp
    cases hq : crB x l[i] with
    | true =>
      simp [e0, e3, hEW.cell_eq k0, hEW.cell_eq k1, ix, r.c0, r.c1, hq]
      exact ⟨(idx_at hlt hq fun j hj => hno j (by omega) hj).symm, hE1.trans hEW⟩
    | false =>
      simp [e0, e3, e7, e8, hEW.cell_eq k0, hEW.cell_eq k1, ix, r.c0, r.c1, hq]
      refine ⟨l.length - (i + 1), by omega, i + 1, rfl, by omega, by rw [wrap64 _ (by omega) (by omega)]; rfl, hEW, fun j hj hji => ?_⟩
      rcases Nat.lt_succ_iff_lt_or_eq.1 hji with h1 | rfl
      · exact hno j hj h1
      · exact hq
  · have : i = l.length := by omega
    subst this
    simp [e7, e8]
    exact ⟨(idx_none fun j hj => hno j hj hj).symm, hE1.trans hE⟩
theorem gate0_c (x : Cr) (w : World) : FN Tryz.prog 47 [crV x] w fun e w' => e = .returned (.bool (decide (x.1 = 0))) ∧ Ext w w' := by
  refine FN_enter Tryz.func47 rfl rfl (by kernel_rfl) ?_
  simp
  exact (Ext.refl w).alloc _
theorem indexF_c {w : World} {v : Value} {l : List Cr} (h : CSl w v l) (hb : l.length ≤ 9223372036854775807) : FN Tryz.prog 59 [v, .func (.func 47) #[] #[]] w fun e w' => e = .returned (i64 (idx (fun y => decide (y.1 = 0)) l)) ∧ Ext w w' := by
  refine FN_enter Tryz.func59 rfl rfl (by kernel_rfl) ?_
  have hlen := fun ty W => h.isLen (P := Tryz.prog) (t := 22) (by simp) ty W
  simp [hlen]
  refine WC_loop (fun k ρ ds w' => ∃ i : Nat, k = l.length - i ∧ i ≤ l.length ∧ ρ 0 = v ∧ ρ 1 = .func (.func 47) #[] #[] ∧ ρ 7 = i64 l.length ∧ ρ 8 = i64 i ∧ ds = [] ∧ Ext w w' ∧ ∀ j (hj : j < l.length), j < i → decide (l[j].1 = 0) = false) l.length ⟨0, by simp, by simp, by simp, by simp, by simp, by simp, rfl, Ext.refl _, fun j _ h => by omega⟩ ?_
  rintro k ρ ds w1 ⟨i, rfl, hi, e0, e1, e7, e8, rfl, hE, hno⟩
  by_cases hlt : i < l.length
  · have r := CSl.row (SlB.ext h hE) (List.getElem?_eq_getElem hlt)
    have ix := CSl.index h i hlt w1
    simp [e0, e1, e7, e8, hlt, ix, r.c0, r.c1]
    refine FN.mono (gate0_c l[i] w1) ?_
    rintro _ w2 ⟨rfl, hE2⟩
    cases hq : decide (l[i].1 = 0) with
    | true =>
      simp
      exact ⟨(idx_at hlt hq fun j hj => hno j (by omega) hj).symm, hE.trans hE2⟩
    | false =>
      simp [e0, e1, e7, e8]
      refine ⟨l.length - (i + 1), by omega, i + 1, rfl, by omega, by rw [wrap64 _ (by omega) (by omega)]; rfl, hE.trans hE2, fun j hj hji => ?_⟩
      rcases Nat.lt_succ_iff_lt_or_eq.1 hji with h1 | rfl
      · simpa using hno j hj h1
      · simpa using hq
  · have : i = l.length := by omega
    subst this
    simp [e7, e8]
    exact ⟨(idx_none fun j hj => hno j hj hj).symm, hE⟩
theorem contains_c {w : World} {v : Value} {l : List Cr} (h : CSl w v l) (x : Cr) (hb : l.length ≤ 9223372036854775807) : FN Tryz.prog 48 [v, crV x] w fun e w' => e = .returned (.bool (decide (x ∈ l))) ∧ Ext w w' := by
  refine FN_enter Tryz.func48 rfl rfl (by kernel_rfl) ?_
  simp
  have hE1 := (Ext.refl w).alloc (.cells #[u32 x.1, .bool x.2] 37)
  refine FN.mono (index_c (SlB.ext h hE1) x hb) ?_
  rintro _ w1 ⟨rfl, hE⟩
  simp [idx_ge]
  refine ⟨?_, hE1.trans hE⟩
  rw [Bool.eq_iff_iff]
  simp [crB]
theorem containsF_c {w : World} {v : Value} {l : List Cr} (h : CSl w v l) (hb : l.length ≤ 9223372036854775807) : FN Tryz.prog 46 [v, .func (.func 47) #[] #[]] w fun e w' => e = .returned (.bool (l.any fun y => decide (y.1 = 0))) ∧ Ext w w' := by
  refine FN_enter Tryz.func46 rfl rfl (by kernel_rfl) ?_
  simp
  refine FN.mono (indexF_c h hb) ?_
  rintro _ w1 ⟨rfl, hE⟩
  simp [idx_ge]
  exact hE
end Go.Proofs
namespace Go.Proofs
open Pk
set_option maxRecDepth 10000
/-! ### Questions -/
structure Qn where
  f : Value
  e : Int
  b : Bool
def askE : List Qn → Int
  | [] => 0
  | q :: qs => if q.b then q.e else askE qs
def askCells (qs : List Qn) : List Value := qs.flatMap fun q => [q.f, .int .i64 q.e]
theorem askCells_at : ∀ (qs : List Qn) (i : Nat) (q : Qn), qs[i]? = some q → (askCells qs)[i * 2]? = some q.f ∧ (askCells qs)[i * 2 + 1]? = some (.int .i64 q.e)
  | [], i, q, h => by simp at h
  | a :: qs, 0, q, h => by
    simp at h; subst h
    simp [askCells]
  | a :: qs, i + 1, q, h => by
    have := askCells_at qs i q (by simpa using h)
    have e1 : (i + 1) * 2 = i * 2 + 1 + 1 := by omega
    have e2 : (i + 1) * 2 + 1 = i * 2 + 1 + 1 + 1 := by omega
    rw [e1]
    simp only [askCells, List.flatMap_cons] at this ⊢
    simpa using this
theorem askE_none : ∀ (qs : List Qn), (∀ (j : Nat) (q : Qn), qs[j]? = some q → q.b = false) → askE qs = 0
  | [], _ => rfl
  | q :: qs, h => by
    have h0 := h 0 q rfl
    simp [askE, h0]
    exact askE_none qs fun j q hj => h (j + 1) q hj
theorem askE_at : ∀ (qs : List Qn) (i : Nat) (q : Qn), qs[i]? = some q → q.b = true → (∀ (j : Nat) (q : Qn), j < i → qs[j]? = some q → q.b = false) → askE qs = q.e
  | [], i, q, h, _, _ => by simp at h
  | a :: qs, 0, q, h, hb, _ => by
    simp at h; subst h
    simp [askE, hb]
  | a :: qs, i + 1, q, h, hb, hn => by
    have h0 := hn 0 a (by omega) rfl
    simp [askE, h0]
    exact askE_at qs i q (by simpa using h) hb fun j q hj hq => hn (j + 1) q (by omega) (by simpa using hq)
theorem asked_c {w : World} {v : Value} (qs : List Qn) (hs : Sl w 2 v qs.length (askCells qs)) (hb : qs.length ≤ 1000) (hf : ∀ q ∈ qs, ∃ f x y, q.f = .func f x y)
    (hq : ∀ (i : Nat) (q : Qn), qs[i]? = some q → (∀ (j : Nat) (p : Qn), j < i → qs[j]? = some p → p.b = false) → ∀ w', Ext w w' → CV Tryz.prog q.f [] w' fun e w'' => e = .returned (.bool q.b) ∧ Ext w' w'') :
    FN Tryz.prog 21 [v] w fun e w' => e = .returned (.int .i64 (askE qs)) ∧ Ext w w' := by
  refine FN_enter Tryz.func21 rfl rfl (by kernel_rfl) ?_
  simp
  refine WC_scope 0 _ rfl ?_
  simp [hs.isLen]
  refine WC_loop (fun k ρ ds w' => ∃ i : Nat, k = qs.length - i ∧ i ≤ qs.length ∧ ρ 5 = v ∧ ρ 6 = .int .i64 qs.length ∧ ρ 7 = .int .i64 i ∧ ds = [] ∧ Ext w w' ∧ ∀ (j : Nat) (q : Qn), j < i → qs[j]? = some q → q.b = false) qs.length ⟨0, by simp [Ext.refl]⟩ ?_
  rintro k ρ ds w1 ⟨i, rfl, hi, e5, e6, e7, rfl, hE, hno⟩
  by_cases hlt : i < qs.length
  · have hq0 : qs[i]? = some qs[i] := by simp [hlt]
    obtain ⟨c1, c2⟩ := askCells_at qs i _ hq0
    have hs1 := hs.ext hE
    have d1 := hs1.at_ _ _ c1
    have d2 := hs1.at_ _ _ c2
    rw [← Nat.add_assoc] at d2
    have hix := hs1.index (P := Tryz.prog) (t := 85) (by simp) .i64 i (by omega) (by omega) w1
    obtain ⟨f, x, y, hfv⟩ := hf qs[i] (by simp)
    have hcall := hq i _ hq0 hno
    rw [hfv] at d1 hcall
    simp [e5, e6, e7, hlt, hix, d1, d2]
    have hE1 := (Ext.refl w1).alloc (.cells #[.func f x y, .int .i64 qs[i].e] 65)
    refine CV.mono (hcall _ (hE.trans hE1)) ?_
    rintro _ w2 ⟨rfl, hE2⟩
    cases hqb : qs[i].b with
    | true =>
      simp
      exact ⟨(askE_at qs i _ hq0 hqb hno).symm, (hE.trans hE1).trans hE2⟩
    | false =>
      simp [e5, e6, e7]
      refine ⟨qs.length - (i + 1), by omega, i + 1, rfl, by omega, ?_, (hE.trans hE1).trans hE2, ?_⟩
      · rw [wrap64 _ (by omega) (by omega)]; rfl
      · intro j q hj hjq
        rcases Nat.lt_succ_iff_lt_or_eq.1 hj with h1 | rfl
        · exact hno j q h1 hjq
        · rw [hq0] at hjq; cases hjq; exact hqb
  · simp [e6, e7, hlt]
    exact ⟨(askE_none qs fun j q hj => hno j q (by have := (List.getElem?_eq_some_iff.1 hj).1; omega) hj).symm, hE⟩
/-- The rest of a list of questions, one by one. -/
theorem asked_go {w w0 : World} {v : Value} {R : Ending → World → Prop} (qs : List Qn) (hs : Sl w 2 v qs.length (askCells qs)) (hb : qs.length ≤ 1000) (hf : ∀ q ∈ qs, ∃ f x y, q.f = .func f x y) (hE : Ext w0 w)
    (hq : ∀ (i : Nat) (q : Qn), qs[i]? = some q → (∀ (j : Nat) (p : Qn), j < i → qs[j]? = some p → p.b = false) → ∀ w', Ext w0 w' → CV Tryz.prog q.f [] w' fun e w'' => e = .returned (.bool q.b) ∧ Ext w' w'')
    (h : ∀ w', Ext w0 w' → R (.returned (.int .i64 (askE qs))) w') : FN Tryz.prog 21 [v] w R := by
  refine FN.mono (asked_c qs hs hb hf fun i q h1 h2 w' h3 => hq i q h1 h2 w' (hE.trans h3)) ?_
  rintro _ w' ⟨rfl, h2⟩
  exact h _ (hE.trans h2)
/-! ### Paths -/
abbrev ptV (back : Bool) (v : Value) : Value := .agg #[.bool back, v]
/-- A path in a block of its own. -/
structure PtAt (W : World) (b : Nat) (back : Bool) (v : Value) : Prop where
  c0 : W.cell? ⟨b, 0, none⟩ = some (.bool back)
  c1 : W.cell? ⟨b, 1, none⟩ = some v
  f0 : W.frozen? ⟨b, 0, none⟩ = false
  f1 : W.frozen? ⟨b, 1, none⟩ = false
theorem PtAt.new (W : World) (back : Bool) (v : Value) (ty : TypeId) : PtAt (W.alloc (.cells #[.bool back, v] ty)) W.heap.size back v := by
  have ho := World.alloc_heap_new W (.cells #[.bool back, v] ty)
  refine ⟨by simp, by simp, ?_, ?_⟩ <;> simp only [World.frozen?, ho] <;> rfl
theorem PtAt.keep {W W' : World} {b : Nat} {back : Bool} {v : Value} (h : PtAt W b back v) (hb : W'.heap[b]? = W.heap[b]?) : PtAt W' b back v := by
  refine ⟨?_, ?_, ?_, ?_⟩
  · rw [← h.c0]; unfold World.cell?; rw [hb]
  · rw [← h.c1]; unfold World.cell?; rw [hb]
  · rw [← h.f0]; unfold World.frozen?; rw [hb]
  · rw [← h.f1]; unfold World.frozen?; rw [hb]
theorem PtAt.lt {W : World} {b : Nat} {back : Bool} {v : Value} (h : PtAt W b back v) : b < W.heap.size := World.block_lt_of_cell? _ _ h.c0
theorem PtAt.ext {W W' : World} {b : Nat} {back : Bool} {v : Value} (h : PtAt W b back v) (hE : Ext W W') : PtAt W' b back v := h.keep (hE.blk b h.lt)
theorem PtAt.mod {W W' : World} {b : Nat} {back : Bool} {v : Value} {S : Nat → Prop} (h : PtAt W b back v) (hE : Mod S W W') (hS : ¬ S b) : PtAt W' b back v := h.keep (hE.blk b h.lt hS)
def seenM (l : List Cr) : List (Cr × Bool) := l.foldl (fun m c => mset m c true) []
theorem seenM_snoc (l : List Cr) (c : Cr) : seenM (l ++ [c]) = mset (seenM l) c true := by unfold seenM; rw [List.foldl_append]; rfl
theorem seenM_all (l : List Cr) : (∀ c, (mget (seenM l) c).isSome = decide (c ∈ l)) ∧ (seenM l).length ≤ l.length ∧ (l.Nodup ↔ (seenM l).length = l.length) := by
  have key : ∀ (n : Nat) (l : List Cr), l.length = n → (∀ c, (mget (seenM l) c).isSome = decide (c ∈ l)) ∧ (seenM l).length ≤ l.length ∧ (l.Nodup ↔ (seenM l).length = l.length) := by
    intro n
    induction n with
    | zero =>
      intro l hl
      have : l = [] := List.eq_nil_of_length_eq_zero hl
      subst this
      simp [seenM, kget_nil]
    | succ n ih =>
      intro l hl
      have hne : l ≠ [] := fun e => by rw [e] at hl; simp at hl
      have hd := (List.dropLast_concat_getLast hne).symm
      obtain ⟨h1, h2, h3⟩ := ih l.dropLast (by simp [hl])
      rw [hd]
      generalize l.getLast hne = c at *
      generalize l.dropLast = l0 at *
      rw [seenM_snoc]
      refine ⟨fun z => ?_, ?_⟩
      · rw [kget_mset]
        by_cases e : z = c
        · subst e; simp
        · rw [if_neg e, h1 z]
          simp [e]
      · have hc := h1 c
        unfold mset
        by_cases hm : c ∈ l0
        · have hn : ¬ (l0 ++ [c]).Nodup := by
            intro h
            exact (List.nodup_append.1 h).2.2 c hm c (by simp) rfl
          rw [hc]
          simp only [hm, decide_true, if_true, List.length_map, List.length_append, List.length_singleton]
          refine ⟨by omega, ⟨fun h => absurd h hn, fun h => by omega⟩⟩
        · rw [hc]
          simp only [hm, decide_false, Bool.false_eq_true, if_false, List.length_append, List.length_singleton]
          refine ⟨by omega, ⟨fun h => ?_, fun h => ?_⟩⟩
          · have := h3.1 (List.nodup_append.1 h).1; omega
          · have h4 := h3.2 (by omega)
            refine List.nodup_append.2 ⟨h4, by simp, fun a ha b hb e => ?_⟩
            simp at hb
            subst hb
            subst e
            exact hm ha
  exact key _ l rfl
theorem tmc : Tryz.prog.underlying 86 = some (.map 37 4) := by simp
theorem there_c {w : World} {v : Value} {l : List Cr} (h : CSl w v l) (back : Bool) (hb : l.length ≤ 9223372036854775807) : FN Tryz.prog 45 [ptV back v] w fun e w' => ∃ r, e = .returned (.map (some r)) ∧ MapAt crV Value.bool w' r (seenM l) ∧ Ext w w' := by
  refine FN_enter Tryz.func45 rfl rfl (by kernel_rfl) ?_
  have hlen := fun ty W => h.isLen (P := Tryz.prog) (t := 22) (by simp) ty W
  obtain ⟨va, vc, rfl⟩ := h.isSlice
  simp [hlen]
  have hE1 : Ext w ((w.alloc (.cells #[.bool back, .slice va l.length vc] 67)).alloc (.map #[] 0)) := ((Ext.refl w).alloc _).alloc _
  have m1 : MapAt crV Value.bool ((w.alloc (.cells #[.bool back, .slice va l.length vc] 67)).alloc (.map #[] 0)) (w.heap.size + 1) [] := by
    have := MapAt.alloc0 crV Value.bool (w.alloc (.cells #[.bool back, .slice va l.length vc] 67))
    simpa using this
  have z1 : ((w.alloc (.cells #[.bool back, .slice va l.length vc] 67)).alloc (.map #[] 0)).heap.size = w.heap.size + 1 + 1 := by simp
  obtain ⟨r, hr⟩ : ∃ r, r = w.heap.size + 1 := ⟨_, rfl⟩
  rw [← hr] at m1 z1
  generalize hw1 : ((w.alloc (.cells #[.bool back, .slice va l.length vc] 67)).alloc (.map #[] 0)) = w1 at *
  refine WC_loop (fun k ρ ds w' => ∃ i : Nat, k = l.length - i ∧ i ≤ l.length ∧ ρ 3 = .map (some r) ∧ ρ 9 = .slice va l.length vc ∧ ρ 10 = i64 l.length ∧ ρ 11 = i64 i ∧ ds = [] ∧ Mod (fun k => k = r) w1 w' ∧ MapAt crV Value.bool w' r (seenM (l.take i))) l.length
    ⟨0, by simp, by simp, by simp [hr], by simp, by simp, by simp, rfl, Mod.refl _ _, m1⟩ ?_
  rintro k ρ ds w2 ⟨i, rfl, hi, e3, e9, e10, e11, rfl, hM, hm⟩
  have hEw : Ext w w2 := ((hE1.mod (S := fun k => w.heap.size ≤ k)).trans (hM.weaken fun k hk => by omega)).ext fun _ h => h
  by_cases hlt : i < l.length
  · have hq := List.getElem?_eq_getElem hlt
    have rr := CSl.row (SlB.ext h hEw) hq
    have ix := CSl.index h i hlt w2
    have hE3 := (Ext.refl w2).alloc (.cells #[u32 l[i].1, .bool l[i].2] 37)
    obtain ⟨w4, hru, hm4, hM4, hs4⟩ := (hm.ext hE3).update (P := Tryz.prog) kCross tmc l[i] true
    have hru' : (Instr.mapUpdate 86 (.map (some r)) (.agg #[.int .u32 l[i].1, .bool l[i].2]) (.bool true)).run Tryz.prog (w2.alloc (.cells #[u32 l[i].1, .bool l[i].2] 37)) = .ok () w4 := hru
    simp [e3, e9, e10, e11, hlt, ix, rr.c0, rr.c1, hru']
    have htk : l.take (i + 1) = l.take i ++ [l[i]] := by rw [List.take_add_one, hq]; rfl
    exact ⟨l.length - (i + 1), by omega, i + 1, rfl, by omega, by rw [wrap64 _ (by omega) (by omega)]; rfl, (hM.trans hE3.mod).trans (hM4.weaken fun k hk => hk), by rw [htk, seenM_snoc]; exact hm4⟩
  · have : i = l.length := by omega
    subst this
    simp [e3, e10, e11]
    rw [List.take_length] at hm
    exact ⟨hm, hEw⟩
def rightP (l : List Cr) : Bool := !(decide (64 < l.length) || !decide l.Nodup || l.any fun y => decide (y.1 = 0))
theorem rightF_c {w : World} {b : Nat} {back : Bool} {v : Value} {l : List Cr} (h : PtAt w b back v) (hs : CSl w v l) (hb : l.length ≤ 9223372036854775807) : FN Tryz.prog 44 [ptr b] w fun e w' => e = .returned (.bool (!rightP l)) ∧ Ext w w' := by
  refine FN_enter Tryz.func44 rfl rfl (by kernel_rfl) ?_
  have hlen := fun ty W => hs.isLen (P := Tryz.prog) (t := 22) (by simp) ty W
  simp
  refine WC_drawC 13 (.F 0 <| .F 1 <| .F 2 <| .F 3 <| .F 4 <| .F 5 <| .F 6 <| .F 9 <| .F 10 <| .F 11 <| .F 12 <| .C 7 <| .C 8 <| .Z) (fun _ => false) rfl (by kernel_rfl) fun W hW => ?_
  have hWE : Ext w W := hW ▸ Ext.drew _
  have h1 := h.ext hWE
  obtain ⟨va, vc, hva⟩ := hs.isSlice
  by_cases h64 : 64 < l.length
  · have hd : decide ((64 : Int) < (l.length : Int)) = true := by simp; omega
    have hr : rightP l = false := by simp [rightP, h64]
    simp [h1.c1, hlen, hd]
    exact ⟨hr, hWE⟩
  · have hd : decide ((64 : Int) < (l.length : Int)) = false := by simp; omega
    simp [h1.c0, h1.c1, hlen, hd]
    refine FN.mono (there_c (SlB.ext hs hWE) back hb) ?_
    rintro _ w2 ⟨r, rfl, hm, hE2⟩
    simp
    refine KR_ext hE2 ?_
    obtain ⟨g1, g2, g3⟩ := seenM_all l
    have hml := hm.len (P := Tryz.prog) (T := 86) (by simp)
    have h2 := h1.ext hE2
    simp [hml]
    refine KR_same ?_
    by_cases hn : l.Nodup
    · have e : ¬ (((seenM l).length : Int) < (l.length : Int)) := by have := g3.1 hn; omega
      simp [e, h2.c1]
      refine FN.mono (containsF_c (SlB.ext hs (hWE.trans hE2)) hb) ?_
      rintro _ w3 ⟨rfl, hE3⟩
      simp
      refine ⟨by simp [rightP, h64, hn], (hWE.trans hE2).trans hE3⟩
    · have e : ((seenM l).length : Int) < (l.length : Int) := by
        have h1 : ¬ (seenM l).length = l.length := fun x => hn (g3.2 x)
        omega
      simp [e]
      refine ⟨by simp [rightP, hn], hWE.trans hE2⟩
theorem right_c {w : World} (back : Bool) (a : Option Addr) (n c : Nat) : FN Tryz.prog 22 [ptV back (.slice a n c)] w fun e w' => ∃ b, e = .returned (.agg #[.func (.func 44) #[] #[ptr b], i64 2]) ∧ PtAt w' b back (.slice a n c) ∧ Ext w w' := by
  refine FN_enter Tryz.func22 rfl rfl (by kernel_rfl) ?_
  simp
  exact ⟨(PtAt.new w _ _ _).ext ((Ext.refl _).alloc _), ((Ext.refl w).alloc _).alloc _⟩
theorem check_c {w : World} {v : Value} {l : List Cr} (h : CSl w v l) (back : Bool) (hb : l.length ≤ 9223372036854775807) : FN Tryz.prog 27 [ptV back v] w fun e w' => e = .returned (i64 (if rightP l then 0 else 2)) ∧ Ext w w' := by
  refine FN_enter Tryz.func27 rfl rfl (by kernel_rfl) ?_
  obtain ⟨va, vc, rfl⟩ := h.isSlice
  simp
  have hE1 := (Ext.refl w).alloc (.cells #[.bool back, .slice va l.length vc] 24)
  generalize (w.alloc (.cells #[.bool back, .slice va l.length vc] 24)) = w1 at *
  refine FN.mono (right_c back va l.length vc) ?_
  rintro _ w2 ⟨rb, rfl, hp, hE2⟩
  simp
  let qs : List Qn := [⟨.func (.func 44) #[] #[ptr rb], 2, !rightP l⟩]
  have hsl := Sl.made w2 (askCells qs) 65 2 1 rfl
  refine asked_go (w0 := w2) qs hsl (by simp [qs]) ?_ ((Ext.refl w2).alloc _) ?_ ?_
  · intro q hq
    simp [qs] at hq
    subst hq
    exact ⟨_, _, _, rfl⟩
  · intro i q hq hno w' hw'
    match i, hq with
    | 0, hq =>
      simp [qs] at hq; subst hq
      exact rightF_c (hp.ext hw') (SlB.ext h ((hE1.trans hE2).trans hw')) hb
    | i + 1, hq => simp [qs] at hq
  · intro w3 hw3
    simp
    refine ⟨?_, (hE1.trans hE2).trans hw3⟩
    simp [qs, askE]
    cases rightP l <;> simp
theorem has_c {w : World} {v : Value} {l : List Cr} (h : CSl w v l) (back : Bool) (x : Cr) (hb : l.length ≤ 9223372036854775807) : FN Tryz.prog 25 [ptV back v, crV x] w fun e w' => e = .returned (.bool (decide (x ∈ l))) ∧ Ext w w' := by
  refine FN_enter Tryz.func25 rfl rfl (by kernel_rfl) ?_
  obtain ⟨va, vc, rfl⟩ := h.isSlice
  simp
  have hE1 := ((Ext.refl w).alloc (.cells #[.bool back, .slice va l.length vc] 24)).alloc (.cells #[u32 x.1, .bool x.2] 37)
  refine FN.mono (contains_c (SlB.ext h hE1) x hb) ?_
  rintro _ w2 ⟨rfl, hE2⟩
  simp
  exact hE1.trans hE2
def withE (l : List Cr) (x : Cr) : Int := if !rightP l then 2 else if x.1 = 0 then 2 else if x ∈ l then 150 else if l.length = 64 then 151 else 0
end Go.Proofs
namespace Go.Proofs
open Pk
set_option maxRecDepth 10000
structure CrBx (W : World) (b : Nat) (c : Cr) : Prop where
  c0 : W.cell? ⟨b, 0, none⟩ = some (u32 c.1)
  c1 : W.cell? ⟨b, 1, none⟩ = some (.bool c.2)
theorem CrBx.new (W : World) (c : Cr) (ty : TypeId) : CrBx (W.alloc (.cells #[u32 c.1, .bool c.2] ty)) W.heap.size c := ⟨by simp, by simp⟩
theorem CrBx.ext {W W' : World} {b : Nat} {c : Cr} (h : CrBx W b c) (hE : Ext W W') : CrBx W' b c := ⟨hE.cell_eq h.c0, hE.cell_eq h.c1⟩
theorem with1_c {w : World} {b : Nat} {x : Cr} (h : CrBx w b x) : FN Tryz.prog 23 [ptr b] w fun e w' => e = .returned (.bool (decide (x.1 = 0))) ∧ Ext w w' := by
  refine FN_enter Tryz.func23 rfl rfl (by kernel_rfl) ?_
  simp [h.c0]
  exact Ext.refl w
theorem with2_c {w : World} {b0 b : Nat} {back : Bool} {v : Value} {l : List Cr} {x : Cr} (h0 : PtAt w b0 back v) (hs : CSl w v l) (h : CrBx w b x) (hb : l.length ≤ 9223372036854775807) : FN Tryz.prog 24 [ptr b0, ptr b] w fun e w' => e = .returned (.bool (decide (x ∈ l))) ∧ Ext w w' := by
  refine FN_enter Tryz.func24 rfl rfl (by kernel_rfl) ?_
  simp [h0.c0, h0.c1, h.c0, h.c1]
  refine FN.mono (has_c hs back x hb) ?_
  rintro _ w2 ⟨rfl, hE2⟩
  simp
  exact hE2
theorem with3_c {w : World} {b0 : Nat} {back : Bool} {v : Value} {l : List Cr} (h0 : PtAt w b0 back v) (hs : CSl w v l) : FN Tryz.prog 26 [ptr b0] w fun e w' => e = .returned (.bool (decide (l.length = 64))) ∧ Ext w w' := by
  refine FN_enter Tryz.func26 rfl rfl (by kernel_rfl) ?_
  have hlen := fun ty W => hs.isLen (P := Tryz.prog) (t := 22) (by simp) ty W
  simp [h0.c1, hlen]
  refine ⟨?_, Ext.refl w⟩
  constructor <;> intro h <;> omega
theorem crone (l : List Cr) : ∀ u ∈ l.flatMap crC, u.oneCell' = true := by
  intro u hu
  obtain ⟨c, -, hc⟩ := List.mem_flatMap.1 hu
  simp [crC] at hc
  rcases hc with rfl | rfl <;> rfl
set_option maxHeartbeats 1000000 in
theorem with_c {w : World} {v : Value} {l : List Cr} (h : CSl w v l) (back : Bool) (x : Cr) (hb : l.length ≤ 1000000) :
    FN Tryz.prog 9 [ptV back v, crV x] w fun e w' => ∃ v', e = .returned (.tuple #[ptV (decide (withE l x = 0) && back) v', i64 (withE l x)]) ∧ Ext w w' ∧
      (withE l x ≠ 0 → v' = .slice none 0 0) ∧ (withE l x = 0 → CSl w' v' (l ++ [x]) ∧ ∃ g cap cur, v' = .slice (some ⟨g, 0, none⟩) (l.length + 1) cap ∧ w.heap.size ≤ g ∧ w'.heap[g]? = some (.cells cur 37 (0, 0))) := by
  refine FN_enter Tryz.func9 rfl rfl (by kernel_rfl) ?_
  obtain ⟨va, vc, rfl⟩ := h.isSlice
  simp
  have hE1 : Ext w (((w.alloc (.cells #[.bool back, .slice va l.length vc] 24)).alloc (.cells #[u32 x.1, .bool x.2] 37)).alloc (.cells #[.bool false, .slice none 0 0] 24)) := (((Ext.refl w).alloc _).alloc _).alloc _
  have p0 : PtAt (((w.alloc (.cells #[.bool back, .slice va l.length vc] 24)).alloc (.cells #[u32 x.1, .bool x.2] 37)).alloc (.cells #[.bool false, .slice none 0 0] 24)) w.heap.size back (.slice va l.length vc) := (PtAt.new w _ _ _).ext (((Ext.refl _).alloc _).alloc _)
  have x1 : CrBx (((w.alloc (.cells #[.bool back, .slice va l.length vc] 24)).alloc (.cells #[u32 x.1, .bool x.2] 37)).alloc (.cells #[.bool false, .slice none 0 0] 24)) (w.heap.size + 1) x := by
    have := (CrBx.new (w.alloc (.cells #[.bool back, .slice va l.length vc] 24)) x 37).ext ((Ext.refl _).alloc (.cells #[.bool false, .slice none 0 0] 24))
    simpa using this
  have p2 : PtAt (((w.alloc (.cells #[.bool back, .slice va l.length vc] 24)).alloc (.cells #[u32 x.1, .bool x.2] 37)).alloc (.cells #[.bool false, .slice none 0 0] 24)) (w.heap.size + 1 + 1) false (.slice none 0 0) := by
    have := PtAt.new ((w.alloc (.cells #[.bool back, .slice va l.length vc] 24)).alloc (.cells #[u32 x.1, .bool x.2] 37)) false (.slice none 0 0) 24
    simpa using this
  have z1 : (((w.alloc (.cells #[.bool back, .slice va l.length vc] 24)).alloc (.cells #[u32 x.1, .bool x.2] 37)).alloc (.cells #[.bool false, .slice none 0 0] 24)).heap.size = w.heap.size + 1 + 1 + 1 := by simp
  generalize (((w.alloc (.cells #[.bool back, .slice va l.length vc] 24)).alloc (.cells #[u32 x.1, .bool x.2] 37)).alloc (.cells #[.bool false, .slice none 0 0] 24)) = w1 at *
  refine FN.mono (right_c back va l.length vc) ?_
  rintro _ w2 ⟨rb, rfl, hp, hE2⟩
  simp
  let qs : List Qn := [⟨.func (.func 44) #[] #[ptr rb], 2, !rightP l⟩, ⟨.func (.func 23) #[] #[ptr (w.heap.size + 1)], 2, decide (x.1 = 0)⟩, ⟨.func (.func 24) #[] #[ptr w.heap.size, ptr (w.heap.size + 1)], 150, decide (x ∈ l)⟩, ⟨.func (.func 26) #[] #[ptr w.heap.size], 151, decide (l.length = 64)⟩]
  have hsl := Sl.made w2 (askCells qs) 65 2 4 rfl
  have hq : askE qs = withE l x := by
    simp [qs, askE, withE]
  refine asked_go (w0 := w2) qs hsl (by simp [qs]) ?_ ((Ext.refl w2).alloc _) ?_ ?_
  · intro q hq
    simp [qs] at hq
    rcases hq with rfl | rfl | rfl | rfl <;> exact ⟨_, _, _, rfl⟩
  · intro i q hq hno w' hw'
    have hX := hE2.trans hw'
    have hs' := SlB.ext h (hE1.trans hX)
    match i, hq with
    | 0, hq =>
      simp [qs] at hq; subst hq
      exact rightF_c (hp.ext hw') hs' (by omega)
    | 1, hq =>
      simp [qs] at hq; subst hq
      exact with1_c (x1.ext hX)
    | 2, hq =>
      simp [qs] at hq; subst hq
      exact with2_c (p0.ext hX) hs' (x1.ext hX) (by omega)
    | 3, hq =>
      simp [qs] at hq; subst hq
      exact with3_c (p0.ext hX) hs'
    | i + 4, hq => simp [qs] at hq
  · intro w3 hw3
    rw [hq]
    have hX := hE2.trans hw3
    have q0 := p0.ext hX
    have q1 := x1.ext hX
    have q2 := p2.ext hX
    have hEx := hE1.trans hX
    by_cases h0 : withE l x = 0
    · simp [h0]
      refine WC_drawC 11 (.F 0 <| .F 1 <| .F 2 <| .F 3 <| .F 4 <| .F 5 <| .F 6 <| .F 7 <| .F 8 <| .F 9 <| .C 10 <| .Z) (fun _ => false) rfl (by kernel_rfl) fun W hW => ?_
      have hWE : Ext w3 W := hW ▸ Ext.drew _
      have r0 := q0.ext hWE
      have r1 := q1.ext hWE
      have r2 := q2.ext hWE
      have h4 := SlB.ext h (hEx.trans hWE)
      have hlen := fun ty W => h4.isLen (P := Tryz.prog) (t := 22) (by simp) ty W
      obtain ⟨aa, shm, hsa⟩ := h4.sliceAll (P := Tryz.prog) (t := 22) (by simp) .i64 .i64 W
      simp at shm
      simp [r0.c1, hlen, shm, r1.c0, r1.c1]
      have hE5 : Ext W (W.alloc (.cells #[u32 x.1, .bool x.2] 37)) := (Ext.refl W).alloc _
      refine KR_ext hE5 ?_
      have hone : Sl (W.alloc (.cells #[u32 x.1, .bool x.2] 37)) 2 (.slice (some ⟨W.heap.size, 0, none⟩) 1 1) 1 (crC x) := Sl.made W (crC x) 37 2 1 rfl
      have r0' := r0.ext hE5
      have r2' := r2.ext hE5
      have h5 := hsa.ext hE5
      have hs5 := hE5.size
      have hsW := hWE.size
      have hs3 := hX.size
      generalize (W.alloc (.cells #[u32 x.1, .bool x.2] 37)) = W5 at *
      obtain ⟨cap, cur, W6, hr6, hs6, hE6, ho6, hz6⟩ := append_freshB (P := Tryz.prog) (t := 22) (ty := 22) (e := 37) (s := 2) (by simp) (by simp) (by kernel_rfl) h5 hone (fun u hu => crone [x] u (by simpa using hu)) (by omega) (by omega)
      have r06 := r0'.ext hE6
      have r26 := r2'.ext hE6
      simp [hr6, r06.c0, r06.c1, r06.f1, r26.c0, r26.c1, r26.f0, r26.f1, cell_setCell]
      have hE06 := (hEx.trans hWE).trans (hE5.trans hE6)
      have hMf : Mod (fun k => w.heap.size ≤ k ∧ k < W5.heap.size) W6 (((W6.setCell ⟨w.heap.size, 1, none⟩ (.slice (some ⟨W5.heap.size, 0, none⟩) (l.length + 1) cap)).setCell ⟨w.heap.size + 1 + 1, 0, none⟩ (.bool back)).setCell ⟨w.heap.size + 1 + 1, 1, none⟩ (.slice (some ⟨W5.heap.size, 0, none⟩) (l.length + 1) cap)) :=
        (((Mod.refl _ W6).setCell _ _ (.inl ⟨by simp only; omega, by simp only; omega⟩)).setCell _ _ (.inl ⟨by simp only; omega, by simp only; omega⟩)).setCell _ _ (.inl ⟨by simp only; omega, by simp only; omega⟩)
      refine ⟨((hE06.mod (S := fun k => w.heap.size ≤ k)).trans (hMf.weaken fun k hk => hk.1)).ext fun _ h => h, ?_, by omega, cur, ?_⟩
      · have := (Sl.mod hs6 hMf (by simp [slB])).toB
        show SlB _ 2 _ _ _
        simpa using this
      · rw [hMf.blk _ (by omega) (by omega)]
        exact ho6
    · simp [h0, q2.c0, q2.c1, q2.f0, q2.f1, cell_setCell]
      exact (hEx.setCell _ _ (by simp only; omega)).setCell _ _ (by simp only; omega)
end Go.Proofs
namespace Go.Proofs
open Pk
set_option maxRecDepth 10000
def boolI (u : Bool) : It := .mk 5 (if u then 1 else 0) [] ⟨#[]⟩ []
def uintI (n : Int) : It := .mk 1 n [] ⟨#[]⟩ []
def listI (l : List It) : It := .mk 4 0 [] ⟨#[]⟩ l
def crI (c : Cr) : It := listI [uintI c.1, boolI c.2]
def ptI (back : Bool) (l : List Cr) : It := listI (boolI back :: l.map crI)
abbrev leafC (k n : Int) : List Value := [i64 k, u64 n, .slice none 0 0, .string ⟨#[]⟩, .slice none 0 0]
theorem leaf_it {Pd : Nat → Prop} {W : World} (k n : Int) : ItP Pd W (.mk k n [] ⟨#[]⟩ []) (leafC k n) :=
  itP_mk.2 ⟨_, _, [], rfl, SlB.nil W 1 0, SlB.nil W 5 0, fun h => (h rfl).elim, fun h => (h rfl).elim, itPs_nil, by simp, by simp⟩
theorem list_it {Pd : Nat → Prop} {W : World} {l : List It} {css : List (List Value)} {lv : Value} (h : SlB W 5 lv l.length css.flatten) (hc : ItPs Pd W l css) (hp : l ≠ [] → Pd (slB lv)) (hl : l.length ≤ 9223372036854775807) :
    ItP Pd W (listI l) [i64 4, u64 0, .slice none 0 0, .string ⟨#[]⟩, lv] :=
  itP_mk.2 ⟨_, _, css, rfl, SlB.nil W 1 0, h, fun h => (h rfl).elim, hp, hc, by simp, hl⟩
theorem truth_c (u : Bool) (w : World) : FN Tryz.prog 30 [.bool u] w fun e w' => e = .returned (.agg #[i64 5, u64 (if u then 1 else 0), .slice none 0 0, .string ⟨#[]⟩, .slice none 0 0]) ∧ Ext w w' := by
  refine FN_enter Tryz.func30 rfl rfl (by kernel_rfl) ?_
  cases u with
  | true =>
    simp
    exact ((Ext.refl w).alloc _).alloc _
  | false =>
    simp
    exact ((Ext.refl w).alloc _).alloc _
theorem mod5 (W : World) (b : Nat) (v0 v1 v2 v3 v4 : Value) : Mod (fun k => k = b) W (((((W.setCell ⟨b, 0, none⟩ v0).setCell ⟨b, 1, none⟩ v1).setCell ⟨b, 2, none⟩ v2).setCell ⟨b, 3, none⟩ v3).setCell ⟨b, 4, none⟩ v4) :=
  (((((Mod.refl _ W).setC 0 v0).setC 1 v1).setC 2 v2).setC 3 v3).setC 4 v4
theorem item1_c (x : Cr) (hx : 0 ≤ x.1 ∧ x.1 < 4294967296) (w : World) : FN Tryz.prog 29 [crV x] w fun e w' => ∃ g, e = .returned (.agg #[i64 4, u64 0, .slice none 0 0, .string ⟨#[]⟩, .slice (some ⟨g, 0, none⟩) 2 2]) ∧ w.heap.size ≤ g ∧ Sl w' 5 (.slice (some ⟨g, 0, none⟩) 2 2) 2 ([leafC 1 x.1, leafC 5 (if x.2 then 1 else 0)].flatten) ∧ Ext w w' := by
  refine FN_enter Tryz.func29 rfl rfl (by kernel_rfl) ?_
  have q1 : IntKind.u64.wrap x.1 = x.1 := by simp [IntKind.wrap, IntKind.signed, IntKind.bits]; omega
  simp
  have hE1 : Ext w ((w.alloc (.cells #[u32 x.1, .bool x.2] 37)).alloc (.cells #[i64 0, u64 0, .slice none 0 0, .string ⟨#[]⟩, .slice none 0 0] 46)) := ((Ext.refl w).alloc _).alloc _
  have x1 : CrBx ((w.alloc (.cells #[u32 x.1, .bool x.2] 37)).alloc (.cells #[i64 0, u64 0, .slice none 0 0, .string ⟨#[]⟩, .slice none 0 0] 46)) w.heap.size x := (CrBx.new w x 37).ext ((Ext.refl _).alloc _)
  have b1 : ItBx ((w.alloc (.cells #[u32 x.1, .bool x.2] 37)).alloc (.cells #[i64 0, u64 0, .slice none 0 0, .string ⟨#[]⟩, .slice none 0 0] 46)) (w.heap.size + 1) 0 0 (.slice none 0 0) ⟨#[]⟩ (.slice none 0 0) := by
    have := ItBx.new (w.alloc (.cells #[u32 x.1, .bool x.2] 37)) 0 0 (.slice none 0 0) ⟨#[]⟩ (.slice none 0 0) 46
    simpa using this
  generalize ((w.alloc (.cells #[u32 x.1, .bool x.2] 37)).alloc (.cells #[i64 0, u64 0, .slice none 0 0, .string ⟨#[]⟩, .slice none 0 0] 46)) = w1 at *
  refine WC_drawC 7 (.F 0 <| .F 1 <| .F 2 <| .F 3 <| .F 4 <| .F 5 <| .C 6 <| .Z) (fun _ => false) rfl (by kernel_rfl) fun W hW => ?_
  have hWE : Ext w1 W := hW ▸ Ext.drew _
  have x2 := x1.ext hWE
  simp [x2.c0, x2.c1, q1]
  refine FN.mono (truth_c x.2 W) ?_
  rintro _ w2 ⟨rfl, hE2⟩
  simp
  refine KR_ext hE2 ?_
  have b2 := b1.ext (hWE.trans hE2)
  simp [b2.c0, b2.c1, b2.c2, b2.c3, b2.c4, b2.fz, cell_setCell]
  have hEw := hE1.trans (hWE.trans hE2)
  have hs2 := hEw.size
  have hs3 := (hWE.trans hE2).size
  have hb1 := b1.lt
  have hsl : Sl (w2.alloc (.cells ([leafC 1 x.1, leafC 5 (if x.2 then 1 else 0)].flatten).toArray 46)) 5 (.slice (some ⟨w2.heap.size, 0, none⟩) 2 2) 2 ([leafC 1 x.1, leafC 5 (if x.2 then 1 else 0)].flatten) := Sl.made w2 _ 46 5 2 rfl
  have hE3 : Ext w2 (w2.alloc (.cells ([leafC 1 x.1, leafC 5 (if x.2 then 1 else 0)].flatten).toArray 46)) := (Ext.refl w2).alloc _
  simp at hsl hE3
  refine ⟨hs2, ?_, ?_⟩
  · exact Sl.mod hsl (mod5 _ _ _ _ _ _ _) (by simp [slB]; omega)
  · exact (((hEw.trans hE3).mod (S := fun k => w.heap.size ≤ k)).trans ((mod5 _ (w.heap.size + 1) _ _ _ _ _).weaken fun k hk => by omega)).ext fun _ h => h
theorem ione {cs : List Value} (h : cs.all (·.oneCell') = true) : ∀ u ∈ cs, u.oneCell' = true := fun u hu => List.all_eq_true.1 h u hu
set_option maxHeartbeats 1000000 in
theorem made_c {w : World} {v : Value} {l : List Cr} (h : CSl w v l) (hok : ∀ c ∈ l, 0 ≤ c.1 ∧ c.1 < 4294967296) (hb : l.length ≤ 1000000) :
    FN Tryz.prog 28 [v, .func (.func 29) #[] #[]] w fun e w' => ∃ v' css, e = .returned v' ∧ w'.ownsRow w.heap.size 46 5 v' l.length css.flatten ∧ ItPs (fun k => w.heap.size ≤ k ∧ (slN v' = false → k ≠ slB v')) w' (l.map crI) css ∧ (∀ u ∈ css.flatten, u.oneCell' = true) ∧ Ext w w' := by
  refine FN_enter Tryz.func28 rfl rfl (by kernel_rfl) ?_
  have hlen := fun ty W => h.isLen (P := Tryz.prog) (t := 22) (by simp) ty W
  simp [hlen]
  refine WC_loop (fun k ρ ds w' => ∃ (i : Nat) (u : Value) (css : List (List Value)), k = l.length - i ∧ i ≤ l.length ∧ ρ 1 = .func (.func 29) #[] #[] ∧ ρ 4 = u ∧ ρ 7 = v ∧ ρ 8 = i64 l.length ∧ ρ 9 = i64 i ∧ ds = [] ∧ Ext w w' ∧ w'.ownsRow w.heap.size 46 5 u i css.flatten ∧
    ItPs (fun k => w.heap.size ≤ k ∧ (slN u = false → k ≠ slB u)) w' ((l.take i).map crI) css ∧ ∀ u ∈ css.flatten, u.oneCell' = true) l.length
    ⟨0, .slice none 0 0, [], by simp, by simp, by simp, by simp, by simp, by simp, by simp, rfl, Ext.refl _, World.ownsRow_nil _ _ _ _, itPs_nil, by simp⟩ ?_
  rintro k ρ ds w1 ⟨i, u, css, rfl, hi, e1, e4, e7, e8, e9, rfl, hE, ho, hI, hone⟩
  by_cases hlt : i < l.length
  · have hq := List.getElem?_eq_getElem hlt
    have r := CSl.row (SlB.ext h hE) hq
    have ix := CSl.index h i hlt w1
    simp [e1, e4, e7, e8, e9, hlt, ix, r.c0, r.c1]
    have hE2 : Ext w1 (w1.alloc (.cells #[u32 l[i].1, .bool l[i].2] 37)) := (Ext.refl w1).alloc _
    generalize (w1.alloc (.cells #[u32 l[i].1, .bool l[i].2] 37)) = w2 at *
    refine FN.mono (item1_c l[i] (hok _ (List.getElem_mem hlt)) w2) ?_
    rintro _ w3 ⟨g, rfl, hg, hsl, hE3⟩
    simp
    obtain ⟨cs, hcs⟩ : ∃ cs : List Value, cs = [i64 4, u64 0, .slice none 0 0, .string ⟨#[]⟩, .slice (some ⟨g, 0, none⟩) 2 2] := ⟨_, rfl⟩
    have hE4 : Ext w3 (w3.alloc (.cells cs.toArray 46)) := (Ext.refl w3).alloc _
    have h1 : Sl (w3.alloc (.cells cs.toArray 46)) 5 (.slice (some ⟨w3.heap.size, 0, none⟩) 1 1) 1 cs := Sl.made w3 cs 46 5 1 (by rw [hcs]; rfl)
    have s0 := hE.size
    have s2 := hE2.size
    have s3 := hE3.size
    have s4 := hE4.size
    have ho4 := own_ext ho (hE2.trans (hE3.trans hE4))
    have hc1 : ∀ u ∈ cs, u.oneCell' = true := ione (by rw [hcs]; rfl)
    obtain ⟨v', w5, hr, ho5, hM5, hnew⟩ := append_own (P := Tryz.prog) (t := 44) (ty := 44) (e := 46) (s := 5) (by simp) (by simp) (by kernel_rfl) ho4 h1 hc1 (by omega) (by omega)
    rw [hcs] at hr
    simp [hr, e1, e7, e8, e9]
    have hM15 : Mod (fun k => slN u = false ∧ k = slB u) w1 w5 := (hE2.trans (hE3.trans hE4)).mod.trans hM5
    have hul : slN u = false → slB u < w1.heap.size := fun hn => by
      obtain ⟨c, hc⟩ := own_obj ho hn
      exact (Array.getElem?_eq_some_iff.1 hc).1
    have hgl := hsl.lt (by simp)
    have hgl : g < w3.heap.size := hgl
    have hfl : (css ++ [cs]).flatten = css.flatten ++ cs := by simp
    refine ⟨l.length - (i + 1), by omega, i + 1, rfl, by omega, by rw [wrap64 _ (by omega) (by omega)]; rfl, ?_, css ++ [cs], ?_, ?_, ?_⟩
    · exact ((hE.mod (S := fun k => w.heap.size ≤ k)).trans (hM15.weaken fun k hk => by have := own_ge ho hk.1; omega)).ext fun _ h => h
    · rw [hfl]; exact ho5
    · have htk : (l.map crI).take (i + 1) = (l.take i).map crI ++ [crI l[i]] := by rw [List.take_add_one, List.getElem?_map, hq]; simp
      rw [htk]
      have hold : ItPs (fun k => w.heap.size ≤ k ∧ (slN v' = false → k ≠ slB v')) w5 ((l.take i).map crI) css := hI.go hM15 fun k hk hp => ⟨⟨hp.1, fun hn e => by
        rcases hnew hn with ⟨a1, a2⟩ | a
        · exact hp.2 a1 (by omega)
        · omega⟩, fun e => hp.2 e.1 e.2⟩
      refine ItPs.snoc hold ?_
      · rw [hcs]
        refine list_it (css := [leafC 1 l[i].1, leafC 5 (if l[i].2 then 1 else 0)]) (Sl.mod (Sl.ext hsl hE4) hM5 (fun e => by have := hul e.1; have e2 : g = slB u := e.2; omega)).toB (ItPs.cons (ItPs.cons itPs_nil (leaf_it 5 _)) (leaf_it 1 _)) (fun _ => ?_) (by simp)
        refine ⟨show w.heap.size ≤ g by omega, fun hn e => ?_⟩
        have e2 : g = slB v' := e
        rcases hnew hn with ⟨a1, a2⟩ | a
        · have := hul a1; omega
        · omega
    · intro u' a ha hu
      rcases List.mem_append.1 ha with ha | ha
      · exact hone u' (List.mem_flatten.2 ⟨a, ha, hu⟩)
      · simp at ha; subst ha; exact hc1 u' hu
  · have : i = l.length := by omega
    subst this
    simp [e4, e8, e9]
    rw [List.take_length] at hI
    exact ⟨css, ho, hI, fun u a ha hu => hone u (List.mem_flatten.2 ⟨a, ha, hu⟩), hE⟩
set_option maxHeartbeats 1000000 in
theorem item_c {w : World} {v : Value} {l : List Cr} (h : CSl w v l) (back : Bool) (hok : ∀ c ∈ l, 0 ≤ c.1 ∧ c.1 < 4294967296) (hb : l.length ≤ 1000000) :
    FN Tryz.prog 10 [ptV back v] w fun e w' => ∃ cs, e = .returned (.tuple #[.agg cs.toArray, i64 (if rightP l then 0 else 2)]) ∧ ItP (fun k => w.heap.size ≤ k) w' (if rightP l then ptI back l else .mk 0 0 [] ⟨#[]⟩ []) cs ∧ Ext w w' := by
  refine FN_enter Tryz.func10 rfl rfl (by kernel_rfl) ?_
  obtain ⟨va, vc, rfl⟩ := h.isSlice
  simp
  have hE1 : Ext w ((w.alloc (.cells #[.bool back, .slice va l.length vc] 24)).alloc (.cells #[i64 0, u64 0, .slice none 0 0, .string ⟨#[]⟩, .slice none 0 0] 46)) := ((Ext.refl w).alloc _).alloc _
  have p0 : PtAt ((w.alloc (.cells #[.bool back, .slice va l.length vc] 24)).alloc (.cells #[i64 0, u64 0, .slice none 0 0, .string ⟨#[]⟩, .slice none 0 0] 46)) w.heap.size back (.slice va l.length vc) := (PtAt.new w _ _ _).ext ((Ext.refl _).alloc _)
  have b1 : ItBx ((w.alloc (.cells #[.bool back, .slice va l.length vc] 24)).alloc (.cells #[i64 0, u64 0, .slice none 0 0, .string ⟨#[]⟩, .slice none 0 0] 46)) (w.heap.size + 1) 0 0 (.slice none 0 0) ⟨#[]⟩ (.slice none 0 0) := by
    have := ItBx.new (w.alloc (.cells #[.bool back, .slice va l.length vc] 24)) 0 0 (.slice none 0 0) ⟨#[]⟩ (.slice none 0 0) 46
    simpa using this
  generalize ((w.alloc (.cells #[.bool back, .slice va l.length vc] 24)).alloc (.cells #[i64 0, u64 0, .slice none 0 0, .string ⟨#[]⟩, .slice none 0 0] 46)) = w1 at *
  refine FN.mono (check_c (SlB.ext h hE1) back (by omega)) ?_
  rintro _ w2 ⟨rfl, hE2⟩
  have hE12 := hE1.trans hE2
  have p2 := p0.ext hE2
  have b2 := b1.ext hE2
  cases hr : rightP l with
  | false =>
    simp [b2.c0, b2.c1, b2.c2, b2.c3, b2.c4, b2.fz, cell_setCell]
    have hz := b2.lt
    refine ⟨leaf_it 0 0, ?_⟩
    exact ((hE12.mod (S := fun k => w.heap.size ≤ k)).trans ((mod5 _ (w.heap.size + 1) _ _ _ _ _).weaken fun k hk => by omega)).ext fun _ h => h
  | true =>
    simp [p2.c1]
    refine FN.mono (made_c (SlB.ext h hE12) hok hb) ?_
    rintro _ w3 ⟨u, css, rfl, ho, hI, hone, hE3⟩
    have p3 := p2.ext hE3
    simp [p3.c0]
    refine FN.mono (truth_c back w3) ?_
    rintro _ w4 ⟨rfl, hE4⟩
    simp
    have hE5 : Ext w4 (w4.alloc (.cells (leafC 5 (if back then 1 else 0)).toArray 46)) := (Ext.refl w4).alloc _
    have o5 : (w4.alloc (.cells (leafC 5 (if back then 1 else 0)).toArray 46)).ownsRow w4.heap.size 46 5 (.slice (some ⟨w4.heap.size, 0, none⟩) 1 1) 1 (leafC 5 (if back then 1 else 0)) :=
      ⟨rfl, .inr ⟨w4.heap.size, 1, (leafC 5 (if back then 1 else 0)).toArray, rfl, Nat.le_refl _, World.alloc_heap_new w4 _, Nat.le_refl _, by decide, rfl, rfl⟩⟩
    have s12 := hE12.size
    have s3 := hE3.size
    have s4 := hE4.size
    have s5 := hE5.size
    have hu5 := sl_of_own (own_ext ho (hE4.trans hE5))
    obtain ⟨v', w6, hr6, ho6, hM6, hnew⟩ := append_own (P := Tryz.prog) (t := 44) (ty := 44) (e := 46) (s := 5) (by simp) (by simp) (by kernel_rfl) o5 hu5 hone (by omega) s5
    obtain ⟨a6, c6, hv6⟩ := own_val ho6
    subst hv6
    have b6 := (b2.ext (hE3.trans (hE4.trans hE5))).mod hM6 (by simp [slN, slB]; have := b2.lt; omega)
    simp [hr6, b6.c0, b6.c1, b6.c2, b6.c3, b6.c4, b6.fz, cell_setCell]
    have hb2 := b2.lt
    have m7 := mod5 w6 (w.heap.size + 1) (i64 4) (u64 0) (.slice none 0 0) (.string ⟨#[]⟩) (.slice a6 (1 + l.length) c6)
    generalize (((((w6.setCell ⟨w.heap.size + 1, 0, none⟩ (i64 4)).setCell ⟨w.heap.size + 1, 1, none⟩ (u64 0)).setCell ⟨w.heap.size + 1, 2, none⟩ (.slice none 0 0)).setCell ⟨w.heap.size + 1, 3, none⟩ (.string ⟨#[]⟩)).setCell ⟨w.heap.size + 1, 4, none⟩ (.slice a6 (1 + l.length) c6)) = w7 at *
    have hM6' : Mod (fun k => k = w4.heap.size) (w4.alloc (.cells (leafC 5 (if back then 1 else 0)).toArray 46)) w6 := hM6.weaken fun k hk => hk.2
    have hM37 : Mod (fun k => k = w4.heap.size ∨ k = w.heap.size + 1) w3 w7 := ((hE4.trans hE5).mod.trans (hM6'.weaken fun k hk => .inl hk)).trans (m7.weaken fun k hk => .inr hk)
    have hrow := sl_of_own (own_keep ho6 fun hn hl => m7.blk _ hl (by have := own_ge ho6 hn; omega))
    refine ⟨?_, ?_⟩
    · refine list_it (l := boolI back :: l.map crI) (css := leafC 5 (if back then 1 else 0) :: css) ?_ (ItPs.cons (hI.go hM37 fun k hk hp => ⟨by omega, by omega⟩) (leaf_it 5 _)) (fun _ => ?_) (by simp; omega)
      · have e : (boolI back :: l.map crI).length = 1 + l.length := by simp; omega
        rw [e]
        exact hrow.toB
      · have := own_ge ho6 (own_nil ho6 (by omega))
        omega
    · exact (((hE12.trans hE3).mod (S := fun k => w.heap.size ≤ k)).trans (hM37.weaken fun k hk => by omega)).ext fun _ h => h
end Go.Proofs
