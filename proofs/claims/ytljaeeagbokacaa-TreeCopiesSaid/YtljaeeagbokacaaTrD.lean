/-
  Contracts of the functions that the law reaches, step by step.
-/
import Derived.Test.YtljaeeagbokacaaTrC
namespace Go.Proofs
open Pk
set_option maxRecDepth 10000
def placeOf (l : List Int) (x : Int) : Nat := l.findIdx (fun y => decide (y = x))
/-- The way: up, then down. -/
def wayL (l l' : List Int) : Option (List Int) :=
  match l.findIdx? (fun x => decide (x ∈ l')) with
  | none => none
  | some i => some (l.take (i + 1) ++ (l'.take (placeOf l' (l.getD i 0))).reverse)
theorem way1_c {w : World} {b : Nat} {v : Value} {xs : List Int} (hv : Var w b v) (h : Sl w 1 v xs.length (xs.map u32)) (x : Int) (hb : xs.length ≤ 1048576) : FN Try.prog 56 [u32 x, ptr b] w fun e w' => e = .returned (.bool (decide (x ∈ xs))) ∧ w' = w := by
  refine FN_enter Try.func56 rfl rfl (by kernel_rfl) ?_
  simp [hv.cell]
  refine FN.mono (contains_c h x hb) ?_
  rintro _ _ ⟨rfl, rfl⟩
  simp
theorem way_c {w : World} {t r : Nat} {m : ML} {x y : Int} {l l' : List Int} (ht : TreeAt w t r m) (hl : Lin m x l) (hl' : Lin m y l') (hlen : m.length ≤ 1000) :
    FN Try.prog 33 [ptr t, .agg #[u32 x, u32 y]] w fun e w' => ∃ v, e = .returned v ∧ Ext w w' ∧ (match wayL l l' with | none => v = .slice none 0 0 | some ws => Sl w' 1 v ws.length (ws.map u32) ∧ slN v = false) := by
  refine FN_enter Try.func33 rfl rfl (by kernel_rfl) ?_
  simp
  have he : Ext w (w.alloc (.cells #[u32 x, u32 y] 29)) := (Ext.refl w).alloc _
  have d1 : (w.alloc (.cells #[u32 x, u32 y] 29)).cell? ⟨w.heap.size, 0, none⟩ = some (u32 x) := by simp
  have d2 : (w.alloc (.cells #[u32 x, u32 y] 29)).cell? ⟨w.heap.size, 1, none⟩ = some (u32 y) := by simp
  generalize (w.alloc (.cells #[u32 x, u32 y] 29)) = w1 at *
  have ht1 := ht.ext he
  refine WC_drawK 11 [[], [], [1], [0, 1, 2], [0, 1, 2, 3], [], [], [6], [0, 1, 2, 3, 4, 5, 6, 7], [0, 1, 2, 3, 4, 5, 6, 7, 8], []]
    [fun u _ => u = ptr t, fun u _ => u = .pointer (some ⟨w.heap.size, 0, none⟩), fun u _ => u = u32 x, fun u W => LineAt m x u W, fun u W => W.ownsRow w1.heap.size 23 1 u l.length (l.map u32),
     fun u _ => u = ptr t, fun u _ => u = .pointer (some ⟨w.heap.size, 1, none⟩), fun u _ => u = u32 y, fun u W => LineAt m y u W, fun u W => W.ownsRow w1.heap.size 23 1 u l'.length (l'.map u32),
     fun u W => ∃ b, u = ptr b ∧ w1.heap.size ≤ b ∧ W.heap[b]? = some (.cells #[.slice none 0 0] 30 (0, 0))] Ext rfl (by kernel_rfl) rfl (w0 := w1) (Ext.drew w1) Ext.refl (fun _ _ _ h k => h.trans k) ?_ ?_
  · intro A hA v a b hv hE
    simp only [List.mem_cons, List.mem_nil_iff, or_false] at hA
    rcases hA with rfl | rfl | rfl | rfl | rfl | rfl | rfl | rfl | rfl | rfl | rfl
    · exact hv
    · exact hv
    · exact hv
    · exact hv.ext hE
    · exact own_ext hv hE
    · exact hv
    · exact hv
    · exact hv
    · exact hv.ext hE
    · exact own_ext hv hE
    · obtain ⟨b, h1, h2, h3⟩ := hv
      exact ⟨b, h1, h2, hE.obj h3⟩
  refine VA_mk (fun W hE hp => ?_) fun u0 => VA_mk (fun W hE hp => ?_) fun u1 => VA_mk (fun W hE hp => ?_) fun u2 => VA_mk (fun W hE hp => ?_) fun u3 => VA_mk (fun W hE hp => ?_) fun u4 => VA_mk (fun W hE hp => ?_) fun u5 => VA_mk (fun W hE hp => ?_) fun u6 =>
    VA_mk (fun W hE hp => ?_) fun u7 => VA_mk (fun W hE hp => ?_) fun u8 => VA_mk (fun W hE hp => ?_) fun u9 => VA_mk (fun W hE hp => ?_) fun u10 => VA_fin fun W hE hp => ?_
  all_goals simp at hp
  · simp [Ext.refl]
  · simp [Ext.refl]
  · subst hp
    simp [hE.cell_eq d1, Ext.refl]
  · obtain ⟨rfl, rfl, rfl⟩ := hp
    simp
    refine FN.mono (line_c (ht1.ext hE) x) ?_
    rintro _ w2 ⟨c1, c2, r', rfl, h1, h2, h3, h4, -⟩
    simp
    exact ⟨h1, c1, c2, r', rfl, h2, h3, h4⟩
  · obtain ⟨-, -, -, hL⟩ := hp
    simp
    refine FN.mono (collectLine_c hL hl hlen) ?_
    rintro _ w2 ⟨v', rfl, h5, h6⟩
    simp
    exact ⟨h6, own_lower h5 hE.size⟩
  · simp [Ext.refl]
  · simp [Ext.refl]
  · subst hp
    simp [hE.cell_eq d2, Ext.refl]
  · obtain ⟨-, -, -, -, -, rfl, rfl, rfl⟩ := hp
    simp
    refine FN.mono (line_c (ht1.ext hE) y) ?_
    rintro _ w2 ⟨c1, c2, r', rfl, h1, h2, h3, h4, -⟩
    simp
    exact ⟨h1, c1, c2, r', rfl, h2, h3, h4⟩
  · obtain ⟨-, -, -, -, -, -, -, -, hL⟩ := hp
    simp
    refine FN.mono (collectLine_c hL hl' hlen) ?_
    rintro _ w2 ⟨v', rfl, h5, h6⟩
    simp
    exact ⟨h6, own_lower h5 hE.size⟩
  · simp
    exact ⟨(Ext.refl _).alloc _, hE.size⟩
  · obtain ⟨-, -, -, -, hup, -, -, -, -, hdn, b, rfl, hb, hobj⟩ := hp
    have hv0 := Var.of_obj hobj
    obtain ⟨a', c', rfl⟩ := own_val hdn
    simp [hv0.cell, hv0.thaw]
    have hM := Mod.setCell (S := (· = b)) (Mod.refl _ W) ⟨b, 0, none⟩ (.slice a' l'.length c') (.inl rfl)
    have vb := hv0.set (.slice a' l'.length c')
    have hkeep : ∀ {v : Value} {n : Nat} {xs : List Value}, W.ownsRow w1.heap.size 23 1 v n xs → (W.setCell ⟨b, 0, none⟩ (.slice a' l'.length c')).ownsRow w1.heap.size 23 1 v n xs ∧ (slN v = false → slB v ≠ b) := by
      intro v n xs ho
      have hne : slN v = false → slB v ≠ b := by
        intro hn e
        obtain ⟨c, hc⟩ := own_obj ho hn
        rw [e, hobj] at hc
        cases hc
      exact ⟨own_keep ho fun hn hl => hM.blk _ hl (hne hn), hne⟩
    have hup2 := (hkeep hup).1
    have hdn2 := (hkeep hdn).1
    have hdb := (hkeep hdn).2
    have hE2 : Ext w1 (W.setCell ⟨b, 0, none⟩ (.slice a' l'.length c')) := hE.setCell _ _ hb
    generalize (W.setCell ⟨b, 0, none⟩ (.slice a' l'.length c')) = W2 at *
    generalize hvd : Value.slice a' l'.length c' = vd at *
    have hlb := hl.bound
    have hlb' := hl'.bound
    refine FN.mono (first_c (fun z => decide (z ∈ l')) (sl_of_own hup2) (fun z w' hw' => FN.mono (way1_c (vb.ext hw') ((sl_of_own hdn2).ext hw') z (by omega)) fun _ _ h => ⟨h.1, h.2 ▸ Ext.refl _⟩) (by omega)) ?_
    rintro _ W3 ⟨rfl, hE3⟩
    have vb3 := vb.ext hE3
    have hup3 := own_ext hup2 hE3
    have hdn3 := own_ext hdn2 hE3
    unfold wayL
    cases hf : l.findIdx? (fun z => decide (z ∈ l')) with
    | none =>
      simp
      exact he.trans (hE2.trans hE3)
    | some i =>
      obtain ⟨hil, hin, hmin⟩ := List.findIdx?_eq_some_iff_getElem.1 hf
      have hin' : l[i] ∈ l' := by simpa using hin
      have hbf : decide ((i : Int) < 0) = false := by simp
      simp [hbf]
      obtain ⟨k, hk⟩ : ∃ k, k = placeOf l' l[i] := ⟨_, rfl⟩
      have hkf : l'.findIdx? (fun z => decide (z = l[i])) = some k := by
        rw [hk, placeOf, List.findIdx?_eq_some_iff_findIdx_eq]
        exact ⟨List.findIdx_lt_length_of_exists ⟨_, hin', by simp⟩, rfl⟩
      have hkl : k < l'.length := (List.findIdx?_eq_some_iff_getElem.1 hkf).1
      refine WC_drawK 7 [[], [], [], [], [2, 3], [2, 3, 4], [1, 2, 3, 4, 5]]
        [fun u _ => u = vd, fun u _ => u = vd, fun u _ => u = u4, fun u _ => u = .int .i64 i, fun u _ => u = .pointer (some (adr u4 i)), fun u _ => u = u32 l[i], fun u _ => u = .int .i64 k] Ext rfl (by kernel_rfl) rfl (w0 := W3) (Ext.drew W3) Ext.refl (fun _ _ _ h k => h.trans k) ?_ ?_
      · intro A hA v a b hv hE
        simp only [List.mem_cons, List.mem_nil_iff, or_false] at hA
        rcases hA with rfl | rfl | rfl | rfl | rfl | rfl | rfl <;> exact hv
      refine VA_mk (fun W hE hp => ?_) fun z0 => VA_mk (fun W hE hp => ?_) fun z1 => VA_mk (fun W hE hp => ?_) fun z2 => VA_mk (fun W hE hp => ?_) fun z3 => VA_mk (fun W hE hp => ?_) fun z4 => VA_mk (fun W hE hp => ?_) fun z5 => VA_mk (fun W hE hp => ?_) fun z6 =>
        VA_fin fun W hE hp => ?_
      all_goals simp at hp
      · simp [(vb3.ext hE).cell, Ext.refl]
      · simp [(vb3.ext hE).cell, Ext.refl]
      · simp [Ext.refl]
      · simp [Ext.refl]
      · obtain ⟨rfl, rfl⟩ := hp
        have i1 := fun W => (sl_of_own hup3).index (P := Try.prog) (t := 30) (by simp) .i64 i (by omega) (by omega) W
        simp [i1, adr, Ext.refl]
      · obtain ⟨-, -, rfl⟩ := hp
        have c1 := ((sl_of_own hup3).ext hE).at_ i (u32 l[i]) (by simp [hil])
        simp [adr, c1, Ext.refl]
      · obtain ⟨rfl, rfl, rfl, rfl, rfl⟩ := hp
        simp
        refine FN.mono (index_c ((sl_of_own hdn3).ext hE) l[i] (by omega)) ?_
        rintro _ w2 ⟨rfl, rfl⟩
        simp [hkf, Ext.refl]
      · have vb4 := vb3.ext hE
        have hup4 := own_ext hup3 hE
        have hdn4 := own_ext hdn3 hE
        have s1 := fun W' => (sl_of_own hdn4).sliceH (P := Try.prog) (t := 30) (by simp) .i64 k (by omega) (by omega) W'
        obtain ⟨a2, c2, hs2⟩ : ∃ a c, slcH vd k = .slice a k c := by
          obtain ⟨a, c, rfl⟩ := own_val hdn4
          exact ⟨a, c, rfl⟩
        simp [hp, s1, hs2, vb4.cell, vb4.thaw]
        have hM4 := Mod.setCell (S := (· = b)) (Mod.refl _ W) ⟨b, 0, none⟩ (.slice a2 k c2) (.inl rfl)
        have vb5 := vb4.set (.slice a2 k c2)
        have hup5 : (W.setCell ⟨b, 0, none⟩ (.slice a2 k c2)).ownsRow w1.heap.size 23 1 u4 l.length (l.map u32) := own_keep hup4 fun hn hl => hM4.blk _ hl ((hkeep hup).2 hn)
        have hdn5 : (W.setCell ⟨b, 0, none⟩ (.slice a2 k c2)).ownsRow w1.heap.size 23 1 vd l'.length (l'.map u32) := own_keep hdn4 fun hn hl => hM4.blk _ hl (hdb hn)
        have hE5 : Ext w1 (W.setCell ⟨b, 0, none⟩ (.slice a2 k c2)) := ((hE2.trans hE3).trans hE).setCell _ _ hb
        generalize (W.setCell ⟨b, 0, none⟩ (.slice a2 k c2)) = W5 at *
        simp [vb5.cell]
        have hdk : Sl W5 1 (.slice a2 k c2) (l'.take k).length ((l'.take k).map u32) := by
          have := (sl_of_own hdn5).takeH k (by omega)
          rw [hs2, Nat.mul_one] at this
          rw [List.length_take, Nat.min_eq_left (by omega), List.map_take]
          exact this
        have eB : slB (.slice a2 k c2) = slB vd := by rw [← hs2]; simp
        have eO : slO (.slice a2 k c2) = 0 := by rw [← hs2]; simp [own_off hdn5]
        have eN : slN (.slice a2 k c2) = slN vd := by rw [← hs2]; simp
        refine FN.mono (reverse_c hdk (fun j _ => by unfold adr; rw [eB]; exact own_thaw hdn5 (by omega) _) (by rw [List.length_take]; omega)) ?_
        rintro _ W6 ⟨⟨uu, rfl⟩, hr1, hr2, hr3⟩
        have hlt : (l'.take k).length = k := by rw [List.length_take]; omega
        rw [hlt] at hr1 hr3
        rw [eB, eN] at hr2
        have hdnn := own_nil hdn5 (by omega)
        have hupn := own_nil hup5 (by omega)
        have hup6 : Sl W6 1 u4 l.length (l.map u32) := by
          by_cases hbb : slB u4 = slB vd
          · have h0 := (sl_of_own hup5).at_ 0 (u32 l[0]) (by simp)
            have h0' := (sl_of_own hdn5).at_ 0 (u32 l'[0]) (by simp)
            rw [own_off hup5, hbb] at h0
            rw [own_off hdn5, h0] at h0'
            have e0 : l[0] = l'[0] := by simpa using h0'
            have ei : i = 0 := by
              rcases Nat.eq_zero_or_pos i with h | h
              · exact h
              · have := hmin 0 h
                simp [e0] at this
            have ek : k = 0 := by
              rcases Nat.eq_zero_or_pos k with h | h
              · exact h
              · have := (List.findIdx?_eq_some_iff_getElem.1 hkf).2.2 0 h
                simp [← e0, ei] at this
            rw [hr3 (by omega)]
            exact sl_of_own hup5
          · exact (sl_of_own hup5).mod hr2 (fun h => hbb h.2)
        have hdn6 : Sl W6 1 (.slice a2 k c2) k ((l'.take k).reverse.map u32) := hr1
        have vb6 : Var W6 b (.slice a2 k c2) := vb5.mod hr2 (fun h => hdb hdnn h.2.symm)
        have hE6 : Ext w1 W6 := (hE5.mod.trans (hr2.weaken (S' := fun j => w1.heap.size ≤ j) (fun j hj => by rw [hj.2]; exact own_ge hdn5 hdnn))).ext fun _ h => h
        simp
        refine WC_drawQ 7 rfl (by kernel_rfl) ?_
        have s2 := fun W' => hup6.sliceHM (P := Try.prog) (t := 30) (by simp) .i64 .i64 ((i : Int) + 1) ((i : Int) + 1) (by omega) (by omega) (by omega) W'
        have ew : IntKind.i64.wrap ((i : Int) + 1) = (i : Int) + 1 := wrap64 _ (by omega) (by omega)
        have hu7 := (hup6.ext (Ext.drew W6)).takeHM (i + 1) (i + 1) (by omega) (by omega)
        have hd7 := hdn6.ext (Ext.drew W6)
        obtain ⟨v', W8, hap, hs8, hE8, hn8⟩ := append_full (P := Try.prog) (t := 30) (ty := 30) (e := 23) (s := 1) (by simp) (by simp) (by kernel_rfl) hu7 (by obtain ⟨a, c, rfl⟩ := own_val hup5; rfl) hd7 (by intro u hu; obtain ⟨z, _, rfl⟩ := List.mem_map.1 hu; rfl) (by omega)
        have et : ((i : Int) + 1).toNat = i + 1 := by omega
        simp [ew, s2, et, (vb6.ext (Ext.drew W6)).cell, hap]
        have eg : l[i]?.getD 0 = l[i] := by rw [List.getElem?_eq_getElem hil]; rfl
        rw [eg, ← hk, Nat.min_eq_left (by omega), Nat.min_eq_left (by omega)]
        refine ⟨he.trans ((hE6.trans (Ext.drew W6)).trans hE8), ?_, ?_⟩
        · rw [Nat.mul_one] at hs8
          rw [← List.map_take, ← List.map_take, ← List.map_reverse]
          rw [← List.map_take] at hs8
          exact hs8
        · cases hv : slN v' with
          | false => rfl
          | true =>
            have := hn8 hv
            obtain ⟨a, c, rfl⟩ := own_val hup5
            cases a with
            | none => cases hupn
            | some a => cases this
/-! ### Way, Next -/
theorem wayq1_c {w : World} {b1 b2 : Nat} {x y : Int} (v1 : Var w b1 (u32 x)) (v2 : Var w b2 (u32 y)) : FN Try.prog 34 [ptr b1, ptr b2] w fun e w' => e = .returned (.bool (decide (min x y = 0))) ∧ w' = w := by
  refine FN_enter Try.func34 rfl rfl (by kernel_rfl) ?_
  simp [v1.cell, v2.cell]
  rfl
theorem wayq2_c {w : World} {b : Nat} {v : Value} {n : Nat} {xs : List Value} (hv : Var w b v) (h : Sl w 1 v n xs) : FN Try.prog 35 [ptr b] w fun e w' => e = .returned (.bool (slN v)) ∧ w' = w := by
  refine FN_enter Try.func35 rfl rfl (by kernel_rfl) ?_
  simp [hv.cell, h.isNil]
/-- What Way answers. -/
def wayE (l l' : List Int) (x y : Int) : Int := if min x y = 0 then 2 else if (wayL l l').isNone then 322 else 0
theorem Way_c {w : World} {t r : Nat} {m : ML} {x y : Int} {l l' : List Int} (ht : TreeAt w t r m) (hl : Lin m x l) (hl' : Lin m y l') (hlen : m.length ≤ 1000) :
    FN Try.prog 10 [ptr t, u32 x, u32 y] w fun e w' => ∃ v, e = .returned (.tuple #[v, .int .i64 (wayE l l' x y)]) ∧ Ext w w' ∧ Sl w' 1 v (if wayE l l' x y = 0 then ((wayL l l').getD []) else []).length ((if wayE l l' x y = 0 then ((wayL l l').getD []) else []).map u32) := by
  refine FN_enter Try.func10 rfl rfl (by kernel_rfl) ?_
  simp
  have he : Ext w ((w.alloc (.cells #[u32 x] 23)).alloc (.cells #[u32 y] 23)) := ((Ext.refl w).alloc _).alloc _
  have v1 : Var ((w.alloc (.cells #[u32 x] 23)).alloc (.cells #[u32 y] 23)) w.heap.size (u32 x) := (Var.new w _ _).ext ((Ext.refl _).alloc _)
  have v2 : Var ((w.alloc (.cells #[u32 x] 23)).alloc (.cells #[u32 y] 23)) (w.heap.size + 1) (u32 y) := by
    have := Var.new (w.alloc (.cells #[u32 x] 23)) (u32 y) 23; simpa using this
  generalize ((w.alloc (.cells #[u32 x] 23)).alloc (.cells #[u32 y] 23)) = w1 at *
  refine FN.mono (way_c (ht.ext he) hl hl' hlen) ?_
  rintro _ w2 ⟨v, rfl, hE, hv⟩
  obtain ⟨ws, hws⟩ : ∃ ws, wayL l l' = ws := ⟨_, rfl⟩
  have hsl : Sl w2 1 v (ws.getD []).length ((ws.getD []).map u32) ∧ slN v = ws.isNone := by
    rw [hws] at hv
    cases ws with
    | none => simp only at hv; subst hv; exact ⟨Sl.nil _ _ _, rfl⟩
    | some ws => exact hv
  obtain ⟨a, c, rfl⟩ := hsl.1.isSlice
  simp
  have v1' := v1.ext hE
  have v2' := v2.ext hE
  have he2 := he.trans hE
  have hE3 := (Ext.refl w2).alloc (.cells #[.slice a (ws.getD []).length c] 30)
  have v3 := Var.new w2 (.slice a (ws.getD []).length c) 30
  have hb3 : w2.heap.size = w2.heap.size := rfl
  generalize hw3 : w2.alloc (.cells #[.slice a (ws.getD []).length c] 30) = w3 at *
  refine FN.mono (is_c w3 t) ?_
  rintro _ w4 ⟨rfl, h1⟩
  simp
  let qs : List Qn := [⟨.func (.func 37) #[ptr t] #[], 1, false⟩, ⟨.func (.func 34) #[] #[ptr w.heap.size, ptr (w.heap.size + 1)], 2, decide (min x y = 0)⟩, ⟨.func (.func 35) #[] #[ptr w2.heap.size], 322, ws.isNone⟩]
  have hq := Sl.made w4 (askCells qs) 68 2 3 rfl
  have he3 := (Ext.refl w4).alloc (.cells (askCells qs).toArray 68)
  refine FN.mono (asked_c qs hq (by simp [qs]) ?_ ?_) ?_
  · intro q hq
    simp [qs] at hq
    rcases hq with rfl | rfl | rfl <;> exact ⟨_, _, _, rfl⟩
  · intro i q hq hno w' hw'
    have hx := (h1.trans he3).trans hw'
    match i, hq with
    | 0, hq =>
      simp [qs] at hq; subst hq
      exact FN.mono (none_c ((ht.ext (he2.trans hE3)).ext hx)) fun _ _ h => ⟨h.1, h.2 ▸ Ext.refl _⟩
    | 1, hq =>
      simp [qs] at hq; subst hq
      exact FN.mono (wayq1_c ((v1'.ext hE3).ext hx) ((v2'.ext hE3).ext hx)) fun _ _ h => ⟨h.1, h.2 ▸ Ext.refl _⟩
    | 2, hq =>
      simp [qs] at hq; subst hq
      exact FN.mono (wayq2_c (v3.ext hx) ((hsl.1.ext hE3).ext hx)) fun _ _ h => ⟨by rw [h.1, hsl.2], h.2 ▸ Ext.refl _⟩
    | i + 3, hq => simp [qs] at hq
  · rintro _ w5 ⟨rfl, h2⟩
    have hA : askE qs = wayE l l' x y := by
      simp [qs, askE, wayE, hws]
    rw [hA]
    have hx := (h1.trans he3).trans h2
    have v3' := v3.ext hx
    by_cases h0 : wayE l l' x y = 0
    · simp [h0, v3'.cell]
      refine ⟨(he2.trans hE3).trans hx, ?_⟩
      have := (hsl.1.ext hE3).ext hx
      simpa [hws] using this
    · have hb : (wayE l l' x y != 0) = true := by simpa using h0
      simp [h0, hb]
      exact ⟨(he2.trans hE3).trans hx, Sl.nil _ _ _⟩
theorem Lin.get {m : ML} {x : Int} {l : List Int} (h : Lin m x l) (hx : x ≠ 0) : l.head? = some x := by
  obtain ⟨l', rfl, _⟩ := h.step hx
  rfl
end Go.Proofs
