/-
  Contracts of the functions that the law reaches, step by step.
-/
import Derived.Test.YthamfghcfjhifaaGreatDoorAgQ
import Derived.Test.YthamfghcfjhifaaGreatDoorAfI
import Derived.Test.YthamfghcfjhifaaGreatDoorAgA
import Derived.Test.YthamfghcfjhifaaGreatDoorOpA
namespace Go.Proofs
open Pk
set_option maxRecDepth 10000
attribute [local simp] beq_dec bne_dec
/-! ### An append of what can be read: a row, a text -/
theorem slb_src {P : Program} {w : World} {s : Nat} {v : Value} {n : Nat} {cs : List Value} {t : TypeId} (h : SlB w s v n cs) (hs : isS (P.underlying t) = true) (h1 : ∀ u ∈ cs, u.oneCell' = true) : Src P s t v n cs w := by
  obtain ⟨ao, c, rfl, hc, ha⟩ := h.val
  cases ao with
  | none =>
    have hn : n = 0 := by
      rcases Nat.eq_zero_or_pos n with h0 | h0
      · exact h0
      · obtain ⟨b, o, hb⟩ := ha h0; cases hb
    subst hn
    have : cs = [] := List.eq_nil_of_length_eq_zero (by simpa using h.len)
    subst this
    exact Src.ofNil w (isS_inv hs) c
  | some a =>
    refine Src.ofSlice w (isS_inv hs) a n c cs h.len (fun j u hj => ?_) h1
    have hn : 0 < n := by
      rcases Nat.eq_zero_or_pos n with h0 | h0
      · subst h0
        have : cs = [] := List.eq_nil_of_length_eq_zero (by simpa using h.len)
        subst this; simp at hj
      · exact h0
    obtain ⟨b, o, hb⟩ := ha hn
    cases hb
    have := h.at_ j u hj
    simpa [slB, slO, Addr.add_lit] using this
theorem append_src {P : Program} {w : World} {base s : Nat} {t tx ty : TypeId} {v : Value} {n : Nat} {xs : List Value} {x : Value} {m : Nat} {ys : List Value} {e : TypeId} (hs : isS (P.underlying t) = true) (he : elemT (P.underlying t) = e) (hi : elOk (P.info? e) s = true)
    (hown : w.ownsRow base e s v n xs) (hsrc : Src P s tx x m ys w) (hb : (n + m) ≤ 16777216) (hbase : base ≤ w.heap.size) :
    ∃ v' w', (Builtin.append_ #[t, tx] ty #[v, x]).run P w = .ok v' w' ∧ w'.ownsRow base e s v' (n + m) (xs ++ ys) ∧ Mod (fun k => slN v = false ∧ k = slB v) w w' := by
  obtain ⟨⟨i, z, hi1, hi2, rfl, hi4, hi5⟩, hsz⟩ := elOk_inv hi
  have hel := elemT_of (P := P) hs
  rw [he] at hel
  subst hel
  have ht := elem_of hs
  have hl := hsrc.newsLen
  have hlen : (xs ++ ys).length = (n + m) * i.size := by rw [List.length_append, hown.1, hl, Nat.add_mul]
  have h63 : n + m ≤ maxLen := by simp only [maxLen]; omega
  have hfit : ∀ old, old < n + m → Builtin.nextslicecap (n + m) old * i.bytes ≤ 281474976710656 := fun old ho => growslice_fits ho (by have := Nat.mul_le_mul hb hi5; omega)
  have grown : ∀ (old : Nat), old < n + m →
      (w.drew.alloc (.cells ((xs ++ ys).toArray ++ Builtin.zeroCells z.cells (grownCap w (n + m) old (P.elem t) - (n + m))) (P.elem t))).ownsRow base (P.elem t) i.size
        (.slice (some ⟨w.heap.size, 0, none⟩) (n + m) (grownCap w (n + m) old (P.elem t))) (n + m) (xs ++ ys) ∧
      Ext w (w.drew.alloc (.cells ((xs ++ ys).toArray ++ Builtin.zeroCells z.cells (grownCap w (n + m) old (P.elem t) - (n + m))) (P.elem t))) := by
    intro old ho
    have hge := grownCap_ge w (n + m) old (P.elem t)
    have hcm : grownCap w (n + m) old (P.elem t) ≤ maxLen := grownCap_le_maxLen w (n + m) old (P.elem t) h63
    refine ⟨⟨hlen, .inr ⟨w.heap.size, _, _, rfl, hbase, heap_alloc_new w.drew _, hge, hcm, ?_, ?_⟩⟩, (Ext.drew w).trans ((Ext.refl _).alloc _)⟩
    · simp only [Array.size_append, List.size_toArray, size_zeroCells, hi4, hlen, ← Nat.add_mul]
      congr 1
      omega
    · simp only [Array.toList_append]
      rw [← hlen]
      exact List.take_left
  rcases hown.2 with ⟨rfl, rfl⟩ | ⟨g, cap, cur, rfl, hbg, hg, hnc, hcm, hcs, htake⟩
  · have hx : xs = [] := List.eq_nil_of_length_eq_zero (by simpa using hown.1)
    subst hx
    by_cases hm : m = 0
    · subst hm
      have hn : ys = [] := List.eq_nil_of_length_eq_zero (by simpa using hl)
      subst hn
      refine ⟨.slice none 0 0, w, ?_, World.ownsRow_nil w base _ _, Mod.refl _ _⟩
      rcases hsrc.kind with ⟨e', hk⟩ | hk <;> simp [Builtin.append_, run_underlying ht, run_underlying hk, sizeOf, typeInfo, hi1, hsrc.len, hsrc.cells]
    · have hr := run_append_grow_src (P := P) w t tx ty (P.elem t) i z ht hi1 hi2 none 0 0 [] (run_firstCells_none w.drew i.size 0 0 0) x m ys hsrc (by omega) (by omega) (hfit 0 (by omega))
      have hgr := grown 0 (by omega)
      simp only [Nat.zero_add, List.nil_append] at hgr hr ⊢
      exact ⟨_, _, hr, hgr.1, hgr.2.mod⟩
  · by_cases hroom : n + m ≤ cap
    · have hft : n * i.size + ys.length ≤ cur.size := by rw [hl, hcs, ← Nat.add_mul]; exact Nat.mul_le_mul_right _ hroom
      have hst := run_storeCells_at P g (n * i.size) (P.elem t) ys 0 cur w hg (by simpa using hft) hsrc.one
      simp only [Nat.add_zero] at hst
      have hr : (Builtin.append_ #[t, tx] ty #[.slice (some ⟨g, 0, none⟩) n cap, x]).run P w = .ok (.slice (some ⟨g, 0, none⟩) (n + m) cap) (w.setRow g (cur.toList.take (n * i.size) ++ ys ++ cur.toList.drop (n * i.size + ys.length)).toArray) := by
        rcases hsrc.kind with ⟨e', hk⟩ | hk <;> simp [Builtin.append_, run_underlying ht, run_underlying hk, sizeOf, typeInfo, hi1, hsrc.len, hroom, hsrc.cells, hst]
      refine ⟨_, _, hr, ⟨hlen, .inr ⟨g, cap, _, rfl, hbg, setRow_heap w g cur _ (P.elem t) _ hg, hroom, hcm, ?_, ?_⟩⟩, ⟨rfl, rfl, rfl, by simp, fun k _ hk => setRow_other w g k _ fun e => hk ⟨rfl, e⟩⟩⟩
      · simp only [List.size_toArray, List.length_append, List.length_take, List.length_drop, Array.length_toList]
        omega
      · rw [htake, ← hlen]
        exact List.take_left
    · have hold : (Builtin.firstCells i.size n (.slice (some ⟨g, 0, none⟩) n cap)).run P w.drew = .ok xs.toArray w.drew :=
        run_firstCells_some w.drew i.size n ⟨g, 0, none⟩ n cap xs hown.1 (fun j u hj => by simpa using hown.cells (g := g) rfl j u hj)
      have hr := run_append_grow_src (P := P) w t tx ty (P.elem t) i z ht hi1 hi2 (some ⟨g, 0, none⟩) n cap xs hold x m ys hsrc (by omega) (by omega) (hfit cap (by omega))
      have hgr := grown cap (by omega)
      exact ⟨_, _, hr, hgr.1, hgr.2.mod⟩
set_option maxHeartbeats 2000000 in
/-- The document's bytes of any right item. -/
theorem docBytesA_c {d : Nat} {t : It} (h : Cd txA d t) : ∀ (cs : List Value) (w : World), ItC w t cs → (bytesI t).length ≤ 16777216 → FN Tryz.prog 21 [.agg cs.toArray] w fun e w' => ∃ v, e = .returned v ∧ w'.ownsRow w.heap.size 5 1 v (bytesI t).length ((bytesI t).map u8) ∧ Ext w w' := by
  have lower : ∀ {w w1 w' : World} {v : Value} {n : Nat} {cs : List Value}, Ext w w1 → w'.ownsRow w1.heap.size 5 1 v n cs → w'.ownsRow w.heap.size 5 1 v n cs := fun hE ho => own_lower ho hE.size
  induction h with
  | uint d n h0 h1 =>
    intro cs w ht _
    obtain ⟨bv, lv, css, rfl, -⟩ := itC_mk.1 ht
    obtain ⟨⟨ba, bm, bc, rfl⟩, ⟨la, lm, lc, rfl⟩⟩ := itC_slices ht
    refine FN_enter Tryz.func21 rfl rfl (by kernel_rfl) ?_
    simp
    have hE1 : Ext w (w.alloc (.cells #[i64 (1), u64 (n), .slice ba bm bc, .string ⟨#[]⟩, .slice la lm lc] 51)) := (Ext.refl _).alloc _
    generalize (w.alloc (.cells #[i64 (1), u64 (n), .slice ba bm bc, .string ⟨#[]⟩, .slice la lm lc] 51)) = w1 at *
    refine FN.mono (docHead_c (m := 0) (by omega) ⟨h0, h1⟩ w1) ?_
    rintro _ w2 ⟨v, rfl, ho, hE2⟩
    simp
    rw [bytesI_uint]
    exact ⟨lower hE1 ho, hE1.trans hE2⟩
  | byts d b hb =>
    intro cs w ht hlen
    obtain ⟨bv, lv, css, rfl, hrow, -⟩ := itC_mk.1 ht
    obtain ⟨⟨ba, bm, bc, rfl⟩, ⟨la, lm, lc, rfl⟩⟩ := itC_slices ht
    rw [show bytesI (.mk 2 0 b ⟨#[]⟩ []) = headB 2 b.length ++ b by rw [bytesI, if_neg (by decide), if_pos rfl]] at hlen ⊢
    rw [List.length_append] at hlen
    refine FN_enter Tryz.func21 rfl rfl (by kernel_rfl) ?_
    have q1 := wrap64u (b.length : Int) (by omega) (by omega)
    have l1 := fun ty W => hrow.isLen (P := Tryz.prog) (t := 31) (by simp) ty W
    simp
    have hE1 : Ext w (w.alloc (.cells #[i64 (2), u64 (0), .slice ba bm bc, .string ⟨#[]⟩, .slice la lm lc] 51)) := (Ext.refl _).alloc _
    have x1 : ItBx (w.alloc (.cells #[i64 (2), u64 (0), .slice ba bm bc, .string ⟨#[]⟩, .slice la lm lc] 51)) w.heap.size 2 0 (.slice ba bm bc) ⟨#[]⟩ (.slice la lm lc) := ItBx.new w _ _ _ _ _ 51
    generalize (w.alloc (.cells #[i64 (2), u64 (0), .slice ba bm bc, .string ⟨#[]⟩, .slice la lm lc] 51)) = w1 at *
    refine WC_drawC 7 (.F 0 <| .F 1 <| .F 2 <| .F 3 <| .F 5 <| .F 6 <| .C 4 <| .Z) (fun _ => false) rfl (by kernel_rfl) fun W hW => ?_
    have hWE : Ext w1 W := hW ▸ Ext.drew _
    have xW := x1.ext hWE
    simp [xW.c2, l1, q1]
    refine FN.mono (docHead_c (m := 2) (n := b.length) (by omega) ⟨by omega, by omega⟩ W) ?_
    rintro _ w2 ⟨v, rfl, ho, hE2⟩
    simp
    refine KR_ext hE2 ?_
    obtain ⟨va, vc, rfl⟩ := own_val ho
    have hE02 := hE1.trans (hWE.trans hE2)
    have hE12 := hWE.trans hE2
    obtain ⟨v', w5, hr, ho5, hM5⟩ := append_src (P := Tryz.prog) (t := 31) (tx := 31) (ty := 31) (e := 5) (s := 1) (by simp) (by simp) (by kernel_rfl) ho (slb_src (hrow.ext hE02) (by simp) byte_one) (by omega) hE2.size
    simp [hr]
    have sW := hWE.size
    have hE5 : Ext w w5 := ((hE02.mod (S := fun k => w.heap.size ≤ k)).trans (hM5.weaken fun k hk => by have := own_ge ho hk.1; have := hE1.size; omega)).ext fun _ h => h
    refine ⟨?_, hE5⟩
    rw [← List.map_append] at ho5 ⊢
    exact lower (hE1.trans hWE) ho5
  | text d s hs =>
    intro cs w ht hlen
    obtain ⟨bv, lv, css, rfl, -⟩ := itC_mk.1 ht
    obtain ⟨⟨ba, bm, bc, rfl⟩, ⟨la, lm, lc, rfl⟩⟩ := itC_slices ht
    rw [show bytesI (.mk 3 0 [] s []) = headB 3 s.size ++ (s.toList.map fun c => (c.toNat : Int)) by rw [bytesI, if_neg (by decide), if_neg (by decide), if_pos rfl]] at hlen ⊢
    rw [List.length_append, List.length_map, toList_len] at hlen
    refine FN_enter Tryz.func21 rfl rfl (by kernel_rfl) ?_
    have q1 := wrap64u (s.size : Int) (by omega) (by omega)
    simp
    have hE1 : Ext w (w.alloc (.cells #[i64 (3), u64 (0), .slice ba bm bc, .string s, .slice la lm lc] 51)) := (Ext.refl _).alloc _
    have x1 : ItBx (w.alloc (.cells #[i64 (3), u64 (0), .slice ba bm bc, .string s, .slice la lm lc] 51)) w.heap.size 3 0 (.slice ba bm bc) s (.slice la lm lc) := ItBx.new w _ _ _ _ _ 51
    generalize (w.alloc (.cells #[i64 (3), u64 (0), .slice ba bm bc, .string s, .slice la lm lc] 51)) = w1 at *
    refine WC_drawC 7 (.F 0 <| .F 1 <| .F 2 <| .F 3 <| .F 5 <| .F 6 <| .C 4 <| .Z) (fun _ => false) rfl (by kernel_rfl) fun W hW => ?_
    have hWE : Ext w1 W := hW ▸ Ext.drew _
    have xW := x1.ext hWE
    simp [xW.c3, q1]
    refine FN.mono (docHead_c (m := 3) (n := s.size) (by omega) ⟨by omega, by omega⟩ W) ?_
    rintro _ w2 ⟨v, rfl, ho, hE2⟩
    simp
    refine KR_ext hE2 ?_
    obtain ⟨va, vc, rfl⟩ := own_val ho
    have hE02 := hE1.trans (hWE.trans hE2)
    obtain ⟨v', w5, hr, ho5, hM5⟩ := append_src (P := Tryz.prog) (t := 31) (tx := 9) (ty := 31) (e := 5) (s := 1) (by simp) (by simp) (by kernel_rfl) ho (Src.ofString w2 (by simp) s) (by omega) hE2.size
    simp [hr]
    have hE5 : Ext w w5 := ((hE02.mod (S := fun k => w.heap.size ≤ k)).trans (hM5.weaken fun k hk => by have := own_ge ho hk.1; have := hE1.size; have := hWE.size; omega)).ext fun _ h => h
    refine ⟨?_, hE5⟩
    have e : byteCells s = (s.toList.map fun c => (c.toNat : Int)).map u8 := by unfold byteCells; rw [Lib.toList_data, List.map_map]; rfl
    rw [e] at ho5
    have := lower (hE1.trans hWE) ho5
    simpa [toList_len] using this
  | bool d n h0 =>
    intro cs w ht _
    obtain ⟨bv, lv, css, rfl, -⟩ := itC_mk.1 ht
    obtain ⟨⟨ba, bm, bc, rfl⟩, ⟨la, lm, lc, rfl⟩⟩ := itC_slices ht
    refine FN_enter Tryz.func21 rfl rfl (by kernel_rfl) ?_
    have q1 := wrap64u (244 + n) (by omega) (by omega)
    have q2 := wrap8u (244 + n) (by omega) (by omega)
    simp [q1, q2]
    rw [bytesI_bool]
    have hE1 : Ext w (w.alloc (.cells #[i64 (5), u64 (n), .slice ba bm bc, .string ⟨#[]⟩, .slice la lm lc] 51)) := (Ext.refl _).alloc _
    have z1 : w.heap.size + 1 = (w.alloc (.cells #[i64 (5), u64 (n), .slice ba bm bc, .string ⟨#[]⟩, .slice la lm lc] 51)).heap.size := by simp
    rw [z1]
    generalize (w.alloc (.cells #[i64 (5), u64 (n), .slice ba bm bc, .string ⟨#[]⟩, .slice la lm lc] 51)) = w1 at *
    exact ⟨own_made w1 [u8 (244 + n)] 5 1 1 rfl (by omega) _ hE1.size, hE1.alloc _⟩
  | null d =>
    intro cs w ht _
    obtain ⟨bv, lv, css, rfl, -⟩ := itC_mk.1 ht
    obtain ⟨⟨ba, bm, bc, rfl⟩, ⟨la, lm, lc, rfl⟩⟩ := itC_slices ht
    refine FN_enter Tryz.func21 rfl rfl (by kernel_rfl) ?_
    simp
    rw [show bytesI (.mk 6 0 [] ⟨#[]⟩ []) = [246] by rw [bytesI]; simp]
    have hE1 : Ext w (w.alloc (.cells #[i64 (6), u64 (0), .slice ba bm bc, .string ⟨#[]⟩, .slice la lm lc] 51)) := (Ext.refl _).alloc _
    have z1 : w.heap.size + 1 = (w.alloc (.cells #[i64 (6), u64 (0), .slice ba bm bc, .string ⟨#[]⟩, .slice la lm lc] 51)).heap.size := by simp
    rw [z1]
    generalize (w.alloc (.cells #[i64 (6), u64 (0), .slice ba bm bc, .string ⟨#[]⟩, .slice la lm lc] 51)) = w1 at *
    exact ⟨own_made w1 [u8 246] 5 1 1 rfl (by omega) _ hE1.size, hE1.alloc _⟩
  | list d l h ih =>
    intro cs w ht hlen
    obtain ⟨bv, lv, css, rfl, -, hrow, hc, -, -⟩ := itC_mk.1 ht
    obtain ⟨⟨ba, bm, bc, rfl⟩, ⟨la, lm, lc, rfl⟩⟩ := itC_slices ht
    refine FN_enter Tryz.func21 rfl rfl (by kernel_rfl) ?_
    have l1 := fun ty W => hrow.isLen (P := Tryz.prog) (t := 48) (by simp) ty W
    have hge := bytesL_ge h
    rw [bytesI_list] at hlen ⊢
    rw [List.length_append] at hlen
    have q1 := wrap64u (l.length : Int) (by omega) (by omega)
    simp [l1, q1]
    have hE1 : Ext w (w.alloc (.cells #[i64 (4), u64 (0), .slice ba bm bc, .string ⟨#[]⟩, .slice la lm lc] 51)) := (Ext.refl _).alloc _
    have x1 : ItBx (w.alloc (.cells #[i64 (4), u64 (0), .slice ba bm bc, .string ⟨#[]⟩, .slice la lm lc] 51)) w.heap.size 4 0 (.slice ba bm bc) ⟨#[]⟩ (.slice la lm lc) := ItBx.new w _ _ _ _ _ 51
    obtain ⟨xb, hxb⟩ : ∃ xb, xb = w.heap.size := ⟨_, rfl⟩
    rw [← hxb] at x1 ⊢
    generalize (w.alloc (.cells #[i64 (4), u64 (0), .slice ba bm bc, .string ⟨#[]⟩, .slice la lm lc] 51)) = w1 at *
    have hrow1 := hrow.ext hE1
    have hc1 := hc.ext hE1
    refine FN.mono (docHead_c (m := 4) (n := l.length) (by omega) ⟨by omega, by omega⟩ w1) ?_
    rintro _ w2 ⟨v, rfl, ho, hE2⟩
    simp
    refine WC_loop (fun j ρ ds w' => ∃ (i : Nat) (u : Value), j = l.length - i ∧ i ≤ l.length ∧ ρ 1 = ptr xb ∧ ρ 3 = u ∧ ρ 4 = i64 i ∧ ds = [] ∧ Ext w1 w' ∧ w'.ownsRow w1.heap.size 5 1 u ((headB 4 l.length).length + (bytesL (l.take i)).length) ((headB 4 l.length ++ bytesL (l.take i)).map u8)) l.length
      ⟨0, v, by simp, by omega, by simp, by simp, by simp, rfl, hE2, by simpa [bytesL] using ho⟩ ?_
    rintro j ρ ds w3 ⟨i, u, rfl, hi, e1, e3, e4, rfl, hE3, ho3⟩
    have x3 := x1.ext hE3
    by_cases hlt : i < l.length
    · obtain ⟨k1, n1, b1, s1, v1, g1, c1, r1⟩ := itRow (hrow1.ext hE3) (hc1.ext hE3) hlt
      obtain ⟨⟨ba1, bm1, bc1, rfl⟩, ⟨la1, lm1, lc1, rfl⟩⟩ := itC_slices c1
      have i1 := (hrow1.ext hE3).index (P := Tryz.prog) (t := 48) (by simp) .i64 i (by omega) (by omega) w3
      simp at i1
      obtain ⟨ua, uc, rfl⟩ := own_val ho3
      simp [e1, e3, e4, x3.c4, l1, hlt, i1, r1.c0, r1.c1, r1.c2, r1.c3, r1.c4]
      have hx := List.getElem_mem hlt
      have hbl : (bytesI l[i]).length ≤ (bytesL l).length := bytesL_mem hx
      have ihh := ih l[i] hx _ w3 c1 (by omega)
      refine FN.mono (ihh) ?_
      rintro _ w4 ⟨v4, rfl, ho4, hE4⟩
      have ht1 : l.take (i + 1) = l.take i ++ [l[i]] := by rw [List.take_add_one, List.getElem?_eq_getElem hlt]; rfl
      have hts : (bytesL (l.take (i + 1))).length ≤ (bytesL l).length := by
        rw [bytesL_flat, bytesL_flat, List.map_take]
        exact (List.IsPrefix.sublist ⟨_, by rw [← List.flatten_append, List.take_append_drop]⟩).length_le
      have ht2 : bytesL (l.take (i + 1)) = bytesL (l.take i) ++ bytesI l[i] := by
        rw [ht1, bytesL_flat, bytesL_flat, List.map_append, List.flatten_append]
        simp
      rw [ht2, List.length_append] at hts
      have hE13 := hE3.trans hE4
      obtain ⟨v', w5, hr, ho5, hM5⟩ := append_src (P := Tryz.prog) (t := 31) (tx := 31) (ty := 31) (e := 5) (s := 1) (by simp) (by simp) (by kernel_rfl) (own_ext ho3 hE4) (slb_src (sl_of_own ho4).toB (by simp) byte_one) (by omega) hE13.size
      simp [e1, e4, hr]
      have hE5 : Ext w1 w5 := ((hE13.mod (S := fun k => w1.heap.size ≤ k)).trans (hM5.weaken fun k hk => by have := own_ge ho3 hk.1; omega)).ext fun _ h => h
      refine ⟨_, ?_, i + 1, rfl, by omega, by push_cast; exact wrap64 _ (by omega) (by omega), hE5, ?_⟩
      · omega
      · rw [ht2, List.length_append, ← Nat.add_assoc]
        have e : (headB 4 l.length ++ bytesL (l.take i)).map u8 ++ (bytesI l[i]).map u8 = (headB 4 l.length).map u8 ++ (bytesL (l.take i) ++ bytesI l[i]).map u8 := by simp
        rw [e] at ho5
        exact ho5
    · have : i = l.length := by omega
      subst this
      simp [e1, e3, e4, x3.c4, l1]
      rw [List.take_length] at ho3
      rw [← List.map_append]
      exact ⟨own_lower ho3 (by rw [hxb]; exact hE1.size), hE1.trans hE3⟩
end Go.Proofs
namespace Go.Proofs
open Pk
set_option maxRecDepth 10000
attribute [local simp] beq_dec bne_dec
/-! ### Items of a size -/
mutual
def szT : It → Nat
  | .mk _ _ b s l => 6 + b.length + s.size + szL l
def szL : List It → Nat
  | [] => 0
  | x :: l => szT x + szL l
end
mutual
def depT : It → Nat
  | .mk _ _ _ _ l => depL l + 1
def depL : List It → Nat
  | [] => 0
  | x :: l => max (depT x) (depL l)
end
mutual
def rightT : It → Bool
  | .mk k n b s l => decide (1 ≤ k ∧ k ≤ 6) && (bareB (.mk k n b s l) && (!(decide (k = 5) && decide (1 < n)) && (txtOk s && rightL l)))
def rightL : List It → Bool
  | [] => true
  | x :: l => rightT x && rightL l
end
theorem szT_e (t : It) : szT t = 6 + t.b.length + t.s.size + szL t.l := by cases t; rw [szT]; rfl
theorem depT_e (t : It) : depT t = depL t.l + 1 := by cases t; rw [depT]; rfl
theorem szL_mem {l : List It} {x : It} (h : x ∈ l) : szT x ≤ szL l := by
  induction l with
  | nil => simp at h
  | cons y l ih =>
    rw [szL]
    rcases List.mem_cons.1 h with rfl | h
    · omega
    · have := ih h; omega
theorem szL_len (l : List It) : 6 * l.length ≤ szL l := by
  induction l with
  | nil => simp [szL]
  | cons y l ih => rw [szL, szT_e, List.length_cons]; omega
theorem dep_sz (m : Nat) : ∀ t : It, SizeOf.sizeOf t ≤ m → depT t ≤ szT t := by
  induction m with
  | zero => intro t h; cases t; simp at h
  | succ m ih =>
    intro t h
    obtain ⟨k, n, b, s, l⟩ := t
    rw [depT, szT]
    have hl : depL l ≤ szL l := by
      have hm : ∀ x ∈ l, depT x ≤ szT x := fun x hx => ih x (by
        have := List.sizeOf_lt_of_mem hx
        simp at h; omega)
      clear h ih
      induction l with
      | nil => simp [depL]
      | cons x l ih =>
        rw [depL, szL]
        have := hm x (by simp)
        have := ih fun y hy => hm y (by simp [hy])
        omega
    omega
theorem depT_le (t : It) : depT t ≤ szT t := dep_sz _ t (Nat.le_refl _)
theorem rightL_iff {l : List It} : rightL l = true ↔ ∀ x ∈ l, rightT x = true := by
  induction l with
  | nil => simp [rightL]
  | cons x l ih => rw [rightL, Bool.and_eq_true, ih]; simp
theorem depL_mem {l : List It} {x : It} (h : x ∈ l) : depT x ≤ depL l := by
  induction l with
  | nil => simp at h
  | cons y l ih =>
    rw [depL]
    rcases List.mem_cons.1 h with rfl | h
    · omega
    · have := ih h; omega
theorem ItOk.inv {t : It} (h : ItOk t) : (-9223372036854775808 ≤ t.k ∧ t.k ≤ 9223372036854775807) ∧ (0 ≤ t.n ∧ t.n ≤ 18446744073709551615) ∧ (∀ x ∈ t.b, 0 ≤ x ∧ x ≤ 255) ∧ ∀ x ∈ t.l, ItOk x := by
  cases h with
  | mk k n b s l hk hn hb hl => exact ⟨hk, hn, hb, hl⟩
theorem bareB_iff (t : It) : bareB t = true ↔ ((t.k = 1 ∨ (t.k = 5 ∨ t.n = 0)) ∧ ((t.k = 2 ∨ t.b.length = 0) ∧ ((t.k = 3 ∨ t.s = ⟨#[]⟩) ∧ (t.k = 4 ∨ t.l.length = 0)))) := by
  unfold bareB
  simp only [Bool.and_eq_true, Bool.or_eq_true, decide_eq_true_eq]
/-- A right item is one that is read as it is written. -/
theorem cd_of_right : ∀ (m : Nat) (t : It), SizeOf.sizeOf t ≤ m → ItOk t → rightT t = true → Cd txA (depT t) t := by
  intro m
  induction m with
  | zero => intro t h; cases t; simp at h
  | succ m ih =>
    intro t hm hok hr
    obtain ⟨k, n, b, s, l⟩ := t
    obtain ⟨hk, hn, hb, hl⟩ := hok.inv
    rw [rightT] at hr
    simp only [Bool.and_eq_true, decide_eq_true_eq] at hr
    obtain ⟨h1, h2, h3, h4, h5⟩ := hr
    obtain ⟨g1, g2, g3, g4⟩ := (bareB_iff _).1 h2
    simp only [It.k, It.n, It.b, It.s, It.l] at g1 g2 g3 g4 hn hb hl
    have hlz : k ≠ 4 → l = [] := fun h => by
      rcases g4 with g | g
      · exact (h g).elim
      · exact List.eq_nil_of_length_eq_zero g
    have hsz : k ≠ 3 → s = ⟨#[]⟩ := fun h => by
      rcases g3 with g | g
      · exact (h g).elim
      · exact g
    have hbz : k ≠ 2 → b = [] := fun h => by
      rcases g2 with g | g
      · exact (h g).elim
      · exact List.eq_nil_of_length_eq_zero g
    have hnz : k ≠ 1 → k ≠ 5 → n = 0 := fun h h' => by
      rcases g1 with g | g | g
      · exact (h g).elim
      · exact (h' g).elim
      · exact g
    have hcase : k = 1 ∨ k = 2 ∨ k = 3 ∨ k = 4 ∨ k = 5 ∨ k = 6 := by omega
    rw [depT]
    rcases hcase with rfl | rfl | rfl | rfl | rfl | rfl
    · rw [hlz (by decide), hsz (by decide), hbz (by decide)]
      exact .uint _ n hn.1 hn.2
    · rw [hlz (by decide), hsz (by decide), hnz (by decide) (by decide)]
      exact .byts _ b hb
    · rw [hlz (by decide), hbz (by decide), hnz (by decide) (by decide)]
      exact .text _ s (by unfold txA; rw [h4])
    · rw [hsz (by decide), hbz (by decide), hnz (by decide) (by decide)]
      refine .list _ l fun x hx => ?_
      refine (ih x ?_ (hl x hx) (rightL_iff.1 h5 x hx)).up (depL_mem hx)
      have := List.sizeOf_lt_of_mem hx
      simp at hm; omega
    · rw [hlz (by decide), hsz (by decide), hbz (by decide)]
      refine .bool _ n ?_
      simp at h3
      omega
    · rw [hlz (by decide), hsz (by decide), hbz (by decide), hnz (by decide) (by decide)]
      exact .null _
theorem bytes_sz {d : Nat} {t : It} (h : Cd txA d t) : (bytesI t).length ≤ 2 * szT t := by
  induction h with
  | uint d n h0 h1 => rw [bytesI_uint, szT_e]; have := headB_len 0 n; omega
  | byts d b hb =>
    rw [bytesI, if_neg (by decide), if_pos rfl, List.length_append, szT_e]
    have := headB_len 2 b.length
    simp only [It.b]
    omega
  | text d s hs =>
    rw [bytesI, if_neg (by decide), if_neg (by decide), if_pos rfl, List.length_append, List.length_map, toList_len, szT_e]
    have := headB_len 3 s.size
    simp only [It.s]
    omega
  | bool d n h => rw [bytesI_bool, szT_e]; simp; omega
  | null d => rw [show bytesI (.mk 6 0 [] ⟨#[]⟩ []) = [246] by rw [bytesI]; simp, szT_e]; simp; omega
  | list d l h ih =>
    rw [bytesI_list, List.length_append, szT_e]
    have := headB_len 4 l.length
    have : (bytesL l).length ≤ 2 * szL l := by
      clear h this
      induction l with
      | nil => simp [bytesL]
      | cons x l ih2 =>
        rw [bytesL, List.length_append, szL]
        have := ih x (by simp)
        have := ih2 fun y hy => ih y (by simp [hy])
        omega
    simp only [listI, It.l]
    omega
theorem depL_le (l : List It) : depL l ≤ szL l := by
  induction l with
  | nil => simp [depL]
  | cons x l ih => rw [depL, szL]; have := depT_le x; omega
theorem depL_take {l : List It} {i : Nat} (h : i < l.length) : depL (l.take (i + 1)) = max (depL (l.take i)) (depT l[i]) := by
  induction l generalizing i with
  | nil => simp at h
  | cons x l ih =>
    cases i with
    | zero => simp [depL]
    | succ i =>
      simp only [List.take_succ_cons, depL, List.getElem_cons_succ]
      rw [ih (by simpa using h)]
      omega
theorem rightL_take {l : List It} {i : Nat} (h : i < l.length) : rightL (l.take (i + 1)) = (rightL (l.take i) && rightT l[i]) := by
  induction l generalizing i with
  | nil => simp at h
  | cons x l ih =>
    cases i with
    | zero => simp [rightL]
    | succ i =>
      simp only [List.take_succ_cons, rightL, List.getElem_cons_succ]
      rw [ih (by simpa using h), Bool.and_assoc]
theorem rdepth_n : ∀ (m : Nat) (t : It), SizeOf.sizeOf t ≤ m → szT t ≤ 4611686018427387904 → ∀ {cs : List Value} {w : World}, ItC w t cs → FN Tryz.prog 19 [.agg cs.toArray] w fun e w' => e = .returned (i64 (depT t)) ∧ Ext w w' := by
  intro m
  induction m with
  | zero => intro t h; cases t; simp at h
  | succ m ih =>
    intro t hm hsz cs w ht
    obtain ⟨ba, bc, la, lc, css, hO⟩ := itO ht
    have ecs := hO.cs
    rw [show cs.toArray = #[i64 t.k, u64 t.n, .slice ba t.b.length bc, .string t.s, .slice la t.l.length lc] by rw [ecs]]
    refine FN_enter Tryz.func19 rfl rfl (by kernel_rfl) ?_
    have x1 : ItBx (w.alloc (.cells #[i64 t.k, u64 t.n, .slice ba t.b.length bc, .string t.s, .slice la t.l.length lc] 51)) w.heap.size t.k t.n (.slice ba t.b.length bc) t.s (.slice la t.l.length lc) := ItBx.new w _ _ _ _ _ 51
    have hE1 : Ext w (w.alloc (.cells #[i64 t.k, u64 t.n, .slice ba t.b.length bc, .string t.s, .slice la t.l.length lc] 51)) := (Ext.refl _).alloc _
    simp
    obtain ⟨xb, hxb⟩ : ∃ xb, xb = w.heap.size := ⟨_, rfl⟩
    rw [← hxb] at x1 ⊢
    generalize (w.alloc (.cells #[i64 t.k, u64 t.n, .slice ba t.b.length bc, .string t.s, .slice la t.l.length lc] 51)) = w1 at *
    have len := fun ty W => hO.l.isLen (P := Tryz.prog) (t := 48) (by simp) ty W
    have hll := hO.ll
    have hrow1 := hO.l.ext hE1
    have hc1 := hO.c.ext hE1
    have hs1 := szT_e t
    have hd1 := depT_e t
    have hsl := szL_len t.l
    refine WC_loop (fun j ρ ds w' => ∃ (i : Nat), j = t.l.length - i ∧ i ≤ t.l.length ∧ ρ 1 = ptr xb ∧ ρ 3 = i64 (depL (t.l.take i)) ∧ ρ 4 = i64 i ∧ ds = [] ∧ Ext w1 w') t.l.length
      ⟨0, by simp, by omega, by simp, by simp [depL], by simp, rfl, Ext.refl _⟩ ?_
    rintro j ρ ds w3 ⟨i, rfl, hi, e1, e3, e4, rfl, hE3⟩
    have x3 := x1.ext hE3
    by_cases hlt : i < t.l.length
    · obtain ⟨k1, n1, b1, s1, v1, g1, c1, r1⟩ := itRow (hrow1.ext hE3) (hc1.ext hE3) hlt
      obtain ⟨⟨ba1, bm1, bc1, rfl⟩, ⟨la1, lm1, lc1, rfl⟩⟩ := itC_slices c1
      have i1 := (hrow1.ext hE3).index (P := Tryz.prog) (t := 48) (by simp) .i64 i (by omega) (by omega) w3
      simp at i1
      have hx := List.getElem_mem hlt
      have hso := List.sizeOf_lt_of_mem hx
      have hmem := szL_mem hx
      have hsm : SizeOf.sizeOf t.l[i] ≤ m := by
        have : SizeOf.sizeOf t.l < SizeOf.sizeOf t := by cases t; simp [It.l]; omega
        omega
      have ihh := ih t.l[i] hsm (by omega) c1
      have hw1 : IntKind.i64.wrap ((i : Int) + 1) = i + 1 := wrap64 _ (by omega) (by omega)
      have hdt := depL_take hlt
      have hmx : (max (depL (t.l.take i) : Int) (depT t.l[i])) = ((depL (t.l.take (i + 1)) : Nat) : Int) := by rw [hdt]; omega
      simp [e1, e3, e4, x3.c4, len, hlt, i1, r1.c0, r1.c1, r1.c2, r1.c3, r1.c4]
      refine FN.mono (ihh) ?_
      rintro _ w4 ⟨rfl, hE4⟩
      simp [e1, e4, hw1]
      exact ⟨t.l.length - (i + 1), by omega, i + 1, rfl, by omega, hmx, by push_cast; rfl, hE3.trans hE4⟩
    · have : i = t.l.length := by omega
      subst this
      rw [List.take_length] at e3
      have hdl := depL_le t.l
      have hw2 : IntKind.i64.wrap ((depL t.l : Int) + 1) = depL t.l + 1 := wrap64 _ (by omega) (by omega)
      simp [e1, e3, e4, x3.c4, len, hw2]
      exact ⟨by rw [hd1]; push_cast; rfl, hE1.trans hE3⟩
theorem rdepth_c {t : It} (hsz : szT t ≤ 4611686018427387904) {cs : List Value} {w : World} (ht : ItC w t cs) : FN Tryz.prog 19 [.agg cs.toArray] w fun e w' => e = .returned (i64 (depT t)) ∧ Ext w w' := rdepth_n _ t (Nat.le_refl _) hsz ht
theorem rrightI_n : ∀ (m : Nat) (t : It), SizeOf.sizeOf t ≤ m → szT t ≤ 4611686018427387904 → ∀ {cs : List Value} {w : World}, ItC w t cs → FN Tryz.prog 41 [.agg cs.toArray] w fun e w' => e = .returned (.bool (rightT t)) ∧ Ext w w' := by
  intro m
  induction m with
  | zero => intro t h; cases t; simp at h
  | succ m ih =>
    intro t hm hsz cs w ht
    obtain ⟨ba, bc, la, lc, css, hO⟩ := itO ht
    have ecs := hO.cs
    rw [show cs.toArray = #[i64 t.k, u64 t.n, .slice ba t.b.length bc, .string t.s, .slice la t.l.length lc] by rw [ecs]]
    refine FN_enter Tryz.func41 rfl rfl (by kernel_rfl) ?_
    have x1 : ItBx (w.alloc (.cells #[i64 t.k, u64 t.n, .slice ba t.b.length bc, .string t.s, .slice la t.l.length lc] 51)) w.heap.size t.k t.n (.slice ba t.b.length bc) t.s (.slice la t.l.length lc) := ItBx.new w _ _ _ _ _ 51
    have hE1 : Ext w (w.alloc (.cells #[i64 t.k, u64 t.n, .slice ba t.b.length bc, .string t.s, .slice la t.l.length lc] 51)) := (Ext.refl _).alloc _
    simp
    obtain ⟨xb, hxb⟩ : ∃ xb, xb = w.heap.size := ⟨_, rfl⟩
    rw [← hxb] at x1 ⊢
    generalize (w.alloc (.cells #[i64 t.k, u64 t.n, .slice ba t.b.length bc, .string t.s, .slice la t.l.length lc] 51)) = w1 at *
    have len := fun ty W => hO.l.isLen (P := Tryz.prog) (t := 48) (by simp) ty W
    have hll := hO.ll
    have hrow1 := hO.l.ext hE1
    have hc1 := hO.c.ext hE1
    have hs1 := szT_e t
    have hsl := szL_len t.l
    have hrt : rightT t = (decide (1 ≤ t.k ∧ t.k ≤ 6) && (bareB t && (!(decide (t.k = 5) && decide (1 < t.n)) && (txtOk t.s && rightL t.l)))) := by cases t; rw [rightT]; rfl
    have itW : ∀ W, Ext w W → ItC W t [i64 t.k, u64 t.n, .slice ba t.b.length bc, .string t.s, .slice la t.l.length lc] := fun W h => by rw [← ecs]; exact ht.ext h
    obtain ⟨R, hR⟩ : ∃ R, rightT t = R := ⟨_, rfl⟩
    rw [hrt] at hR
    rw [show rightT t = R by rw [hrt, hR]]
    refine FN.mono (rrunes_c t.s (by omega) w1) ?_
    rintro _ w2 ⟨⟨nr, rfl⟩, rfl⟩
    simp
    by_cases k1 : t.k < 1
    · have k1' : ¬ (1 ≤ t.k ∧ t.k ≤ 6) := by omega
      rw [decide_eq_false k1', Bool.false_and] at hR
      subst hR
      simp [k1]
      exact hE1
    by_cases k6 : 6 < t.k
    · have k6' : ¬ (1 ≤ t.k ∧ t.k ≤ 6) := by omega
      rw [decide_eq_false k6', Bool.false_and] at hR
      subst hR
      simp [k1, k6]
      exact hE1
    have k16 : (1 ≤ t.k ∧ t.k ≤ 6) := by omega
    rw [decide_eq_true k16, Bool.true_and] at hR
    simp [k1, k6, x1.c0, x1.c1, x1.c2, x1.c3, x1.c4]
    have hbare := rbareI_c (itW _ hE1)
    refine FN.mono (hbare) ?_
    rintro _ w3 ⟨rfl, hE3⟩
    have x3 := x1.ext hE3
    have hE03 := hE1.trans hE3
    cases hbb : bareB t with
    | false =>
      rw [hbb, Bool.false_and] at hR
      subst hR
      simp
      exact hE03
    | true =>
    rw [hbb, Bool.true_and] at hR
    refine with_tail (T := ∀ (σ : Env), σ 1 = ptr xb → σ 6 = i64 0 → R = rightL t.l → WCt Tryz.prog 53 none ?dC ?dQ Tok.mk σ [] w3) (fun tail => ?br) ?jn
    case br =>
      by_cases k5 : t.k = 5
      · by_cases n1 : 1 < t.n
        · rw [decide_eq_true k5, decide_eq_true n1] at hR
          simp at hR
          subst hR
          simp [k5, n1, x3.c1]
          exact hE03
        · rw [decide_eq_true k5, decide_eq_false n1] at hR
          cases htx : txtOk t.s with
          | false =>
            rw [htx] at hR
            simp at hR
            subst hR
            simp [k5, n1, x3.c1]
            exact hE03
          | true =>
            rw [htx] at hR
            simp at hR
            simp [k5, n1, x3.c1]
            refine tail _ ?_ ?_ hR.symm <;> simp
      · rw [decide_eq_false k5] at hR
        cases htx : txtOk t.s with
        | false =>
          rw [htx] at hR
          simp at hR
          subst hR
          simp [k5]
          exact hE03
        | true =>
          rw [htx] at hR
          simp at hR
          simp [k5]
          refine tail _ ?_ ?_ hR.symm <;> simp
    case jn =>
      intro σ e1 e6 hRl
      have hrow3 := hrow1.ext hE3
      have hc3 := hc1.ext hE3
      refine WC_loop (fun j ρ ds w' => ∃ (i : Nat), j = t.l.length - i ∧ i ≤ t.l.length ∧ ρ 1 = ptr xb ∧ ρ 6 = i64 i ∧ rightL (t.l.take i) = true ∧ ds = [] ∧ Ext w3 w') t.l.length
        ⟨0, by simp, by omega, e1, by rw [e6]; rfl, by simp [rightL], rfl, Ext.refl _⟩ ?_
      rintro j ρ ds w4 ⟨i, rfl, hi, f1, f6, hpre, rfl, hE4⟩
      have x4 := x3.ext hE4
      by_cases hlt : i < t.l.length
      · obtain ⟨q1, n1, b1, s1, v1, g1, c1, r1⟩ := itRow (hrow3.ext hE4) (hc3.ext hE4) hlt
        obtain ⟨⟨ba1, bm1, bc1, rfl⟩, ⟨la1, lm1, lc1, rfl⟩⟩ := itC_slices c1
        have i1 := (hrow3.ext hE4).index (P := Tryz.prog) (t := 48) (by simp) .i64 i (by omega) (by omega) w4
        simp at i1
        have hx := List.getElem_mem hlt
        have hso := List.sizeOf_lt_of_mem hx
        have hmem := szL_mem hx
        have hsm : SizeOf.sizeOf t.l[i] ≤ m := by
          have : SizeOf.sizeOf t.l < SizeOf.sizeOf t := by cases t; simp [It.l]; omega
          omega
        have ihh := ih t.l[i] hsm (by omega) c1
        have hw1 : IntKind.i64.wrap ((i : Int) + 1) = i + 1 := wrap64 _ (by omega) (by omega)
        have hrk := rightL_take hlt
        simp [f1, f6, x4.c4, len, hlt, i1, r1.c0, r1.c1, r1.c2, r1.c3, r1.c4]
        refine FN.mono (ihh) ?_
        rintro _ w5 ⟨rfl, hE5⟩
        cases hrx : rightT t.l[i] with
        | false =>
          have hRf : R = false := by
            rw [hRl]
            cases hh : rightL t.l with
            | false => rfl
            | true => rw [rightL_iff.1 hh _ hx] at hrx; cases hrx
          rw [hRf]
          simp
          exact hE03.trans (hE4.trans hE5)
        | true =>
          simp [f1, f6, hw1]
          exact ⟨t.l.length - (i + 1), by omega, i + 1, rfl, by omega, by push_cast; rfl, by rw [hrk, hpre, hrx]; rfl, hE4.trans hE5⟩
      · have : i = t.l.length := by omega
        subst this
        rw [List.take_length] at hpre
        rw [hRl, hpre]
        simp [f1, f6, x4.c4, len]
        exact hE03.trans hE4
theorem rrightI_c {t : It} (hsz : szT t ≤ 4611686018427387904) {cs : List Value} {w : World} (ht : ItC w t cs) : FN Tryz.prog 41 [.agg cs.toArray] w fun e w' => e = .returned (.bool (rightT t)) ∧ Ext w w' := rrightI_n _ t (Nat.le_refl _) hsz ht
/-- The document's Check. -/
def chkI (t : It) : Int := if rightT t then (if 8 < depT t then 120 else if 65536 < (bytesI t).length then 3 else 0) else 2
theorem rcheck_c {t : It} (hok : ItOk t) (hsz : szT t ≤ 8388608) {cs : List Value} {w : World} (ht : ItC w t cs) : FN Tryz.prog 20 [.agg cs.toArray] w fun e w' => e = .returned (i64 (chkI t)) ∧ Ext w w' := by
  obtain ⟨ba, bc, la, lc, css, hO⟩ := itO ht
  have ecs := hO.cs
  rw [show cs.toArray = #[i64 t.k, u64 t.n, .slice ba t.b.length bc, .string t.s, .slice la t.l.length lc] by rw [ecs]]
  refine FN_enter Tryz.func20 rfl rfl (by kernel_rfl) ?_
  have x1 : ItBx (w.alloc (.cells #[i64 t.k, u64 t.n, .slice ba t.b.length bc, .string t.s, .slice la t.l.length lc] 51)) w.heap.size t.k t.n (.slice ba t.b.length bc) t.s (.slice la t.l.length lc) := ItBx.new w _ _ _ _ _ 51
  have hE1 : Ext w (w.alloc (.cells #[i64 t.k, u64 t.n, .slice ba t.b.length bc, .string t.s, .slice la t.l.length lc] 51)) := (Ext.refl _).alloc _
  have itW : ∀ W, Ext w W → ItC W t [i64 t.k, u64 t.n, .slice ba t.b.length bc, .string t.s, .slice la t.l.length lc] := fun W h => by rw [← ecs]; exact ht.ext h
  simp
  generalize (w.alloc (.cells #[i64 t.k, u64 t.n, .slice ba t.b.length bc, .string t.s, .slice la t.l.length lc] 51)) = w1 at *
  refine FN.mono (rrightI_c (by omega) (itW _ hE1)) ?_
  rintro _ w2 ⟨rfl, hE2⟩
  have x2 := x1.ext hE2
  have hE02 := hE1.trans hE2
  unfold chkI
  cases hr : rightT t with
  | false =>
    simp
    exact hE02
  | true =>
    simp [x2.c0, x2.c1, x2.c2, x2.c3, x2.c4]
    refine FN.mono (rdepth_c (by omega) (itW _ hE02)) ?_
    rintro _ w3 ⟨rfl, hE3⟩
    have x3 := x2.ext hE3
    have hE03 := hE02.trans hE3
    by_cases hd : 8 < depT t
    · have hd' : (8 : Int) < depT t := by omega
      simp [hd, hd']
      exact hE03
    · have hd' : ¬ (8 : Int) < depT t := by omega
      have hcd := cd_of_right _ t (Nat.le_refl _) hok hr
      have hbs := bytes_sz hcd
      simp [hd, hd', x3.c0, x3.c1, x3.c2, x3.c3, x3.c4]
      refine FN.mono (docBytesA_c hcd _ w3 (itW _ hE03) (by omega)) ?_
      rintro _ w4 ⟨v, rfl, ho, hE4⟩
      have l4 := fun ty W => (sl_of_own ho).isLen (P := Tryz.prog) (t := 31) (by simp) ty W
      by_cases hb : 65536 < (bytesI t).length
      · have hb' : (65536 : Int) < (bytesI t).length := by omega
        simp [l4, hb, hb']
        exact hE03.trans hE4
      · have hb' : ¬ (65536 : Int) < (bytesI t).length := by omega
        simp [l4, hb, hb']
        exact hE03.trans hE4
end Go.Proofs
