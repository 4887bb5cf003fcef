/-
  Contracts of the functions that the law reaches, step by step.
-/
import Derived.Test.YthamfghcfjhifaaGreatDoorAgO
import Derived.Test.YthamfghcfjhifaaGreatDoorAeL
namespace Go.Proofs
open Pk
set_option maxRecDepth 10000
attribute [local simp] beq_dec bne_dec
def txA (s : ByteArray) : Option Bool := some (txtOk s)
theorem txt_txA {w : World} (hT : Tabs w) : Txt txA w := fun s b hs W hW => by
  cases hs
  exact crunes_c s (hT.ext hW)
theorem itemP_ne : ∀ (f : Nat) (bs : List Int), itemP txA f bs ≠ .error (-1)
  | 0, bs, h => by simp [itemP] at h
  | f + 1, bs, h => by
    have hlist : ∀ (n : Nat) (bs : List Int), listP (itemP txA f) n bs ≠ .error (-1) := by
      intro n
      induction n with
      | zero => intro bs h; simp [listP] at h
      | succ n ih =>
        intro bs h
        simp only [listP] at h
        split at h
        · rename_i c hc; cases h; exact itemP_ne f bs hc
        · split at h
          · rename_i c hc; cases h; exact ih _ hc
          · cases h
    simp only [itemP] at h
    split at h
    · cases h
    split at h
    · cases h
    split at h
    · cases h
    unfold headedP at h
    split at h
    · cases h
    unfold tailP at h
    split at h
    · cases h
    split at h
    · split at h <;> cases h
    split at h
    · split at h
      · split at h
        · rename_i hn; cases hn
        · cases h
        · cases h
      · cases h
    split at h
    · split at h
      · rename_i c hc; cases h; exact hlist _ _ hc
      · cases h
    · cases h
theorem firstP_ne (bs : List Int) : firstP txA bs ≠ .error (-1) := by
  unfold firstP
  split
  · exact itemP_ne 8 bs
  · intro h; cases h
/-- While the document reads a list. -/
structure DlI (w w7 w' : World) (xb : Nat) (bs : List Int) (at' : Nat) (rest : List Int) (l : List It) (u : Value) (css : List (List Value)) (p : List Int → Except Int (It × List Int)) (N k : Nat) : Prop where
  x : ItBx w' xb 4 0 (.slice none 0 0) ⟨#[]⟩ u
  own : w'.ownsRow w7.heap.size 51 5 u l.length css.flatten
  it : ItPs (fun j => w7.heap.size ≤ j ∧ (slN u = false → j ≠ slB u)) w' l css
  ext : Ext w w'
  res : ItBx w' w.heap.size 0 0 (.slice none 0 0) ⟨#[]⟩ (.slice none 0 0)
  sz : w7.heap.size ≤ w'.heap.size
  le : at' ≤ bs.length
  len : l.length ≤ at'
  eq : listP p N rest = (match listP p k (bs.drop at') with | .error c => .error c | .ok (l', r') => .ok (l ++ l', r'))
set_option maxHeartbeats 4000000 in
theorem dfirst_c {w0 : World} (hT : Tabs w0) : ∀ (f : Nat), f ≤ 8 → ∀ {w : World} {v : Value} {bs : List Int}, Ext w0 w → SlB w 1 v bs.length (bs.map u8) → (∀ x ∈ bs, 0 ≤ x ∧ x ≤ 255) → bs.length ≤ 65536 → FN Tryz.prog 116 [v, i64 (8 - (f : Int))] w fun e w' => FiR w w' bs (itemP txA f bs) e
  | 0, _, w, v, bs, h0, h, hok, hbl => by
    refine FN_enter Tryz.func116 rfl rfl (by kernel_rfl) ?_
    have b1 : ItBx (w.alloc (.cells #[i64 0, u64 0, .slice none 0 0, .string ⟨#[]⟩, .slice none 0 0] 51)) w.heap.size 0 0 (.slice none 0 0) ⟨#[]⟩ (.slice none 0 0) := ItBx.new w _ _ _ _ _ 51
    have hE : Ext w (w.alloc (.cells #[i64 0, u64 0, .slice none 0 0, .string ⟨#[]⟩, .slice none 0 0] 51)) := (Ext.refl w).alloc _
    simp [b1.c0, b1.c1, b1.c2, b1.c3, b1.c4, b1.fz]
    exact ⟨hE, rfl⟩
  | f + 1, hf, w, v, bs, h0, h, hok, hbl => by
    refine FN_enter Tryz.func116 rfl rfl (by kernel_rfl) ?_
    have hin : (8 : Int) - ((f + 1 : Nat) : Int) < 8 := by omega
    obtain ⟨inn, hinn⟩ : ∃ inn : Int, inn = 8 - ((f + 1 : Nat) : Int) := ⟨_, rfl⟩
    rw [← hinn] at hin ⊢
    have hin' : ¬ 8 ≤ inn := by omega
    have hlen := fun ty W => h.isLen (P := Tryz.prog) (t := 31) (by simp) ty W
    have b1 : ItBx (w.alloc (.cells #[i64 0, u64 0, .slice none 0 0, .string ⟨#[]⟩, .slice none 0 0] 51)) w.heap.size 0 0 (.slice none 0 0) ⟨#[]⟩ (.slice none 0 0) := ItBx.new w _ _ _ _ _ 51
    have hE1 : Ext w (w.alloc (.cells #[i64 0, u64 0, .slice none 0 0, .string ⟨#[]⟩, .slice none 0 0] 51)) := (Ext.refl w).alloc _
    have z1 : (w.alloc (.cells #[i64 0, u64 0, .slice none 0 0, .string ⟨#[]⟩, .slice none 0 0] 51)).heap.size = w.heap.size + 1 := by simp
    obtain ⟨R, hR⟩ : ∃ R, itemP txA (f + 1) bs = R := ⟨_, rfl⟩
    cases bs with
    | nil =>
      have hP : R = .error 121 := by rw [← hR]; rfl
      rw [hR, hP]
      simp [hin', hlen]
      generalize (w.alloc (.cells #[i64 0, u64 0, .slice none 0 0, .string ⟨#[]⟩, .slice none 0 0] 51)) = w1 at *
      have hd := dhead_c (w := w1) (v := v) (bs := []) (h.ext hE1) (by simp) (by simp)
      refine FN.mono (hd) ?_
      rintro _ w2 ⟨rfl, hE2⟩
      have b2 := b1.ext hE2
      simp [hdV, headP, b2.c0, b2.c1, b2.c2, b2.c3, b2.c4, b2.fz, cell_setCell]
      exact ⟨five_ext (hE1.trans hE2) (Nat.le_refl _) _ _ _ _ _, rfl⟩
    | cons c r =>
      have hc := hok c (by simp)
      have hz : (0 : Int) < (r.length : Int) + 1 := by omega
      have ix := fun W => h.index (P := Tryz.prog) (t := 31) (by simp) .i64 0 (by omega) (by simp) W
      simp at ix
      simp [hin', hlen]
      generalize (w.alloc (.cells #[i64 0, u64 0, .slice none 0 0, .string ⟨#[]⟩, .slice none 0 0] 51)) = w1 at *
      have c0 := (h.ext hE1).at_ 0 (u8 c) rfl
      simp at c0
      by_cases h6 : c = 246
      · subst h6
        have hP : R = .ok (simpleI 2, r) := by rw [← hR]; rfl
        rw [hR, hP]
        simp [ix, c0, b1.c0, b1.c1, b1.c2, b1.c3, b1.c4, b1.fz, cell_setCell]
        refine ⟨five_ext hE1 (Nat.le_refl _) _ _ _ _ _, _, by simp; omega, leaf_it 6 0⟩
      by_cases h5 : c = 244 ∨ c = 245
      · have hP : R = .ok (.mk 5 (c - 244) [] ⟨#[]⟩ [], r) := by
          rw [← hR]
          rcases h5 with rfl | rfl <;> rfl
        have g1 : 244 ≤ c := by omega
        have g2 : c ≤ 246 := by omega
        have q1 : IntKind.u64.wrap c = c := by simp [IntKind.wrap, IntKind.signed, IntKind.bits]; omega
        have q2 : IntKind.u64.wrap (c - 244) = c - 244 := by simp [IntKind.wrap, IntKind.signed, IntKind.bits]; omega
        rw [hR, hP]
        simp [ix, c0, g1, g2, h6, q1, q2, b1.c0, b1.c1, b1.c2, b1.c3, b1.c4, b1.fz, cell_setCell]
        refine ⟨five_ext hE1 (Nat.le_refl _) _ _ _ _ _, _, by simp; omega, leaf_it 5 (c - 244)⟩
      have hP : R = headedP txA (itemP txA f) (c :: r) := by
        rw [← hR]
        simp only [itemP]
        rw [beg_ne rfl (show c ≠ 244 by omega), beg_ne rfl (show c ≠ 245 by omega), beg_ne rfl h6]
        simp
      rw [hR, hP]
      have g1 : (decide (244 ≤ c) && decide (c ≤ 246)) = false := by
        rw [Bool.and_eq_false_iff]
        by_cases h7 : 244 ≤ c
        · right; simp; omega
        · left; simpa using h7
      refine with_tail (T := ∀ (σ : Env), σ 0 = v → σ 1 = i64 inn → σ 4 = ptr w.heap.size → FNt Tryz.prog 148 [v] w1 (RC ?dA ?KA ?QA σ []) Tok.mk) (fun tail => ?br) ?jn
      case br =>
        by_cases g2 : 244 ≤ c
        · have g3 : ¬ c ≤ 246 := by omega
          simp [ix, c0, g2, g3]
          refine tail _ ?_ ?_ ?_ <;> simp
        · simp [ix, c0, g2]
          refine tail _ ?_ ?_ ?_ <;> simp
      case jn =>
        intro σ e0 e1 e4
        have hd := dhead_c (h.ext hE1) hok (by omega)
        refine FN.mono (hd) ?_
        rintro _ w2 ⟨rfl, hE2⟩
        have b2 := b1.ext hE2
        have hE02 := hE1.trans hE2
        obtain ⟨Y, hY⟩ : ∃ Y, headedP txA (itemP txA f) (c :: r) = Y := ⟨_, rfl⟩
        rw [hY]
        unfold headedP at hY
        cases ho : headP (c :: r) with
        | none =>
          rw [ho] at hY
          subst hY
          simp [hdV, e4, b2.c0, b2.c1, b2.c2, b2.c3, b2.c4, b2.fz, cell_setCell]
          exact ⟨five_ext hE02 (Nat.le_refl _) _ _ _ _ _, rfl⟩
        | some q =>
          obtain ⟨mj, n, rest⟩ := q
          rw [ho] at hY
          simp only at hY
          obtain ⟨hmb, hnb, pre, hpre, hpne⟩ := headP_b hok ho
          have hpl := List.length_pos_iff.2 hpne
          have hlen1 : (c :: r).length = pre.length + rest.length := by rw [hpre, List.length_append]
          obtain ⟨A, hA⟩ : ∃ A : Nat, pre.length = A := ⟨_, rfl⟩
          have hdrop : (c :: r).drop A = rest := by rw [hpre, ← hA, List.drop_left]
          simp only [List.length_cons] at hlen1
          simp only [List.length_cons] at hbl
          have hAe : (r.length : Int) + 1 - rest.length = A := by omega
          have hA0 : ¬ A = 0 := by omega
          have qA : IntKind.i64.wrap ((r.length : Int) + 1 - A) = rest.length := by rw [wrap64 _ (by omega) (by omega)]; omega
          have qB : IntKind.u64.wrap (rest.length : Int) = rest.length := by simp [IntKind.wrap, IntKind.signed, IntKind.bits]; omega
          have hok' : ∀ x ∈ rest, 0 ≤ x ∧ x ≤ 255 := fun x hx => hok x (by rw [hpre]; simp [hx])
          have hz5 : w.heap.size < w1.heap.size := by omega
          have mid : ∀ (K : Nat), (K : Int) ≤ rest.length → (IntKind.i64.wrap (K : Int) = K ∧ IntKind.i64.wrap ((A : Int) + K) = (A : Int) + K) ∧ (∀ W, (Instr.sliceAt 31 v (some (i64 A)) (some (i64 ((A : Int) + K))) none).run Tryz.prog W = .ok (slcL (slcH v (A + K)) A 1) W) ∧ SlB w 1 (slcL (slcH v (A + K)) A 1) (rest.take K).length ((rest.take K).map u8) := fun K hK => by
            obtain ⟨hm1, hm2⟩ := slb_mid (P := Tryz.prog) (t := 31) h (by simp) zb1 .i64 .i64 A (A + K) (by omega) (by simp; omega)
            refine ⟨⟨wrap64 _ (by omega) (by omega), wrap64 _ (by omega) (by omega)⟩, by simpa only [Int.natCast_add] using hm1, ?_⟩
            have em : ((((c :: r).map u8).take ((A + K) * 1)).drop (A * 1)) = (rest.take K).map u8 := by
              rw [← List.map_take, ← List.map_drop, Nat.mul_one, Nat.mul_one, ← hdrop, List.drop_take, Nat.add_sub_cancel_left]
            rw [em] at hm2
            rw [List.length_take, Nat.min_eq_left (by omega)]
            simpa using hm2
          unfold tailP at hY
          by_cases m0 : mj = 0
          · subst m0
            rw [if_pos rfl] at hY
            subst hY
            simp [hdV, hAe, hA0, e4, b2.c0, b2.c1, b2.c2, b2.c3, b2.c4, b2.fz, cell_setCell]
            refine ⟨five_ext hE02 (Nat.le_refl _) _ _ _ _ _, _, by simp; omega, leaf_it 1 n⟩
          rw [if_neg m0] at hY
          by_cases m2 : mj = 2
          · subst m2
            by_cases hnl : n ≤ rest.length
            · rw [if_pos rfl, if_pos hnl] at hY
              subst hY
              have hnl' : ¬ (rest.length : Int) < n := by omega
              obtain ⟨K, rfl⟩ : ∃ K : Nat, n = K := ⟨n.toNat, by omega⟩
              obtain ⟨⟨k1, k2⟩, hm1, hm2⟩ := mid K hnl
              simp [hdV, hAe, hA0, e0, hlen, qA, qB, hnl', k1, k2, hm1]
              have hE3 : Ext w2 (w2.alloc (.cells #[] 5)) := (Ext.refl _).alloc _
              have ho3 : (w2.alloc (.cells #[] 5)).ownsRow w2.heap.size 5 1 (.slice (some ⟨w2.heap.size, 0, none⟩) 0 0) 0 [] := own_empty w2 _ (Nat.le_refl _)
              obtain ⟨v4, w4, hr4, ho4, hE4⟩ := append_newB (P := Tryz.prog) (t := 31) (ty := 31) (e := 5) (s := 1) (by simp) (by simp) (by kernel_rfl) ho3 ((hm2.ext hE02).ext hE3) u8one (by rw [List.length_take]; omega) (by have := hE3.size; omega)
              obtain ⟨a4, c4, rfl⟩ := own_val ho4
              have hE24 := hE3.trans hE4
              have b4 := b2.ext hE24
              simp [hr4, e4, b4.c0, b4.c1, b4.c2, b4.c3, b4.c4, b4.fz, cell_setCell]
              have hmin : min K rest.length = K := by omega
              rw [k1, k2, hmin]
              rw [List.length_take, hmin] at ho4
              have m5 := five_mod w4 w.heap.size (i64 2) (u64 0) (.slice a4 K c4) (.string ⟨#[]⟩) (.slice none 0 0)
              have z4 := hE24.size
              have z2 := hE2.size
              have hv : (((c :: r).length : Int) - ((rest.drop K).length : Int)) = (A : Int) + K := by rw [List.length_cons, List.length_drop]; omega
              refine ⟨five_ext (hE02.trans hE24) (Nat.le_refl _) _ _ _ _ _, [i64 2, u64 0, .slice a4 K c4, .string ⟨#[]⟩, .slice none 0 0], by rw [hv], ?_⟩
              refine itP_mk.2 ⟨_, _, [], rfl, ?_, SlB.nil _ 5 0, fun hb => ?_, fun h => (h rfl).elim, itPs_nil, ?_, by simp⟩
              · have ho5 := own_keep ho4 (w' := (((((w4.setCell ⟨w.heap.size, 0, none⟩ (i64 2)).setCell ⟨w.heap.size, 1, none⟩ (u64 0)).setCell ⟨w.heap.size, 2, none⟩ (.slice a4 K c4)).setCell ⟨w.heap.size, 3, none⟩ (.string ⟨#[]⟩)).setCell ⟨w.heap.size, 4, none⟩ (.slice none 0 0))) fun hn hl => m5.blk _ hl (by have := own_ge ho4 hn; omega)
                rw [List.length_take, hmin]
                exact (sl_of_own ho5).toB
              · have hz := own_nil ho4 (by
                  rcases Nat.eq_zero_or_pos K with hk | hk
                  · subst hk; simp at hb
                  · exact hk)
                have := own_ge ho4 hz
                omega
              · rw [List.length_take]; omega
            · rw [if_pos rfl, if_neg hnl] at hY
              subst hY
              have hnl' : (rest.length : Int) < n := by omega
              simp [hdV, hAe, hA0, e0, e4, hlen, qA, qB, hnl', b2.c0, b2.c1, b2.c2, b2.c3, b2.c4, b2.fz, cell_setCell]
              exact ⟨five_ext hE02 (Nat.le_refl _) _ _ _ _ _, rfl⟩
          rw [if_neg m2] at hY
          by_cases m3 : mj = 3
          · subst m3
            by_cases hnl : n ≤ rest.length
            · rw [if_pos rfl, if_pos hnl] at hY
              have hnl' : ¬ (rest.length : Int) < n := by omega
              obtain ⟨K, rfl⟩ : ∃ K : Nat, n = K := ⟨n.toNat, by omega⟩
              obtain ⟨⟨k1, k2⟩, hm1, hm2⟩ := mid K hnl
              simp [hdV, hAe, hA0, e0, hlen, qA, qB, hnl', k1, k2, hm1]
              have hcv := conv_b (hm2.ext hE02)
              obtain ⟨T, hT'⟩ : ∃ T, T = strOfNums (rest.take K) := ⟨_, rfl⟩
              simp only [Int.toNat_natCast] at hY
              rw [← hT'] at hcv hY
              have hTs : T.size ≤ 9223372036854775807 := by rw [hT', strOfNums_size, List.length_take]; omega
              simp [hcv]
              refine FN.mono (rrunes_c T hTs w2) ?_
              rintro _ w3 ⟨⟨nr, rfl⟩, rfl⟩
              cases hb : txtOk T with
              | true =>
                rw [show txA T = some true by unfold txA; rw [hb]] at hY
                subst hY
                simp [e4, b2.c0, b2.c1, b2.c2, b2.c3, b2.c4, b2.fz, cell_setCell]
                refine ⟨five_ext hE02 (Nat.le_refl _) _ _ _ _ _, _, rfl.trans ?_, itP_mk.2 ⟨_, _, [], rfl, SlB.nil _ 1 0, SlB.nil _ 5 0, fun h => (h rfl).elim, fun h => (h rfl).elim, itPs_nil, by simp, by simp⟩⟩
                rw [k1, k2]
                simp
                omega
              | false =>
                rw [show txA T = some false by unfold txA; rw [hb]] at hY
                subst hY
                simp [e4, b2.c0, b2.c1, b2.c2, b2.c3, b2.c4, b2.fz, cell_setCell]
                exact ⟨five_ext hE02 (Nat.le_refl _) _ _ _ _ _, rfl⟩
            · rw [if_pos rfl, if_neg hnl] at hY
              subst hY
              have hnl' : (rest.length : Int) < n := by omega
              simp [hdV, hAe, hA0, e0, e4, hlen, qA, qB, hnl', b2.c0, b2.c1, b2.c2, b2.c3, b2.c4, b2.fz, cell_setCell]
              exact ⟨five_ext hE02 (Nat.le_refl _) _ _ _ _ _, rfl⟩
          rw [if_neg m3] at hY
          by_cases m4 : mj = 4
          · subst m4
            rw [if_pos rfl] at hY
            subst hY
            simp [hdV, hAe, hA0]
            obtain ⟨N, rfl⟩ : ∃ N : Nat, n = N := ⟨n.toNat, by omega⟩
            simp only [Int.toNat_natCast]
            have hE7 : Ext w2 (w2.alloc (.cells #[i64 4, u64 0, .slice none 0 0, .string ⟨#[]⟩, .slice none 0 0] 51)) := (Ext.refl _).alloc _
            have x7 : ItBx (w2.alloc (.cells #[i64 4, u64 0, .slice none 0 0, .string ⟨#[]⟩, .slice none 0 0] 51)) w2.heap.size 4 0 (.slice none 0 0) ⟨#[]⟩ (.slice none 0 0) := ItBx.new w2 _ _ _ _ _ 51
            have z7 : (w2.alloc (.cells #[i64 4, u64 0, .slice none 0 0, .string ⟨#[]⟩, .slice none 0 0] 51)).heap.size = w2.heap.size + 1 := by simp
            have z2 := hE2.size
            obtain ⟨xb, hxb⟩ : ∃ xb, xb = w2.heap.size := ⟨_, rfl⟩
            rw [← hxb] at x7 z7 ⊢
            generalize (w2.alloc (.cells #[i64 4, u64 0, .slice none 0 0, .string ⟨#[]⟩, .slice none 0 0] 51)) = w7 at *
            have hE07 := hE02.trans hE7
            refine WC_loop (fun m ρ ds w' => ∃ (i at' : Nat) (l : List It) (u : Value) (css : List (List Value)), m = N - i ∧ i ≤ N ∧ ρ 0 = v ∧ ρ 1 = i64 inn ∧ ρ 4 = ptr w.heap.size ∧ ρ 8 = u64 N ∧ ρ 9 = i64 at' ∧ ρ 13 = ptr xb ∧ ρ 14 = u64 i ∧ ds = [] ∧
              DlI w w7 w' xb (c :: r) at' rest l u css (itemP txA f) N (N - i)) N ⟨0, A, [], .slice none 0 0, [], rfl, Nat.zero_le _, by simp [e0], by simp [e1], by simp [e4], by simp, by simp, by simp, by simp, rfl, ?_⟩ ?_
            · refine ⟨x7, World.ownsRow_nil _ _ _ _, itPs_nil, hE07, b2.ext hE7, Nat.le_refl _, by simp; omega, by simp, ?_⟩
              rw [hdrop, Nat.sub_zero]
              cases listP (itemP txA f) N rest with
              | error c => rfl
              | ok q => rfl
            · rintro m ρ ds w8 ⟨i, at', l, u, css, rfl, hiN, f0, f1, f4, f8, f9, f13, f14, rfl, hI⟩
              obtain ⟨ua, uc, rfl⟩ := own_val hI.own
              have hx8 := hI.x
              have hr8 := hI.res
              have hle8 := hI.le
              have hll8 := hI.len
              by_cases hi : i < N
              · have hi' : (i : Int) < N := by omega
                obtain ⟨hs1, hs2⟩ := slb_low (P := Tryz.prog) (t := 31) h (by simp) zb1 .i64 at' hle8
                have ed : (((c :: r).map u8).drop (at' * 1)) = ((c :: r).drop at').map u8 := by rw [Nat.mul_one, List.map_drop]
                rw [ed, show (c :: r).length - at' = ((c :: r).drop at').length by rw [List.length_drop]] at hs2
                have hqi : IntKind.i64.wrap (inn + 1) = 8 - (f : Int) := by rw [wrap64 _ (by omega) (by omega)]; omega
                have hok8 : ∀ x ∈ (c :: r).drop at', 0 ≤ x ∧ x ≤ 255 := fun x hx => hok x (List.mem_of_mem_drop hx)
                have hbl8 : ((c :: r).drop at').length ≤ 65536 := by rw [List.length_drop, List.length_cons]; omega
                obtain ⟨D, hD⟩ : ∃ D, (c :: r).drop at' = D := ⟨_, rfl⟩
                have hDl : D.length + at' = r.length + 1 := by rw [← hD, List.length_drop]; simp only [List.length_cons] at hle8 ⊢; omega
                have heq := hI.eq
                rw [hD] at hs2 hok8 hbl8 heq
                obtain ⟨k, hk⟩ : ∃ k, N - i = k + 1 := ⟨N - i - 1, by omega⟩
                have hk' : N - (i + 1) = k := by omega
                rw [hk] at heq
                simp only [listP] at heq
                have hih := dfirst_c hT f (by omega) (h0.trans hI.ext) (hs2.ext hI.ext) hok8 hbl8
                simp [f0, f1, f8, f9, f14, hi', hs1, hqi]
                refine FN.mono hih ?_
                rintro e9 w9 ⟨hE9, hp9⟩
                have s8 := hI.sz
                have s9 := hE9.size
                cases hq : itemP txA f D with
                | error c' =>
                  rw [hq] at hp9 heq
                  obtain rfl : e9 = _ := hp9
                  have hc' := itemP_code f D c' hq
                  have hc0 : ¬ c' = 0 := by unfold codeOk at hc'; omega
                  simp only at heq
                  rw [heq]
                  have hE10 : Ext w9 (w9.alloc (.cells #[i64 0, u64 0, .slice none 0 0, .string ⟨#[]⟩, .slice none 0 0] 51)) := (Ext.refl _).alloc _
                  have x10 : ItBx (w9.alloc (.cells #[i64 0, u64 0, .slice none 0 0, .string ⟨#[]⟩, .slice none 0 0] 51)) w9.heap.size 0 0 (.slice none 0 0) ⟨#[]⟩ (.slice none 0 0) := ItBx.new w9 _ _ _ _ _ 51
                  have hr9 := hr8.ext hE9
                  simp [f4, hc0, hr9.c0, hr9.c1, hr9.c2, hr9.c3, hr9.c4, hr9.fz, cell_setCell]
                  exact ⟨five_ext ((hI.ext.trans hE9).trans hE10) (Nat.le_refl _) _ _ _ _ _, rfl⟩
                | ok q =>
                  obtain ⟨t, rest2⟩ := q
                  rw [hq] at hp9 heq
                  obtain ⟨cs, rfl, hit⟩ := hp9
                  simp only at heq
                  obtain ⟨va, vm, vc, va', vm', vc', hcs⟩ := itC_form hit.any
                  rw [hcs]
                  have hE10 : Ext w9 (w9.alloc (.cells #[i64 t.k, u64 t.n, .slice va vm vc, .string t.s, .slice va' vm' vc'] 51)) := (Ext.refl _).alloc _
                  have x10 : ItBx (w9.alloc (.cells #[i64 t.k, u64 t.n, .slice va vm vc, .string t.s, .slice va' vm' vc'] 51)) w9.heap.size t.k t.n (.slice va vm vc) t.s (.slice va' vm' vc') := ItBx.new w9 _ _ _ _ _ 51
                  have hx9 := hx8.ext hE9
                  have z10 : (w9.alloc (.cells #[i64 t.k, u64 t.n, .slice va vm vc, .string t.s, .slice va' vm' vc'] 51)).heap.size = w9.heap.size + 1 := by simp
                  have hle9 : at' ≤ r.length + 1 := hle8
                  simp [f13, hx9.c4]
                  have hx10 := (hx8.ext hE9).ext hE10
                  have hr10 := (hr8.ext hE9).ext hE10
                  have it10 := hit.ext hE10
                  have own10 := own_ext (own_ext hI.own hE9) hE10
                  have s10 := hE10.size
                  obtain ⟨tb, htb⟩ : ∃ tb, tb = w9.heap.size := ⟨_, rfl⟩
                  rw [← htb] at x10 ⊢
                  generalize (w9.alloc (.cells #[i64 t.k, u64 t.n, .slice va vm vc, .string t.s, .slice va' vm' vc'] 51)) = w10 at *
                  have s10' : w10.heap.size = tb + 1 := by rw [htb]; exact z10
                  have hc1 : ∀ u ∈ cs, u.oneCell' = true := by rw [hcs]; simp [Value.oneCell']
                  have hE11 : Ext w10 (w10.alloc (.cells cs.toArray 51)) := (Ext.refl _).alloc _
                  have h1 : Sl (w10.alloc (.cells cs.toArray 51)) 5 (.slice (some ⟨w10.heap.size, 0, none⟩) 1 1) 1 cs := Sl.made w10 cs 51 5 1 (by rw [hcs]; rfl)
                  have z11 : (w10.alloc (.cells cs.toArray 51)).heap.size = w10.heap.size + 1 := by simp
                  have hxl := hx8.lt
                  obtain ⟨v12, w12, hr12, ho12, hM12, hnew⟩ := append_own (P := Tryz.prog) (t := 48) (ty := 48) (e := 51) (s := 5) (by simp) (by simp) (by kernel_rfl) (own_ext own10 hE11) h1 hc1 (by omega) (by omega)
                  obtain ⟨na, nc, rfl⟩ := own_val ho12
                  have x11 := hx10.ext hE11
                  have r11 := hr10.ext hE11
                  have it11 := it10.ext hE11
                  rw [s10'] at hr12
                  rw [hcs] at hr12 hE11 hM12 z11 x11 r11 it11 hnew
                  have hul : slN (.slice ua l.length uc) = false → w7.heap.size ≤ slB (.slice ua l.length uc) ∧ slB (.slice ua l.length uc) < w8.heap.size := fun hn => by
                    obtain ⟨c, hc⟩ := own_obj hI.own hn
                    exact ⟨own_ge hI.own hn, (Array.getElem?_eq_some_iff.1 hc).1⟩
                  have x12 := x11.mod hM12 fun hh => by have := (hul hh.1).1; omega
                  have r12 := r11.mod hM12 fun hh => by have := (hul hh.1).1; omega
                  have hM13 : Mod (fun j => j = xb) w12 (w12.setCell ⟨xb, 4, none⟩ (.slice na (l.length + 1) nc)) := (Mod.refl _ _).setC _ _
                  have x13 : ItBx (w12.setCell ⟨xb, 4, none⟩ (.slice na (l.length + 1) nc)) xb 4 0 (.slice none 0 0) ⟨#[]⟩ (.slice na (l.length + 1) nc) :=
                    ⟨by simp [x12.c0, cell_setCell], by simp [x12.c1, cell_setCell], by simp [x12.c2, cell_setCell], by simp [x12.c3, cell_setCell], by simp [x12.c4, cell_setCell], fun j => by simp [x12.fz j]⟩
                  have hlt2 := itemP_lt (tx := txA) f D t rest2 hok8 hq
                  obtain ⟨pr2, hpr1, hpr2⟩ := hlt2
                  have hpl2 := List.length_pos_iff.2 hpr2
                  have hDl2 : D.length = pr2.length + rest2.length := by rw [hpr1, List.length_append]
                  have hdr2 : (c :: r).drop (at' + pr2.length) = rest2 := by rw [← List.drop_drop, hD, hpr1, List.drop_left]
                  have qs : IntKind.i64.wrap ((at' : Int) + ((D.length : Int) - rest2.length)) = ((at' + pr2.length : Nat) : Int) := by rw [wrap64 _ (by omega) (by omega)]; omega
                  have qi : IntKind.u64.wrap ((i : Int) + 1) = ((i + 1 : Nat) : Int) := by simp [IntKind.wrap, IntKind.signed, IntKind.bits]; omega
                  simp [f0, f1, f4, f8, f9, f13, f14, hr12, x12.c4, x12.fz, qs, qi]
                  refine ⟨N - (i + 1), by omega, i + 1, rfl, by omega, at' + pr2.length, by push_cast; rfl, by push_cast; rfl, l ++ [t], _, css ++ [cs], x13, ?_, ?_, ?_, ?_, ?_, ?_, ?_, ?_⟩
                  · have := own_keep ho12 (w' := w12.setCell ⟨xb, 4, none⟩ (.slice na (l.length + 1) nc)) fun hn hl => hM13.blk _ hl (by have := own_ge ho12 hn; omega)
                    simpa using this
                  · have hM813 : Mod (fun j => j = xb ∨ (slN (.slice ua l.length uc) = false ∧ j = slB (.slice ua l.length uc))) w8 (w12.setCell ⟨xb, 4, none⟩ (.slice na (l.length + 1) nc)) :=
                      ((((hE9.trans hE10).trans hE11).mod.trans (hM12.weaken fun j h => .inr h)).trans (hM13.weaken fun j h => .inl h))
                    have hM113 : Mod (fun j => j = xb ∨ (slN (.slice ua l.length uc) = false ∧ j = slB (.slice ua l.length uc))) w10 (w12.setCell ⟨xb, 4, none⟩ (.slice na (l.length + 1) nc)) :=
                      ((hE11.mod.trans (hM12.weaken fun j h => .inr h)).trans (hM13.weaken fun j h => .inl h))
                    have hit13 := it10.go (Pd' := fun j => w7.heap.size ≤ j ∧ (slN (.slice na (l.length + 1) nc) = false → j ≠ slB (.slice na (l.length + 1) nc))) hM113 (fun j hj hp => ⟨⟨by omega, fun hn e => by
                      rcases hnew hn with ⟨h1, h2⟩ | h2
                      · have := (hul h1).2; omega
                      · omega⟩, fun hh => by
                      rcases hh with h | ⟨h, h'⟩
                      · omega
                      · have := (hul h).2; omega⟩)
                    have hold13 := hI.it.go (Pd' := fun j => w7.heap.size ≤ j ∧ (slN (.slice na (l.length + 1) nc) = false → j ≠ slB (.slice na (l.length + 1) nc))) hM813 (fun j hj hp => ⟨⟨hp.1, fun hn e => by
                      rcases hnew hn with ⟨h1, h2⟩ | h2
                      · exact hp.2 h1 (by omega)
                      · omega⟩, fun hh => by
                      rcases hh with h | ⟨h, h'⟩
                      · omega
                      · exact hp.2 h h'⟩)
                    exact hold13.snoc hit13
                  · exact ((((hI.ext.trans hE9).trans hE10).trans hE11).mod (S := fun j => w.heap.size ≤ j)).trans (hM12.weaken fun j hj => by have := (hul hj.1).1; omega) |>.trans (hM13.weaken fun j hj => by omega) |>.ext fun _ h => h
                  · exact r12.mod hM13 (by omega)
                  · have := hM12.size
                    have := hM13.size
                    omega
                  · simp only [List.length_cons]; omega
                  · simp; omega
                  · rw [hk', heq, hdr2]
                    cases listP (itemP txA f) k rest2 with
                    | error c => rfl
                    | ok q => simp
              · obtain rfl : i = N := by omega
                have hi' : ¬ (i : Int) < i := by omega
                have heq := hI.eq
                rw [Nat.sub_self] at heq
                simp only [listP, List.append_nil] at heq
                rw [heq]
                simp [f4, f8, f9, f13, f14, hx8.c0, hx8.c1, hx8.c2, hx8.c3, hx8.c4, hr8.c0, hr8.c1, hr8.c2, hr8.c3, hr8.c4, hr8.fz, cell_setCell]
                have m5 := five_mod w8 w.heap.size (i64 4) (u64 0) (.slice none 0 0) (.string ⟨#[]⟩) (.slice ua l.length uc)
                have hv : (((c :: r).length : Int) - (((c :: r).drop at').length : Int)) = (at' : Int) := by simp only [List.length_cons, List.length_drop] at hle8 ⊢; omega
                refine ⟨five_ext hI.ext (Nat.le_refl _) _ _ _ _ _, [i64 4, u64 0, .slice none 0 0, .string ⟨#[]⟩, .slice ua l.length uc], by rw [hv], ?_⟩
                have ho9 := own_keep hI.own (w' := (((((w8.setCell ⟨w.heap.size, 0, none⟩ (i64 4)).setCell ⟨w.heap.size, 1, none⟩ (u64 0)).setCell ⟨w.heap.size, 2, none⟩ (.slice none 0 0)).setCell ⟨w.heap.size, 3, none⟩ (.string ⟨#[]⟩)).setCell ⟨w.heap.size, 4, none⟩ (.slice ua l.length uc))) fun hn hl => m5.blk _ hl (by have := own_ge hI.own hn; omega)
                refine list_it (sl_of_own ho9).toB (hI.it.go m5 fun k _ hk => ⟨by omega, by omega⟩) (fun hl => ?_) (by simp only [List.length_cons] at hle8; omega)
                have := own_ge hI.own (own_nil hI.own (List.length_pos_iff.2 hl))
                omega
          · rw [if_neg m4] at hY
            subst hY
            by_cases m1 : mj = 1
            · simp [hdV, hAe, hA0, e4, m1, b2.c0, b2.c1, b2.c2, b2.c3, b2.c4, b2.fz, cell_setCell]
              exact ⟨five_ext hE02 (Nat.le_refl _) _ _ _ _ _, rfl⟩
            · have m5 : 4 < mj := by omega
              simp [hdV, hAe, hA0, e4, m1, m5, b2.c0, b2.c1, b2.c2, b2.c3, b2.c4, b2.fz, cell_setCell]
              exact ⟨five_ext hE02 (Nat.le_refl _) _ _ _ _ _, rfl⟩
end Go.Proofs
