/-
  Contracts of the functions that the law reaches, step by step.
-/
import Derived.Test.YtljaeeagbokacaaTrP
namespace Go.Proofs
open Pk
set_option maxRecDepth 10000
theorem Sl.keepSet {w : World} {s n : Nat} {u : Value} {cs : List Value} (h : Sl w s u n cs) {b i : Nat} (hne : 0 < cs.length → slB u ≠ b) (x : Value) : Sl (w.setCell ⟨b, i, none⟩ x) s u n cs := by
  refine ⟨h.len, h.val, fun j c hj => ?_⟩
  have hj' := (List.getElem?_eq_some_iff.1 hj).1
  rw [World.cell?_setCell_other _ _ _ _ (fun e => hne (by omega) (by simpa using (congrArg Addr.block e).symm))]
  exact h.at_ j c hj
set_option maxHeartbeats 1000000 in
theorem rdrop_c {w : World} {v : Value} {s : ML} (h : Rws w v s) (hs : Asc s) (x : Int) (hb : s.length ≤ 1000) :
    FN Try.prog 39 [.agg #[v], u32 x] w fun e w' => ∃ v', e = .returned (.tuple #[.agg #[v'], u32 (if dropE s x = 0 then (mget s x).getD 0 else 0), .int .i64 (dropE s x)]) ∧ Ext w w' ∧ Rws w' v' (if dropE s x = 0 then rdel s x else s) := by
  refine FN_enter Try.func39 rfl rfl (by kernel_rfl) ?_
  obtain ⟨w1, hw1⟩ : ∃ w1, w1 = (w.alloc (.cells #[v] 45)).alloc (.cells #[.slice none 0 0] 45) := ⟨_, rfl⟩
  have hE : Ext w w1 := by rw [hw1]; exact ((Ext.refl w).alloc _).alloc _
  obtain ⟨b, hbb⟩ : ∃ b, b = w.heap.size := ⟨_, rfl⟩
  have hV : Var w1 b v := by rw [hw1, hbb]; exact (Var.new w v 45).ext ((Ext.refl _).alloc _)
  have hZ : Var w1 (b + 1) (.slice none 0 0) := by
    have := Var.new (w.alloc (.cells #[v] 45)) (.slice none 0 0) 45
    rw [World.size_alloc, ← hbb] at this
    rw [hw1]; exact this
  have h1 := h.ext hE
  have hsb : 0 < (pairCells s).length → slB v < b := fun h0 => by have := h.lt h0; omega
  have hsl := spot_le s x
  obtain ⟨c, p, hv⟩ := h.isSlice
  by_cases hx0 : x = 0
  · have e2 : dropE s x = 2 := by unfold dropE; rw [if_pos hx0]
    have hx0b : (x == 0) = true := by simpa using hx0
    have a2 := Sl.keepSet h1 (b := b + 1) (i := 0) (fun h0 => by have := hsb h0; omega) v
    have a1 : Ext w (w1.setCell ⟨b + 1, 0, none⟩ v) := hE.setCell _ _ (by simp only; omega)
    rw [e2]
    simp only [hv] at a1 a2
    simp [hx0b]
    rw [← hw1, ← hbb]
    simp [hv, hZ.cell, hZ.thaw, (hZ.set (.slice c s.length p)).cell]
    exact ⟨a1, a2⟩
  · have hx0b : (x == 0) = false := by simpa using hx0
    simp [hx0b]
    rw [← hw1, ← hbb]
    refine FN.mono (find_c h1 hs x hb) ?_
    rintro _ w3 ⟨rfl, hE3⟩
    have hV3 := hV.ext hE3
    have hZ3 := hZ.ext hE3
    have h3 := h1.ext hE3
    simp
    cases ht : there s x with
    | false =>
      have e2 : dropE s x = 5 := by
        unfold dropE; rw [if_neg hx0, if_pos]
        unfold there at ht; simpa using ht
      have a2 := Sl.keepSet h3 (b := b + 1) (i := 0) (fun h0 => by have := hsb h0; omega) v
      have a1 : Ext w (w3.setCell ⟨b + 1, 0, none⟩ v) := (hE.trans hE3).setCell _ _ (by simp only; omega)
      rw [e2]
      simp only [hv] at a1 a2 hV3
      simp [hV3.cell, hZ3.cell, hZ3.thaw, (hZ3.set (.slice c s.length p)).cell]
      exact ⟨a1, a2⟩
    | true =>
      obtain ⟨hk, hkx⟩ := there_spot hs ht
      have e2 : dropE s x = 0 := by
        unfold dropE; rw [if_neg hx0, if_neg]
        unfold there at ht; intro h0; simp_all
      have hm := asc_mget hs (x := x)
      rw [List.getElem?_eq_getElem hk, Option.bind_some, if_pos hkx] at hm
      rw [e2, if_pos rfl, if_pos rfl, hm]
      unfold rdel
      generalize hkd : spot s x = k at hk hkx hm hsl ⊢
      obtain ⟨c1, c2⟩ := pairCells_at s _ s[k] (List.getElem?_eq_getElem hk)
      obtain ⟨B, hB⟩ : ∃ B, B = w3.heap.size := ⟨_, rfl⟩
      obtain ⟨zs, hzs⟩ : ∃ zs, zs = s.take k ++ s.drop (k + 1) := ⟨_, rfl⟩
      obtain ⟨Z, hZd⟩ : ∃ Z, Z = pairCells zs := ⟨_, rfl⟩
      have hzl : zs.length = s.length - 1 := by rw [hzs]; simp; omega
      have hZl : Z.length = (s.length - 1) * 2 := by rw [hZd, pairCells_len, hzl]
      rw [← hzs]
      have lk0 : (s.take k).length = k := by rw [List.length_take]; omega
      have t1 : zs.take k = s.take k := by rw [hzs, List.take_append_of_le_length (by omega), List.take_of_length_le (by omega)]
      have t3 : zs.take (s.length - 1) = s.take k ++ s.drop (k + 1) := by rw [hzs, List.take_of_length_le (by rw [← hzs]; omega)]
      have hb3 := hZ3.lt
      simp
      refine WC_drawG 20 (fun g => g == b + 1) 19 (fun W => ∃ z, Var W (b + 1) z ∧ Ch B 84 2 Z W z (s.length - 1)) [some (fun u W => Ch B 84 2 Z W u 0), none, none, none, none, some (fun u W => Ch B 84 2 Z W u k), none, none, none, none, none,
        some (fun u W => Ch B 84 2 Z W u (s.length - 1)), some (fun u W => ∃ z, u = .agg #[z] ∧ Ch B 84 2 Z W z (s.length - 1)), none, none, none, none, none, none, some (fun _ _ => True)]
        (Kc B (fun g => g == b + 1) 84 2 Z) (Kc B (fun _ => false) 84 2 Z) rfl (by kernel_rfl) Kc.refl (fun _ _ _ => Kc.trans) (fun W h => hB ▸ h.old) (fun h => by omega) (fun h => by omega) (fun _ _ h => h.weaken) Kc.refl (fun _ _ _ => Kc.trans) ?_ fun W hW => ?_
      · intro A hA u a b h1 h2
        simp only [List.mem_cons, Option.some.injEq, List.mem_nil_iff, or_false, reduceCtorEq, false_or] at hA
        rcases hA with rfl | rfl | rfl | rfl | rfl
        · exact h2.row _ _ (by omega) h1
        · exact h2.row _ _ (by omega) h1
        · exact h2.row _ _ (by omega) h1
        · obtain ⟨z, e, h⟩ := h1
          exact ⟨z, e, h2.row _ _ (by omega) h⟩
        · trivial
      · have hWE : Ext w3 W := hW ▸ Ext.drew w3
        have hWs : W.heap.size = B := by rw [hW, hB]; rfl
        have hV4 := hV3.ext hWE
        have h4 := h3.ext hWE
        have d2 := h4.at_ _ _ c2
        simp only [← Nat.add_assoc] at d2
        have hvb : slB v < b := hsb (by rw [pairCells_len]; omega)
        have lk := ldOk_one (P := Try.prog) (t := 43) (by kernel_rfl) hV4.cell (fun g => g == b + 1) (by simp)
        have lk2 := ldOk_one (P := Try.prog) (t := 23) (by kernel_rfl) d2 (fun g => g == b + 1) (by simp; omega)
        have w1_ : IntKind.i64.wrap ((k : Int) + 1) = (k : Int) + 1 := wrap64 _ (by omega) (by omega)
        have sh := fun W => h4.sliceH (P := Try.prog) (t := 43) (by simp) .i64 k (by omega) (by omega) W
        have slw := fun W => h4.sliceL (P := Try.prog) (t := 43) (by simp) .i64 ((k : Int) + 1) (by omega) (by omega) W
        have ix := fun W => h4.index (P := Try.prog) (t := 43) (by simp) .i64 k (by omega) (by omega) W
        have et : ((k : Int) + 1).toNat = k + 1 := by omega
        simp [hV4.cell, lk, sh, w1_, slw, et, ix, lk2, d2]
        have hsz : ∀ W1, Kc B (fun _ => false) 84 2 Z W W1 → B ≤ W1.heap.size := fun W1 h => by have := h.old.size; omega
        have old : ∀ W1, Kc B (fun _ => false) 84 2 Z W W1 → Rws W1 v s := fun W1 hK => h4.kept fun a u ha hu => hK.old.cell hu ⟨by have := World.block_lt_of_cell? _ _ hu; omega, rfl⟩
        refine GO_some (fun W1 hK _ => ?_) fun u0 => ?_
        · simp
          exact ⟨Kc.of_ext ((Ext.refl _).alloc _), Ch.start _ (hsz _ hK)⟩
        simp
        refine GO_some (fun W1 hK hp => ?_) fun u5 => ?_
        · have a0 := fact hp 0 rfl (by kernel_rfl)
          obtain ⟨u', W2, hr, hc2, hk2⟩ := a0.append (P := Try.prog) (t := 43) (ty := 43) (m := k) (ys := pairCells (s.take k)) (by simp) (by simp) (by kernel_rfl) (by rw [pairCells_take]; exact (old _ hK).takeH k hsl) (pair_one _)
            (zstep hZd (List.take_zero) (by rw [Nat.zero_add]; exact t1) rfl) (by omega) (by omega) (hsz _ hK)
          simp [hr]
          rw [Nat.zero_add] at hc2
          exact ⟨hk2, hc2⟩
        simp
        refine GO_some (fun W1 hK hp => ?_) fun u11 => ?_
        · have a5 := fact hp 5 rfl (by kernel_rfl)
          obtain ⟨u', W2, hr, hc2, hk2⟩ := Ch.append (P := Try.prog) (t := 43) (ty := 43) (m := s.length - (k + 1)) (ys := pairCells (s.drop (k + 1))) (by simp) (by simp) (by kernel_rfl) a5 (by rw [pairCells_drop]; exact (old _ hK).dropL (k + 1) (by omega)) (pair_one _)
            (zstep hZd t1 (by rw [show k + (s.length - (k + 1)) = s.length - 1 by omega]; exact t3) rfl) (by omega) (by omega) (hsz _ hK)
          simp [hr]
          rw [show k + (s.length - (k + 1)) = s.length - 1 by omega] at hc2
          exact ⟨hk2, hc2⟩
        simp
        refine GO_some (fun W1 hK hp => ?_) fun u12 => ?_
        · have a11 := fact hp 11 rfl (by kernel_rfl)
          obtain ⟨z1, z2, rfl⟩ := own_val a11.1
          simp
          exact ⟨Kc.refl _, a11⟩
        simp
        refine GO_some (fun W1 hK hp => ?_) fun u19 => ?_
        · obtain ⟨z, rfl, hz⟩ := fact hp 12 rfl (by kernel_rfl)
          obtain ⟨z1, z2, rfl⟩ := own_val hz.1
          have hZ4 : Var W1 (b + 1) (.slice none 0 0) := (hZ3.ext hWE).agr hK.old ⟨by omega, rfl⟩
          simp [hZ4.cell, hZ4.thaw]
          refine ⟨Kc.setOld (by simp) (by omega) _, _, hZ4.set _, ?_⟩
          exact (Kc.setOld (X := fun g => g == b + 1) (by simp) (by omega) _).row _ _ (by omega) hz
        refine GO_fin fun W1 hK hG hp => ?_
        obtain ⟨z, hZ1, hz⟩ := hG
        have hzs := sl_of_own hz.1
        rw [List.take_of_length_le (by omega)] at hzs
        have hE4 : Ext w W1 := by
          have h2 := hK.old
          have hw3 := (hE.trans hE3).trans hWE
          exact ⟨h2.os.trans hw3.os, h2.tape.trans hw3.tape, h2.out.trans hw3.out, Nat.le_trans hw3.size h2.size, fun g hg => (h2.blk g (by have := hw3.size; omega) ⟨by have := hw3.size; omega, by simp; omega⟩).trans (hw3.blk g hg)⟩
        obtain ⟨z1, z2, rfl⟩ := own_val hz.1
        simp [hZ1.cell]
        refine ⟨hE4, ?_⟩
        show Sl W1 2 _ zs.length (pairCells zs)
        rw [hzl, ← hZd]; exact hzs
end Go.Proofs
