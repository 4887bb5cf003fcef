/-
  Contracts of the functions that the law reaches, step by step.
-/
import Derived.Test.YtljaeeagbokacaaTrB
namespace Go.Proofs
open Pk
set_option maxRecDepth 10000
/-- Of a row that is being turned. -/
def turned (xs : List Int) (i j : Nat) : Int := if j < i ∨ xs.length < i + j + 1 then xs.getD (xs.length - 1 - j) 0 else xs.getD j 0
def adr (v : Value) (j : Nat) : Addr := ⟨slB v, slO v + j, none⟩
theorem reverse_c {w : World} {v : Value} {xs : List Int} (h : Sl w 1 v xs.length (xs.map u32)) (hf : ∀ j, j < xs.length → w.frozen? (adr v j) = false) (hb : xs.length ≤ 1048576) :
    FN Try.prog 57 [v] w fun e w' => (∃ u, e = .returned u) ∧ Sl w' 1 v xs.length (xs.reverse.map u32) ∧ Mod (fun k => slN v = false ∧ k = slB v) w w' ∧ (xs.length ≤ 1 → w' = w) := by
  refine FN_enter Try.func57 rfl rfl (by kernel_rfl) ?_
  simp [h.isLen]
  refine WC_loop (fun k ρ ds w' => ∃ i : Nat, k = xs.length - i ∧ 2 * i ≤ xs.length ∧ ρ 0 = v ∧ ρ 2 = .int .i64 i ∧ ρ 3 = .int .i64 ((xs.length : Int) - 1 - i) ∧ ds = [] ∧ Mod (fun k => slN v = false ∧ k = slB v) w w' ∧
    (∀ j, j < xs.length → w'.cell? (adr v j) = some (u32 (turned xs i j))) ∧ (∀ j, j < xs.length → w'.frozen? (adr v j) = false) ∧ (i = 0 → w' = w)) xs.length ⟨0, ?_⟩ ?_
  · simp
    refine ⟨?_, Mod.refl _ _, ?_, hf⟩
    · rw [wrap64 _ (by omega) (by omega)]
    · intro j hj
      rw [show turned xs 0 j = xs[j] by simp [turned, hj]; omega]
      exact h.at_ j (u32 xs[j]) (by simp [hj])
  · rintro k ρ ds w1 ⟨i, rfl, hi, e0, e2, e3, rfl, hM, hc, hfr, h00⟩
    by_cases hlt : (i : Int) < (xs.length : Int) - 1 - i
    · simp [e2, e3, hlt]
      have hj : xs.length - 1 - i < xs.length := by omega
      have hi' : i < xs.length := by omega
      have ej : ((xs.length : Int) - 1 - i).toNat = xs.length - 1 - i := by omega
      obtain ⟨W0, hW0⟩ : ∃ W0, W0 = w1.drew := ⟨_, rfl⟩
      obtain ⟨xi, hxi⟩ : ∃ z, z = xs.getD i 0 := ⟨_, rfl⟩
      obtain ⟨xj, hxj⟩ : ∃ z, z = xs.getD (xs.length - 1 - i) 0 := ⟨_, rfl⟩
      have x1 : turned xs i i = xi := by unfold turned; rw [if_neg (by omega), hxi]
      have x2 : turned xs i (xs.length - 1 - i) = xj := by unfold turned; rw [if_neg (by omega), hxj]
      have c1 : W0.cell? (adr v i) = some (u32 (xi)) := by rw [hW0, ← x1]; simpa using hc i hi'
      have c2 : W0.cell? (adr v (xs.length - 1 - i)) = some (u32 (xj)) := by rw [hW0, ← x2]; simpa using hc _ hj
      have f1 : W0.frozen? (adr v i) = false := by rw [hW0]; simpa using hfr i hi'
      have i1 := fun W => h.index (P := Try.prog) (t := 30) (by simp) .i64 i (by omega) (by omega) W
      have i2 := fun W => h.index (P := Try.prog) (t := 30) (by simp) .i64 ((xs.length : Int) - 1 - i) (by omega) (by omega) W
      refine WC_draw 14 [[], [], [], [], [], [], [4, 5], [4, 5, 6], [], [], [8, 9], [8, 9, 10], [0, 1, 4, 5, 6, 7, 8, 9, 10, 11], [0, 1, 4, 5, 6, 7, 8, 9, 10, 11, 12]]
        [fun u _ => u = v, fun u _ => u = .int .i64 i, fun u _ => u = v, fun u _ => u = .int .i64 ((xs.length : Int) - 1 - i), fun u _ => u = v, fun u _ => u = .int .i64 ((xs.length : Int) - 1 - i), fun u _ => u = .pointer (some (adr v (xs.length - 1 - i))),
          fun u _ => u = u32 (xj), fun u _ => u = v, fun u _ => u = .int .i64 i, fun u _ => u = .pointer (some (adr v i)), fun u _ => u = u32 (xi), fun u _ => u = .pointer (some (adr v i)), fun _ _ => True] (fun _ _ => True)
        (G := fun S W => W = if S 13 then W0.setCell (adr v i) (u32 (xj)) else W0) (w0 := w1) rfl (by kernel_rfl) rfl trivial (fun _ => trivial) (fun _ _ _ _ _ => trivial) ?_ (by simp [hW0]) ?_
      · intro A hA u a b h1 _
        simp at hA
        rcases hA with rfl | rfl | rfl | rfl | rfl | rfl | rfl | rfl | rfl | rfl | rfl | rfl | rfl | rfl <;> exact h1
      refine VA_mkG (fun S W _ hG hn hp => ?_) fun u0 => VA_mkG (fun S W _ hG hn hp => ?_) fun u1 => VA_mkG (fun S W _ hG hn hp => ?_) fun u2 => VA_mkG (fun S W _ hG hn hp => ?_) fun u3 => VA_mkG (fun S W _ hG hn hp => ?_) fun u4 => VA_mkG (fun S W _ hG hn hp => ?_) fun u5 =>
        VA_mkG (fun S W _ hG hn hp => ?_) fun u6 => VA_mkG (fun S W _ hG hn hp => ?_) fun u7 => VA_mkG (fun S W _ hG hn hp => ?_) fun u8 => VA_mkG (fun S W _ hG hn hp => ?_) fun u9 => VA_mkG (fun S W _ hG hn hp => ?_) fun u10 => VA_mkG (fun S W _ hG hn hp => ?_) fun u11 =>
        VA_mkG (fun S W _ hG hn hp => ?_) fun u12 => VA_mkG (fun S W _ hG hn hp => ?_) fun u13 => VA_finG fun S W _ hG hS hp => ?_
      all_goals simp at hp
      · simpa [e0] using hG
      · simpa [e2] using hG
      · simpa [e0] using hG
      · simpa [e3] using hG
      · simpa [e0] using hG
      · simpa [e3] using hG
      · obtain ⟨rfl, rfl⟩ := hp
        simp [i2, ej, adr]
        exact hG
      · obtain ⟨-, -, rfl⟩ := hp
        have : S 13 = false := hn.2.2 13 (by simp [bsAt])
        simp [this] at hG
        subst hG
        simp only [adr] at c2
        simp [c2, adr, this]
      · simpa [e0] using hG
      · simpa [e2] using hG
      · obtain ⟨rfl, rfl⟩ := hp
        simp [i1, adr]
        exact hG
      · obtain ⟨-, -, rfl⟩ := hp
        have : S 13 = false := hn.2.2 13 (by simp [bsAt])
        simp [this] at hG
        subst hG
        simp only [adr] at c1
        simp [c1, adr, this]
      · obtain ⟨rfl, rfl, -⟩ := hp
        simp [i1, adr]
        exact hG
      · have : S 13 = false := hn.1
        simp [this] at hG
        subst hG
        simp only [adr] at c1 f1
        simp [hp, c1, f1, adr]
      · have : S 13 = true := hS 13 (by omega)
        simp [this] at hG
        subst hG
        have d2 : (W0.setCell (adr v i) (u32 (xj))).cell? (adr v (xs.length - 1 - i)) = some (u32 (xj)) := by
          rw [World.cell?_setCell_other _ _ _ _ (by simp only [adr, ne_eq, Addr.mk.injEq, and_true, true_and]; omega)]; exact c2
        have f2 : (W0.setCell (adr v i) (u32 (xj))).frozen? (adr v (xs.length - 1 - i)) = false := by
          rw [World.frozen?_setCell, hW0]; simpa using hfr _ hj
        simp only [adr] at d2 f2
        simp [hp, i2, ej, d2, f2, adr, e0, e2, e3]
        refine ⟨xs.length - (i + 1), by omega, i + 1, rfl, by omega, ?_, ?_, ?_, ?_, ?_, by omega⟩
        · rw [wrap64 _ (by omega) (by omega)]; rfl
        · rw [wrap64 _ (by omega) (by omega)]; omega
        · have hn : slN v = false := by
            rcases h.blk with ⟨_, h0⟩ | ⟨b, o, c, rfl, _⟩
            · omega
            · rfl
          subst hW0
          exact ((hM.trans (Ext.drew w1).mod).setCell _ _ (.inl ⟨hn, rfl⟩)).setCell _ _ (.inl ⟨hn, rfl⟩)
        · intro j hjn
          by_cases h1 : j = xs.length - 1 - i
          · subst h1
            rw [World.cell?_setCell_same _ _ _ d2]
            have : turned xs (i + 1) (xs.length - 1 - i) = xi := by
              unfold turned; rw [if_pos (by omega), hxi]; congr 1; omega
            rw [this]
          · rw [World.cell?_setCell_other _ _ _ _ (by simp only [ne_eq, Addr.mk.injEq, and_true, true_and]; omega)]
            by_cases h2 : j = i
            · subst h2
              simp only [adr] at c1
              rw [World.cell?_setCell_same _ _ _ c1]
              have : turned xs (j + 1) j = xj := by
                unfold turned; rw [if_pos (by omega), hxj]
              rw [this]
            · rw [World.cell?_setCell_other _ _ _ _ (by simp only [ne_eq, Addr.mk.injEq, and_true, true_and]; omega), hW0]
              have : turned xs (i + 1) j = turned xs i j := by
                unfold turned
                by_cases h3 : j < i ∨ xs.length < i + j + 1
                · rw [if_pos h3, if_pos (by omega)]
                · rw [if_neg h3, if_neg (by omega)]
              rw [this]
              simpa [adr] using hc j hjn
        · intro j hjn
          rw [hW0]
          simpa [adr] using hfr j hjn
    · simp [e2, e3, hlt]
      refine ⟨⟨by simp, h.val, fun j u hj => ?_⟩, hM, fun h1 => h00 (by omega)⟩
      have hjn : j < xs.length := by have := (List.getElem?_eq_some_iff.1 hj).1; simpa using this
      have := hc j hjn
      rw [← List.map_reverse, List.getElem?_map, List.getElem?_reverse hjn, List.getElem?_eq_getElem (by omega)] at hj
      cases hj
      have e : turned xs i j = xs[xs.length - 1 - j] := by
        unfold turned
        split
        · rw [List.getD_eq_getElem?_getD, List.getElem?_eq_getElem (by omega)]; rfl
        · rw [List.getD_eq_getElem?_getD, List.getElem?_eq_getElem (by omega)]
          have : xs.length - 1 - j = j := by omega
          simp only [this]; rfl
      rw [← e]; exact this
end Go.Proofs
