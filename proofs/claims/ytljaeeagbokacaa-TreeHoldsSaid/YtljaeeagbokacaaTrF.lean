/-
  Contracts of the functions that the law reaches, step by step.
-/
import Derived.Test.YtljaeeagbokacaaTrE
namespace Go.Proofs
open Pk
set_option maxRecDepth 10000
theorem isNaN_c (x : Int) (w : World) : FN Try.prog 80 [u32 x] w fun e w' => e = .returned (.bool false) ∧ w' = w := by
  refine FN_enter Try.func80 rfl rfl (by kernel_rfl) ?_
  simp
theorem less_c (x y : Int) (w : World) : FN Try.prog 70 [u32 x, u32 y] w fun e w' => e = .returned (.bool (decide (x < y))) ∧ w' = w := by
  refine FN_enter Try.func70 rfl rfl (by kernel_rfl) ?_
  simp
  refine FN.mono (isNaN_c x w) ?_
  rintro _ _ ⟨rfl, rfl⟩
  simp
theorem len64_c (x : Int) (h0 : 0 ≤ x) (h1 : x ≤ 255) (w : World) : FN Try.prog 74 [.int .u64 x] w fun e w' => (∃ k, e = .returned (.int .i64 k)) ∧ w' = w := by
  refine FN_enter Try.func74 rfl rfl (by kernel_rfl) ?_
  have b1 : decide ((4294967296 : Int) ≤ x) = false := by simp; omega
  have b2 : decide ((65536 : Int) ≤ x) = false := by simp; omega
  have b3 : decide ((256 : Int) ≤ x) = false := by simp; omega
  simp [b1, b2, b3]
  rw [wrap8u x h0 h1]
  refine onRt_byte (by simp) h0 (Nat.lt_of_lt_of_eq (m := 256) (by omega) (Eq.symm (by kernel_rfl))) fun b hb0 hb1 => ?_
  simp
theorem len_bits_c (x : Int) (h0 : 0 ≤ x) (h1 : x ≤ 255) (w : World) : FN Try.prog 62 [.int .u64 x] w fun e w' => (∃ k, e = .returned (.int .i64 k)) ∧ w' = w := by
  refine FN_enter Try.func62 rfl rfl (by kernel_rfl) ?_
  simp
  refine FN.mono (len64_c x h0 h1 w) ?_
  rintro _ _ ⟨⟨k, rfl⟩, rfl⟩
  simp
/-- What a row holds, place by place. -/
structure Holds (w : World) (v : Value) (n : Nat) (f : Nat → Int) : Prop where
  cell : ∀ j, j < n → w.cell? (adr v j) = some (u32 (f j))
  thaw : ∀ j, j < n → w.frozen? (adr v j) = false
def swp (f : Nat → Int) (i j : Nat) : Nat → Int := fun k => if k = i then f j else if k = j then f i else f k
theorem Holds.swap {w : World} {v : Value} {n : Nat} {f : Nat → Int} (h : Holds w v n f) {i j : Nat} (hi : i < n) (hj : j < n) (hij : i ≠ j) :
    Holds ((w.setCell (adr v i) (u32 (f j))).setCell (adr v j) (u32 (f i))) v n (swp f i j) := by
  have c2 : (w.setCell (adr v i) (u32 (f j))).cell? (adr v j) = some (u32 (f j)) := by rw [World.cell?_setCell_other _ _ _ _ (by simp only [adr, ne_eq, Addr.mk.injEq, and_true, true_and]; omega)]; exact h.cell j hj
  refine ⟨fun k hk => ?_, fun k hk => by rw [World.frozen?_setCell, World.frozen?_setCell]; exact h.thaw k hk⟩
  unfold swp
  by_cases h1 : k = j
  · subst h1
    rw [World.cell?_setCell_same _ _ _ c2, if_neg (Ne.symm hij), if_pos rfl]
  · rw [World.cell?_setCell_other _ _ _ _ (by simp only [adr, ne_eq, Addr.mk.injEq, and_true, true_and]; omega)]
    by_cases h2 : k = i
    · subst h2
      rw [World.cell?_setCell_same _ _ _ (h.cell k hk), if_pos rfl]
    · rw [World.cell?_setCell_other _ _ _ _ (by simp only [adr, ne_eq, Addr.mk.injEq, and_true, true_and]; omega), if_neg h2, if_neg h1]
      exact h.cell k hk
theorem swp_l (f : Nat → Int) (i j : Nat) : swp f i j i = f j := by unfold swp; rw [if_pos rfl]
theorem swp_r (f : Nat → Int) {i j : Nat} (h : j ≠ i) : swp f i j j = f i := by unfold swp; rw [if_neg h, if_pos rfl]
theorem swp_o (f : Nat → Int) {i j k : Nat} (h1 : k ≠ i) (h2 : k ≠ j) : swp f i j k = f k := by unfold swp; rw [if_neg h1, if_neg h2]
theorem swp_perm (f : Nat → Int) {n i j : Nat} (hi : i < n) (hj : j < n) : ((List.range n).map (swp f i j)).Perm ((List.range n).map f) := by
  let σ : Nat → Nat := fun k => if k = i then j else if k = j then i else k
  have e : (List.range n).map (swp f i j) = ((List.range n).map σ).map f := by
    rw [List.map_map]
    congr 1
    funext k
    simp only [swp, σ, Function.comp]
    split
    · rfl
    · split <;> rfl
  rw [e]
  refine List.Perm.map f ?_
  have hinv : ∀ k, σ (σ k) = k := by
    intro k
    simp only [σ]
    split <;> split <;> (try split) <;> omega
  refine (List.perm_ext_iff_of_nodup ?_ List.nodup_range).2 fun a => ?_
  · refine List.Pairwise.map σ (fun a b hab => ?_) List.nodup_range
    intro hc
    have := congrArg σ hc
    rw [hinv, hinv] at this
    exact hab this
  · simp only [List.mem_map, List.mem_range]
    constructor
    · rintro ⟨k, hk, rfl⟩
      simp only [σ]; split
      · exact hj
      · split
        · exact hi
        · exact hk
    · intro ha
      refine ⟨σ a, ?_, hinv a⟩
      simp only [σ]; split
      · exact hj
      · split
        · exact hi
        · exact ha
theorem insertion_c {w : World} {v : Value} {n : Nat} {f : Nat → Int} {cs : List Value} (hs : Sl w 1 v n cs) (h : Holds w v n f) (hb : n ≤ 1048576) :
    FN Try.prog 64 [v, .int .i64 0, .int .i64 n] w fun e w' => (∃ u, e = .returned u) ∧ ∃ g, Holds w' v n g ∧ ((List.range n).map g).Perm ((List.range n).map f) ∧ (∀ a b, a < b → b < n → g a ≤ g b) ∧ Mod (fun k => slN v = false ∧ k = slB v) w w' := by
  refine FN_enter Try.func64 rfl rfl (by kernel_rfl) ?_
  simp
  rw [wrap64 _ (by omega) (by omega)]
  refine WC_loop (fun k ρ ds w' => ∃ (i : Nat) (g : Nat → Int), k = n - i ∧ 1 ≤ i ∧ i ≤ max n 1 ∧ ρ 0 = v ∧ ρ 1 = .int .i64 0 ∧ ρ 2 = .int .i64 n ∧ ρ 6 = .int .i64 i ∧ ds = [] ∧ Holds w' v n g ∧ ((List.range n).map g).Perm ((List.range n).map f) ∧ (∀ a b, a < b → b < i → b < n → g a ≤ g b) ∧
    Mod (fun k => slN v = false ∧ k = slB v) w w') (n - 1) ⟨1, f, ?_⟩ ?_
  · simp
    exact ⟨by omega, h, fun a b h1 h2 h3 => by omega, Mod.refl _ _⟩
  · rintro k ρ ds w1 ⟨i, g, rfl, hi1, hi2, e0, e1, e2, e6, rfl, hH, hP, hS, hM⟩
    by_cases hlt : i < n
    · simp [e0, e1, e2, e6, hlt]
      refine WC_loop (fun k ρ ds w' => ∃ (j : Nat) (g : Nat → Int), k = j ∧ j ≤ i ∧ ρ 0 = v ∧ ρ 1 = .int .i64 0 ∧ ρ 2 = .int .i64 n ∧ ρ 6 = .int .i64 i ∧ ρ 7 = .int .i64 j ∧ ds = [] ∧ Holds w' v n g ∧ ((List.range n).map g).Perm ((List.range n).map f) ∧
        (∀ a b, a < b → b ≤ i → a ≠ j → b ≠ j → g a ≤ g b) ∧ (∀ b, j < b → b ≤ i → g j < g b) ∧ Mod (fun k => slN v = false ∧ k = slB v) w w') i ⟨i, g, ?_⟩ ?_
      · simp [e0, e1, e2, e6]
        exact ⟨hH, hP, fun a b h1 h2 _ h4 => hS a b h1 (by omega) (by omega), fun b h1 h2 => by omega, hM⟩
      · rintro k ρ ds w2 ⟨j, g, hkj, hj, e0, e1, e2, e6, e7, rfl, hH, hP, hS1, hS2, hM⟩
        subst hkj
        simp
        have hHd : Holds w2.drew v n g := ⟨fun k hk => by simpa using hH.cell k hk, fun k hk => by simpa using hH.thaw k hk⟩
        have hMd : Mod (fun k => slN v = false ∧ k = slB v) w w2.drew := hM.trans (Ext.drew w2).mod
        refine WC_drawQ 13 rfl (by kernel_rfl) ?_
        by_cases hj0 : k = 0
        · subst hj0
          simp [e0, e1, e2, e6, e7]
          refine ⟨n - (i + 1), by omega, i + 1, rfl, by omega, by omega, ?_, g, hHd, hP, fun a b h1 h2 h3 => ?_, hMd⟩
          · rw [wrap64 _ (by omega) (by omega)]; rfl
          · by_cases ha : a = 0
            · subst ha
              have := hS2 b h1 (by omega); omega
            · exact hS1 a b h1 (by omega) ha (by omega)
        · have hgt : decide (0 < k) = true := by simp; omega
          have i1 := fun W => hs.index (P := Try.prog) (t := 30) (by simp) .i64 k (by omega) (by omega) W
          have i2 := fun W => hs.index (P := Try.prog) (t := 30) (by simp) .i64 ((k : Int) - 1) (by omega) (by omega) W
          have ew : IntKind.i64.wrap ((k : Int) - 1) = (k : Int) - 1 := wrap64 _ (by omega) (by omega)
          have et : ((k : Int) - 1).toNat = k - 1 := by omega
          have c1 := hHd.cell k (by omega)
          have c2 := hHd.cell (k - 1) (by omega)
          simp only [adr] at c1 c2
          simp [e0, e1, e7, hgt, i1, i2, ew, et, c1, c2]
          refine FN.mono (less_c (g k) (g (k - 1)) w2.drew) ?_
          rintro _ _ ⟨rfl, rfl⟩
          simp [hgt]
          by_cases hl : g k < g (k - 1)
          · simp [hl]
            obtain ⟨W0, hW0⟩ : ∃ W0, W0 = w2.drew.drew := ⟨_, rfl⟩
            have hH0 : Holds W0 v n g := by rw [hW0]; exact ⟨fun k hk => by simpa using hHd.cell k hk, fun k hk => by simpa using hHd.thaw k hk⟩
            have hM0 : Mod (fun k => slN v = false ∧ k = slB v) w W0 := by rw [hW0]; exact hMd.trans (Ext.drew _).mod
            obtain ⟨xj, hxj⟩ : ∃ z, z = g k := ⟨_, rfl⟩
            obtain ⟨xi, hxi⟩ : ∃ z, z = g (k - 1) := ⟨_, rfl⟩
            have c1 := hH0.cell k (by omega)
            have c2 := hH0.cell (k - 1) (by omega)
            have f1 := hH0.thaw k (by omega)
            rw [← hxj] at c1
            rw [← hxi] at c2
            have hsw := hH0.swap (i := k) (j := k - 1) (by omega) (by omega) (by omega)
            rw [← hxj, ← hxi] at hsw
            refine WC_draw 16 [[], [], [], [], [3], [], [], [6], [5, 6, 7], [5, 6, 7, 8], [], [], [10, 11], [10, 11, 12], [0, 1, 5, 6, 7, 8, 9, 10, 11, 12, 13], [0, 1, 5, 6, 7, 8, 9, 10, 11, 12, 13, 14]]
              [fun u _ => u = v, fun u _ => u = .int .i64 k, fun u _ => u = v, fun u _ => u = .int .i64 k, fun u _ => u = .int .i64 ((k : Int) - 1), fun u _ => u = v, fun u _ => u = .int .i64 k, fun u _ => u = .int .i64 ((k : Int) - 1), fun u _ => u = .pointer (some (adr v (k - 1))),
                fun u _ => u = u32 xi, fun u _ => u = v, fun u _ => u = .int .i64 k, fun u _ => u = .pointer (some (adr v k)), fun u _ => u = u32 xj, fun u _ => u = .pointer (some (adr v k)), fun _ _ => True] (fun _ _ => True)
              (G := fun S W => W = if S 15 then W0.setCell (adr v k) (u32 xi) else W0) (w0 := w2) rfl (by kernel_rfl) rfl trivial (fun _ => trivial) (fun _ _ _ _ _ => trivial) ?_ (by simp [hW0]) ?_
            · intro A hA u a b h1 _
              simp only [List.mem_cons, List.mem_nil_iff, or_false] at hA
              rcases hA with rfl | rfl | rfl | rfl | rfl | rfl | rfl | rfl | rfl | rfl | rfl | rfl | rfl | rfl | rfl | rfl <;> exact h1
            refine VA_mkG (fun S W _ hG hn hp => ?_) fun u0 => VA_mkG (fun S W _ hG hn hp => ?_) fun u1 => VA_mkG (fun S W _ hG hn hp => ?_) fun u2 => VA_mkG (fun S W _ hG hn hp => ?_) fun u3 => VA_mkG (fun S W _ hG hn hp => ?_) fun u4 => VA_mkG (fun S W _ hG hn hp => ?_) fun u5 =>
              VA_mkG (fun S W _ hG hn hp => ?_) fun u6 => VA_mkG (fun S W _ hG hn hp => ?_) fun u7 => VA_mkG (fun S W _ hG hn hp => ?_) fun u8 => VA_mkG (fun S W _ hG hn hp => ?_) fun u9 => VA_mkG (fun S W _ hG hn hp => ?_) fun u10 => VA_mkG (fun S W _ hG hn hp => ?_) fun u11 =>
              VA_mkG (fun S W _ hG hn hp => ?_) fun u12 => VA_mkG (fun S W _ hG hn hp => ?_) fun u13 => VA_mkG (fun S W _ hG hn hp => ?_) fun u14 => VA_mkG (fun S W _ hG hn hp => ?_) fun u15 => VA_finG fun S W _ hG hS hp => ?_
            all_goals simp at hp
            · simpa [e0] using hG
            · simpa [e7] using hG
            · simpa [e0] using hG
            · simpa [e7] using hG
            · subst hp; simpa [ew] using hG
            · simpa [e0] using hG
            · simpa [e7] using hG
            · subst hp; simpa [ew] using hG
            · obtain ⟨rfl, -, rfl⟩ := hp
              simp [i2, et, adr]
              exact hG
            · obtain ⟨-, -, -, rfl⟩ := hp
              have h15 : S 15 = false := hn.2.2 15 (by simp [bsAt])
              simp [h15] at hG
              subst hG
              simp only [adr] at c2
              simp [c2, adr, h15]
            · simpa [e0] using hG
            · simpa [e7] using hG
            · obtain ⟨rfl, rfl⟩ := hp
              simp [i1, adr]
              exact hG
            · obtain ⟨-, -, rfl⟩ := hp
              have h15 : S 15 = false := hn.2.2 15 (by simp [bsAt])
              simp [h15] at hG
              subst hG
              simp only [adr] at c1
              simp [c1, adr, h15]
            · obtain ⟨rfl, rfl, -⟩ := hp
              simp [i1, adr]
              exact hG
            · have h15 : S 15 = false := hn.1
              simp [h15] at hG
              subst hG
              simp only [adr] at c1 f1
              simp [hp, c1, f1, adr]
            · have h15 : S 15 = true := hS 15 (by omega)
              simp [h15] at hG
              subst hG
              have d2 : (W0.setCell (adr v k) (u32 xi)).cell? (adr v (k - 1)) = some (u32 xi) := by
                rw [World.cell?_setCell_other _ _ _ _ (by simp only [adr, ne_eq, Addr.mk.injEq, and_true, true_and]; omega)]; exact c2
              have f2 : (W0.setCell (adr v k) (u32 xi)).frozen? (adr v (k - 1)) = false := by
                rw [World.frozen?_setCell]; exact hH0.thaw _ (by omega)
              simp only [adr] at d2 f2
              rw [World.frozen?_setCell] at f2
              simp [hp, i2, et, d2, f2, adr, e0, e1, e2, e6, e7]
              refine ⟨k - 1, by omega, by omega, ?_, swp g k (k - 1), hsw, (swp_perm g (by omega) (by omega)).trans hP, ?_, ?_, ?_⟩
              · rw [ew]; omega
              · intro a b h1 h2 h3 h4
                by_cases hb : b = k
                · subst hb
                  have hab : a ≠ b := by omega
                  rw [swp_l, swp_o g hab h3]
                  exact hS1 a (b - 1) (by omega) (by omega) hab (by omega)
                · rw [swp_o g hb h4]
                  by_cases ha : a = k
                  · subst ha
                    rw [swp_l]
                    exact hS1 (a - 1) b (by omega) h2 (by omega) hb
                  · rw [swp_o g ha h3]
                    exact hS1 a b h1 h2 ha hb
              · intro b h1 h2
                have hkk : k - 1 ≠ k := by omega
                rw [swp_r g hkk]
                by_cases hb : b = k
                · subst hb; rw [swp_l]; exact hl
                · have hb2 : b ≠ k - 1 := by omega
                  rw [swp_o g hb hb2]
                  exact hS2 b (by omega) h2
              · have hn : slN v = false := by
                  rcases hs.blk with ⟨_, h0⟩ | ⟨b, o, c, rfl, _⟩
                  · omega
                  · rfl
                exact (hM0.setCell _ _ (.inl ⟨hn, rfl⟩)).setCell _ _ (.inl ⟨hn, rfl⟩)
          · simp [hl, e0, e1, e2, e6]
            refine ⟨n - (i + 1), by omega, i + 1, rfl, by omega, by omega, ?_, g, hHd, hP, fun a b h1 h2 h3 => ?_, hMd⟩
            · rw [wrap64 _ (by omega) (by omega)]; rfl
            · by_cases ha : a = k
              · subst ha
                have := hS2 b h1 (by omega); omega
              · by_cases hb : b = k
                · subst hb
                  by_cases ha' : a = b - 1
                  · subst ha'; omega
                  · have := hS1 a (b - 1) (by omega) (by omega) ha (by omega)
                    omega
                · exact hS1 a b h1 (by omega) ha hb
    · simp [e0, e1, e2, e6, hlt]
      refine ⟨g, hH, hP, fun a b h1 h2 => hS a b h1 (by omega) h2, hM⟩
theorem Holds.sl {w : World} {v : Value} {n : Nat} {f : Nat → Int} {cs : List Value} {w0 : World} (h : Holds w v n f) (hs : Sl w0 1 v n cs) : Sl w 1 v n (((List.range n).map f).map u32) :=
  ⟨by simp, hs.val, fun j u hj => by
    have hjn : j < n := by have := (List.getElem?_eq_some_iff.1 hj).1; simpa using this
    simp [hjn] at hj
    subst hj
    exact h.cell j hjn⟩
theorem sort_c {w : World} {v : Value} {xs : List Int} (h : Sl w 1 v xs.length (xs.map u32)) (hf : ∀ j, j < xs.length → w.frozen? (adr v j) = false) (hb : xs.length ≤ 12) :
    FN Try.prog 48 [v] w fun e w' => (∃ u, e = .returned u) ∧ ∃ ys : List Int, ys.Perm xs ∧ ys.Pairwise (· ≤ ·) ∧ Sl w' 1 v ys.length (ys.map u32) ∧ Mod (fun k => slN v = false ∧ k = slB v) w w' := by
  refine FN_enter Try.func48 rfl rfl (by kernel_rfl) ?_
  simp [h.isLen]
  rw [wrap64u _ (by omega) (by omega)]
  have hH : Holds w v xs.length (fun j => xs.getD j 0) := ⟨fun j hj => by
    have := h.at_ j (u32 xs[j]) (by simp [hj])
    rw [List.getD_eq_getElem?_getD, List.getElem?_eq_getElem hj]
    exact this, hf⟩
  have hxs : (List.range xs.length).map (fun j => xs.getD j 0) = xs := by
    apply List.ext_getElem?
    intro j
    by_cases hj : j < xs.length
    · simp [hj]
    · simp [Nat.not_lt.1 hj]
  refine FN.mono (len_bits_c xs.length (by omega) (by omega) w) ?_
  rintro _ w1 ⟨⟨k, rfl⟩, hw⟩
  subst hw
  simp
  refine FN_enter Try.func61 rfl rfl (by kernel_rfl) ?_
  simp
  refine WC_loop (fun m ρ ds w' => m = 0 ∧ ρ 0 = v ∧ ρ 1 = .int .i64 0 ∧ ρ 2 = .int .i64 xs.length ∧ ds = [] ∧ w' = w1) 0 ⟨rfl, by simp⟩ ?_
  rintro m ρ ds w' ⟨rfl, e0, e1, e2, rfl, rfl⟩
  have hle : decide ((xs.length : Int) ≤ 12) = true := by simp; omega
  have hle' : decide (IntKind.i64.wrap (xs.length : Int) ≤ 12) = true := by rw [wrap64 _ (by omega) (by omega)]; exact hle
  simp [e0, e1, e2, hle, hle']
  refine FN.mono (insertion_c h hH (by omega)) ?_
  rintro _ w3 ⟨⟨u, rfl⟩, g, h1, h2, h3, h4⟩
  simp
  refine ⟨(List.range xs.length).map g, ?_, ?_, ?_, h4⟩
  · rw [hxs] at h2; exact h2
  · rw [List.pairwise_map]
    refine List.pairwise_lt_range.imp_of_mem ?_
    intro a b _ hb hab
    exact h3 a b hab (by simpa using hb)
  · have := h1.sl h
    simpa using this
end Go.Proofs
