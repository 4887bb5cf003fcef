/-
  Contracts of the functions that the law reaches, step by step.
-/
import Derived.Test.YtfppepjaopbanaaRkM
namespace Go.Proofs
open Pk
set_option maxRecDepth 10000
section
variable {Pd : Nat → Prop} {wb W W' : World} {l : Nat} {s : List Wt} {most : Int}
theorem LineP.rebase {S : Nat → Prop} (h : LineP Pd wb W l s most) (hM : Mod S W W') (hS : ∀ k, k < W.heap.size → S k → ¬ Pd k) : LineP (fun k => (Pd k ∧ k < W.heap.size) ∨ W'.heap.size ≤ k) W' W' l s most := by
  obtain ⟨⟨Rq, Rw, M, N, h1, h2⟩, h3⟩ := h
  exact ⟨⟨Rq, Rw, M, N, h1.mod hM fun k hk hs => hS k (h1.lt k hk) hs (h2 k hk), fun k hk => .inl ⟨h2 k hk, h1.lt k hk⟩⟩, Mod.refl _ _⟩
theorem LineP.putOk (hP : ∀ k, wb.heap.size ≤ k → Pd k) (h : LineP Pd wb W l s most) (hbd : s.length ≤ 1048575) (x : Wt) (he : putE s most x = 0) :
    FN Try.prog 8 [ptr l, wtV x] W fun e W' => e = .returned (i64 0) ∧ LineP Pd wb W' l (s ++ [x]) most := by
  refine FN.mono (h.put hP hbd x) ?_
  rintro _ W' ⟨rfl, g⟩
  rw [he] at g ⊢
  exact ⟨rfl, g⟩
theorem LineP.putNo (hP : ∀ k, wb.heap.size ≤ k → Pd k) (h : LineP Pd wb W l s most) (hbd : s.length ≤ 1048575) (x : Wt) (e : Int) (he : putE s most x = e) (h0 : e ≠ 0) :
    FN Try.prog 8 [ptr l, wtV x] W fun r W' => r = .returned (i64 e) ∧ LineP Pd wb W' l s most := by
  refine FN.mono (h.put hP hbd x) ?_
  rintro _ W' ⟨rfl, g⟩
  rw [he] at g ⊢
  rw [if_neg h0] at g
  exact ⟨rfl, g⟩
end
def wkA : Wt := (nmN 1, 5, 0, 10)
def wkB : Wt := (nmN 2, 5, 2, 20)
def wkC : Wt := (nmN 3, 6, 0, 30)
def wkD : Wt := (nmN 4, 5, 0, 10)
def wkE : Wt := (nmN 1, 6, 0, 10)
abbrev wk3 : List Wt := [] ++ [wkA] ++ [wkB] ++ [wkC]
abbrev wk4 : List Wt := [wkB, wkC, wkE]
theorem wk_sum (nd : Int) : sumS wk3 nd = if nd = 5 then some 30 else if nd = 6 then some 30 else none := by
  by_cases h5 : nd = 5
  · subst h5; decide
  · by_cases h6 : nd = 6
    · subst h6; decide
    · unfold sumS
      have a : ¬ (5 : Int) = nd := fun e => h5 e.symm
      have b : ¬ (6 : Int) = nd := fun e => h6 e.symm
      simp [wkA, wkB, wkC, h5, h6, a, b]
theorem wk_keys {w : World} {r : Nat} {m : List (Int × Int)} (h : SM w r m) (hm : ∀ nd, mget m nd = sumS wk3 nd) : kNisKeys m [5, 6] := by
  refine ⟨?_, by decide⟩
  refine (List.perm_ext_iff_of_nodup (by decide) h.nodup).2 fun a => ?_
  have := hm a
  rw [wk_sum] at this
  constructor
  · intro ha
    have hs : (mget m a).isSome = true := by
      rw [this]
      rcases (by simpa using ha : a = 5 ∨ a = 6) with rfl | rfl <;> rfl
    obtain ⟨z, hz⟩ := Option.isSome_iff_exists.1 hs
    exact List.mem_map.2 ⟨_, kget_mem hz, rfl⟩
  · intro ha
    obtain ⟨y, hy, rfl⟩ := List.mem_map.1 ha
    rw [(kget_iff h.nodup).2 (show (y.1, y.2) ∈ m from hy)] at this
    by_cases h5 : y.1 = 5
    · simp [h5]
    · by_cases h6 : y.1 = 6
      · simp [h6]
      · simp [h5, h6] at this
def sOf (l : List Wt) : ByteArray := l.foldl (fun s y => s ++ strOfNums [96 + y.1.2.2.2]) ⟨#[]⟩
set_option maxHeartbeats 2000000 in
theorem works_c (w : World) : FN Try.prog 5 [] w fun e w' => e = .returned (.bool true) ∧ Ext w w' := by
  refine FN_enter Try.func5 rfl rfl (by kernel_rfl) ?_
  simp
  refine FN.mono (LineP.new 3 (by omega) (by omega) w) ?_
  rintro _ w1 ⟨l, rfl, L1, hlw, hE1⟩
  simp
  refine FN.mono (named_c 1 w1) ?_
  rintro _ w2 ⟨rfl, hE2⟩
  have L2 := L1.ext hE2
  simp
  refine FN.mono (LineP.putOk (fun _ h => h) L2 (by simp) wkA (by decide)) ?_
  rintro _ w3 ⟨rfl, L3⟩
  simp
  refine FN.mono (named_c 2 w3) ?_
  rintro _ w4 ⟨rfl, hE4⟩
  have L4 := L3.ext hE4
  simp
  refine FN.mono (LineP.putOk (fun _ h => h) L4 (by simp) wkB (by decide)) ?_
  rintro _ w5 ⟨rfl, L5⟩
  simp
  refine FN.mono (named_c 3 w5) ?_
  rintro _ w6 ⟨rfl, hE6⟩
  have L6 := L5.ext hE6
  simp
  refine FN.mono (LineP.putOk (fun _ h => h) L6 (by simp) wkC (by decide)) ?_
  rintro _ w7 ⟨rfl, L7⟩
  have L7' : LineP (fun k => w.heap.size ≤ k) w w7 l wk3 3 := L7
  obtain ⟨Rq, Rw, M, N, l7, -⟩ := L7'.ex
  simp
  refine FN.mono (first_c l7 (by simp) 5) ?_
  rintro _ w8 ⟨rfl, hE8⟩
  have f1 : firstV wk3 5 = wkB := by decide
  have f2 : firstE wk3 5 = 0 := by decide
  rw [f1, f2]
  simp
  have a8 : Ext w8 (w8.alloc (.cells #[u32 1, u32 0, u64 0, u32 2, u32 5, i64 2, i64 20] 30)) := (Ext.refl w8).alloc _
  have x8 : WtAt (w8.alloc (.cells #[u32 1, u32 0, u64 0, u32 2, u32 5, i64 2, i64 20] 30)) w8.heap.size wkB := WtAt.new w8 wkB 30
  have z8 : (w8.alloc (.cells #[u32 1, u32 0, u64 0, u32 2, u32 5, i64 2, i64 20] 30)).heap.size = w8.heap.size + 1 := by simp
  have n8 : w7.heap.size ≤ w8.heap.size := hE8.size
  simp [wkB]
  obtain ⟨bX, hbX⟩ : ∃ bX, bX = w8.heap.size := ⟨_, rfl⟩
  rw [← hbX] at x8 z8 n8 ⊢
  generalize (w8.alloc (.cells #[u32 1, u32 0, u64 0, u32 2, u32 5, i64 2, i64 20] 30)) = w9 at *
  have hE79 := hE8.trans a8
  have l9 := l7.ext hE79
  refine FN.mono (named_c 1 w9) ?_
  rintro _ w10 ⟨rfl, hE10⟩
  simp
  have l10 := l9.ext hE10
  refine FN.mono (get_c l10 (by simp) (by unfold ranked; decide) (nmN 1)) ?_
  rintro _ w11 ⟨rfl, hE11⟩
  have g1 : dropV wk3 (nmN 1) = wkA := by decide
  have g2 : dropE wk3 (nmN 1) = 0 := by decide
  have g3 : getI wk3 (nmN 1) = 1 := by decide
  rw [g1, g2, g3]
  have a11 : Ext w11 (w11.alloc (.cells #[u32 1, u32 0, u64 0, u32 1, u32 5, i64 0, i64 10] 30)) := (Ext.refl w11).alloc _
  simp [wkA]
  generalize (w11.alloc (.cells #[u32 1, u32 0, u64 0, u32 1, u32 5, i64 0, i64 10] 30)) = w12 at *
  refine FN.mono (named_c 4 w12) ?_
  rintro _ w13 ⟨rfl, hE13⟩
  simp
  have hE913 := ((hE10.trans hE11).trans a11).trans hE13
  have x13 := x8.ext hE913
  have hE713 := hE79.trans hE913
  have L13 := L7'.rebase (hE713.mod (S := fun _ => False)) (fun _ _ h => h.elim)
  have n13 := hE913.size
  have P13 : ∀ k, w13.heap.size ≤ k → (w.heap.size ≤ k ∧ k < w7.heap.size) ∨ w13.heap.size ≤ k := fun k h => .inr h
  refine FN.mono (LineP.putNo P13 L13 (by simp) wkD 220 (by decide) (by decide)) ?_
  rintro _ w14 ⟨rfl, L14⟩
  have nX13 : ¬ ((w.heap.size ≤ bX ∧ bX < w7.heap.size) ∨ w13.heap.size ≤ bX) := by omega
  have x14 := x13.mod L14.mod nX13
  simp
  refine FN.mono (named_c 1 w14) ?_
  rintro _ w15 ⟨rfl, hE15⟩
  simp
  have L15 := L14.ext hE15
  have x15 := x14.ext hE15
  refine FN.mono (LineP.putNo P13 L15 (by simp) wkA 150 (by decide) (by decide)) ?_
  rintro _ w16 ⟨rfl, L16⟩
  have x16 := x13.mod L16.mod nX13
  simp
  have a16 : Ext w16 (w16.alloc (.cells #[i64 0] 3)) := (Ext.refl w16).alloc _
  have v16 : Var (w16.alloc (.cells #[i64 0] 3)) w16.heap.size (i64 0) := Var.new w16 (i64 0) 3
  have z16 : (w16.alloc (.cells #[i64 0] 3)).heap.size = w16.heap.size + 1 := by simp
  obtain ⟨bn, hbn⟩ : ∃ bn, bn = w16.heap.size := ⟨_, rfl⟩
  rw [← hbn] at v16 z16 ⊢
  generalize (w16.alloc (.cells #[i64 0] 3)) = w17 at *
  obtain ⟨Rq', Rw', M', N', l16, -⟩ := L16.ex
  have l17 := l16.ext a16
  have hsz : sized wk3 := by unfold sized; decide
  refine FN.mono (nodes_c l17 (by simp) hsz) ?_
  rintro _ w18 ⟨b1, r1, m1, rfl, -, -, -, hE18, -, -⟩
  simp
  have l18 := l17.ext hE18
  refine FN.mono (nodes_c l18 (by simp) hsz) ?_
  rintro _ w19 ⟨b2, r2, m2, rfl, vb2, sm2, hm2, hE19, hb2, hr2⟩
  simp
  have hE1619 := (a16.trans hE18).trans hE19
  have v19 := v16.ext (hE18.trans hE19)
  have n18 := hE18.size
  have n19 := hE19.size
  have hk := wk_keys sm2 hm2
  have hml : m2.length ≤ 255 := by
    have := hk.1.length_eq
    simp at this
    omega
  have hit := kNsteps kU32 zI vb2 sm2.val hml hk
  have hv5 : kNval m2 5 = i64 30 := by unfold kNval; rw [hm2]; rfl
  have hv6 : kNval m2 6 = i64 30 := by unfold kNval; rw [hm2]; rfl
  have hM0 : Mod (fun k => w.heap.size ≤ k) w w16 := (L7'.mod.trans hE713.mod).trans (L16.mod.weaken fun k hk => by have := L7'.mod.size; have := hE713.size; omega)
  have w0s := L7'.mod.size
  have w1s := hE713.size
  have w2s := L16.mod.size
  refine WC_rangeFunc (gf := 51) (first := #[]) (caps := #[ptr b2]) (enc := kNst m2) (by simp) (fun _ _ => callFunc_enter Try.func51 rfl rfl _ _) hit (fun x => rfl) (fun k => k = bn)
    (fun C pre W => Var W bn (.int .i64 (pre.foldl (fun n k => 1000 * n + 100 * k + 30) 0)) ∧ (∀ k, C k ↔ k = bn) ∧ Mod (fun k => k = bn) w19 W) (fun _ _ _ _ => False)
    ?hcap (fun k hk => by omega) ?hst (fun _ _ _ _ _ h _ => h.elim) ⟨v19, fun _ => Iff.rfl, Mod.refl _ _⟩ ?ρ ?ha ?hb ?hd (fun _ _ _ _ _ h _ => h.elim)
  case ha =>
    intro l x W
    simp
    exact rfl
  case hcap =>
    rintro k (rfl | h)
    · exact ⟨vb2.lt, by omega⟩
    · have := sm2.lt
      cases h
      exact ⟨this, by omega⟩
  case hst =>
    rintro C pre W W' ⟨h1, h2, h3⟩ hag
    exact ⟨h1.agr hag (.inr ((h2 _).2 rfl)), h2, h3.agr_old hag⟩
  case hb =>
    rintro lp C pre x W hsp ⟨h1, h2, h3⟩ - - -
    have hpx : pre = [] ∧ x = 5 ∨ pre = [5] ∧ x = 6 := by
      obtain ⟨_, suf, hsuf⟩ := hsp
      match pre, hsuf with
      | [], h => simp at h; exact .inl ⟨rfl, h.1.symm⟩
      | [a], h => simp at h; exact .inr ⟨by rw [h.1], h.2.1.symm⟩
      | a :: b :: l, h => have := congrArg List.length h; simp at this
    have fin : ∀ u : Int, u = (pre ++ [x]).foldl (fun n k => 1000 * n + 100 * k + 30) 0 → ∃ C', (Var (W.setCell ⟨bn, 0, none⟩ (.int .i64 u)) bn (.int .i64 ((pre ++ [x]).foldl (fun n k => 1000 * n + 100 * k + 30) 0)) ∧ (∀ k, C' k ↔ k = bn) ∧ Mod (fun k => k = bn) w19 (W.setCell ⟨bn, 0, none⟩ (.int .i64 u))) ∧ Own C C' W (W.setCell ⟨bn, 0, none⟩ (.int .i64 u)) := by
      rintro u rfl
      have hM := (Mod.refl (fun k => k = bn) W).setC 0 (i64 ((pre ++ [x]).foldl (fun n k => 1000 * n + 100 * k + 30) 0))
      exact ⟨C, ⟨h1.set _, h2, h3.trans hM⟩, Own.of_mod (hM.weaken fun k hk => (h2 k).2 hk)⟩
    rcases hpx with ⟨rfl, rfl⟩ | ⟨rfl, rfl⟩
    · have h1c := h1.cell
      simp only [List.foldl_nil] at h1c
      simp [h1c, h1.thaw, hv5, kNst]
      exact fin _ rfl
    · have h1c := h1.cell
      simp only [List.foldl_cons, List.foldl_nil] at h1c
      simp [h1c, h1.thaw, hv6, kNst]
      exact fin _ rfl
  case hd =>
    rintro C xs w20 rfl ⟨v20, -, hM20⟩ hD
    simp
    have hM1620 : Mod (fun k => k = bn) w16 w20 := hE1619.mod.trans hM20
    have n20 := hM20.size
    have hD1 : w19.heap.size < w20.heap.size := by
      rcases Nat.lt_or_ge w19.heap.size w20.heap.size with h | h
      · exact h
      · rw [Array.getElem?_eq_none h] at hD; cases hD
    refine FN.mono (named_c 1 w20) ?_
    rintro _ w21 ⟨rfl, hE21⟩
    have n21 := hE21.size
    have L21 := L16.rebase (hM1620.trans hE21.mod) (fun k h1 h2 => by omega)
    have x21 := (x16.mod hM1620 (by omega)).ext hE21
    have v21 := v20.ext hE21
    have d21 := hE21.obj hD
    simp
    have e1 : moveE wk3 (nmN 1) 6 = 0 := by decide
    have e2 : moved wk3 (nmN 1) 6 = wk4 := by decide
    refine FN.mono (LineP.move (fun k h => .inr h) L21 (by simp) (nmN 1) 6) ?_
    rintro _ w22 ⟨rfl, L22⟩
    rw [e1]
    rw [e2] at L22
    have nX22 : ¬ ((((w.heap.size ≤ bX ∧ bX < w7.heap.size) ∨ w13.heap.size ≤ bX) ∧ bX < w16.heap.size) ∨ w21.heap.size ≤ bX) := by omega
    have nN22 : ¬ ((((w.heap.size ≤ bn ∧ bn < w7.heap.size) ∨ w13.heap.size ≤ bn) ∧ bn < w16.heap.size) ∨ w21.heap.size ≤ bn) := by omega
    have nD22 : ¬ ((((w.heap.size ≤ w19.heap.size ∧ w19.heap.size < w7.heap.size) ∨ w13.heap.size ≤ w19.heap.size) ∧ w19.heap.size < w16.heap.size) ∨ w21.heap.size ≤ w19.heap.size) := by omega
    have x22 := x21.mod L22.mod nX22
    have v22 := v21.mod L22.mod nN22
    have d22 := L22.mod.obj d21 nD22
    have n22 := L22.mod.size
    have hM22 : Mod (fun k => w.heap.size ≤ k) w w22 := hM0.trans (((hM1620.trans hE21.mod).weaken fun k hk => by omega).trans (L22.mod.weaken fun k hk => by omega))
    simp
    have a22 : Ext w22 (w22.alloc (.cells #[.string ⟨#[]⟩] 9)) := (Ext.refl w22).alloc _
    have s22 : Var (w22.alloc (.cells #[.string ⟨#[]⟩] 9)) w22.heap.size (.string ⟨#[]⟩) := Var.new w22 _ 9
    have z22 : (w22.alloc (.cells #[.string ⟨#[]⟩] 9)).heap.size = w22.heap.size + 1 := by simp
    obtain ⟨bs, hbs⟩ : ∃ bs, bs = w22.heap.size := ⟨_, rfl⟩
    rw [← hbs] at s22 z22 ⊢
    generalize (w22.alloc (.cells #[.string ⟨#[]⟩] 9)) = w23 at *
    obtain ⟨Rq2, Rw2, M2, N2, l22, -⟩ := L22.ex
    have l23 := l22.ext a22
    refine FN.mono (all_c l23 (by simp) 6) ?_
    rintro _ w24 ⟨ab, av, rfl, hvA, hsA, hE24, hab, hav⟩
    simp
    have e3 : allOf wk4 6 = [wkC, wkE] := by decide
    rw [e3] at hsA
    have n24 := hE24.size
    refine WC_rangeFuncA (gf := 54) (first := #[]) (caps := #[ptr ab]) (enc := fun x => [wtV x]) (by simp) (fun _ _ => callFunc_enter Try.func54 rfl rfl _ _) (all_it hvA hsA (by simp)) (fun x => rfl) (fun k => k = bs)
      (fun C pre W => Var W bs (.string (sOf pre)) ∧ (∀ k, C k ↔ k = bs) ∧ Mod (fun k => k = bs) w24 W) (fun _ _ _ _ => False)
      (fun k hk => ?_) (fun k hk => by omega) ?_ (fun _ _ _ _ _ h _ => h.elim) ⟨s22.ext hE24, fun _ => Iff.rfl, Mod.refl _ _⟩ (fun x B ρ' W' => ∃ b, ρ' 18 = ptr b ∧ B ≤ b ∧ WtAt W' b x ∧ ρ' 17 = ptr bs)
      ?_ ?_ ?_ ?_ (fun _ _ _ _ _ h _ => h.elim)
    · rcases hk with rfl | ⟨hn, rfl⟩
      · exact ⟨hvA.lt, by omega⟩
      · have h1 := hav hn
        exact ⟨hsA.lt (by simp), by omega⟩
    · rintro C pre W W' ⟨h1, h2, h3⟩ hag
      exact ⟨h1.agr hag (.inr ((h2 _).2 rfl)), h2, h3.agr_old hag⟩
    · rintro x B ρ' W W' ⟨b, h1, h2, h3, h4⟩ hag
      exact ⟨b, h1, h2, h3.agr hag h2, h4⟩
    · intro lp x W
      simp
      exact ⟨(Ext.refl W).alloc _, WtAt.new W x 30⟩
    · rintro lp C pre y B ρ' W hsp ⟨h1, h2, h3⟩ hl1 hl2 - hBW ⟨b, e18, hB, hy, e17⟩
      have hpx : pre = [] ∧ y = wkC ∨ pre = [wkC] ∧ y = wkE := by
        obtain ⟨_, suf, hsuf⟩ := hsp
        match pre, hsuf with
        | [], h => simp at h; exact .inl ⟨rfl, h.1.symm⟩
        | [a], h => simp at h; exact .inr ⟨by rw [h.1], h.2.1.symm⟩
        | a :: b :: l, h => have := congrArg List.length h; simp at this
      have hw : IntKind.u8.wrap (IntKind.u32.wrap (96 + y.1.2.2.2)) = 96 + y.1.2.2.2 := by rcases hpx with ⟨_, rfl⟩ | ⟨_, rfl⟩ <;> decide
      have hadd : ∀ W, (binOp .add 9 (.string (sOf pre)) (.string (strOfNums [96 + y.1.2.2.2]))).run Try.prog W = .ok (.string (sOf (pre ++ [y]))) W := fun W => by
        rw [b_add_str _ _ _ _ (by rcases hpx with ⟨rfl, rfl⟩ | ⟨rfl, rfl⟩ <;> decide)]
        unfold sOf
        rw [List.foldl_append]; rfl
      have hE4 := (Ext.refl W).alloc (.cells #[.int .u8 (96 + y.1.2.2.2)] 5)
      have h4 := h1.ext hE4
      simp [e17, e18, h1.cell, hy.c3, hw, str1, hadd, h4.cell, h4.thaw]
      generalize (W.alloc (.cells #[.int .u8 (96 + y.1.2.2.2)] 5)) = W4 at *
      have hM := (Mod.refl (fun k => k = bs) W4).setC 0 (.string (sOf (pre ++ [y])))
      exact ⟨C, ⟨h4.set _, h2, (h3.trans hE4.mod).trans hM⟩, Own.of_mod ((hE4.mod.trans hM).weaken fun k hk => (h2 k).2 hk)⟩
    · rintro C xs w25 rfl ⟨s25, -, hM25⟩ hD2
      simp
      have n25 := hM25.size
      have hD2' : w24.heap.size < w25.heap.size := by
        rcases Nat.lt_or_ge w24.heap.size w25.heap.size with h | h
        · exact h
        · rw [Array.getElem?_eq_none h] at hD2; cases hD2
      have hE2224 := a22.trans hE24
      have hM2225 : Mod (fun k => k = bs) w22 w25 := hE2224.mod.trans hM25
      refine FN.mono (named_c 4 w25) ?_
      rintro _ w26 ⟨rfl, hE26⟩
      have n26 := hE26.size
      have L26 := L22.rebase (hM2225.trans hE26.mod) (fun k h1 h2 => by omega)
      have x26 := (x22.mod hM2225 (by omega)).ext hE26
      have v26 := (v22.mod hM2225 (by omega)).ext hE26
      have s26 := s25.ext hE26
      have d26 := hE26.obj (hM2225.obj d22 (by omega))
      have D26 := hE26.obj hD2
      simp
      have e4 : dropE wk4 (nmN 4) = 5 := by decide
      have e5 : dropV wk4 (nmN 4) = zW := by decide
      refine FN.mono (LineP.drop L26 (by simp) (nmN 4)) ?_
      rintro _ w27 ⟨rfl, L27⟩
      rw [e4, e5]
      have M27 := L27.mod
      have n27 := M27.size
      have x27 := x26.mod M27 (by omega)
      have v27 := v26.mod M27 (by omega)
      have s27 := s26.mod M27 (by omega)
      have d27 := M27.obj d26 (by omega)
      have D27 := M27.obj D26 (by omega)
      have hM27 : Mod (fun k => w.heap.size ≤ k) w w27 := hM22.trans (((hM2225.trans hE26.mod).weaken fun k hk => by omega).trans (M27.weaken fun k hk => by omega))
      have a27 : Ext w27 (w27.alloc (.cells #[u32 0, u32 0, u64 0, u32 0, u32 0, i64 0, i64 0] 30)) := (Ext.refl w27).alloc _
      simp [zW]
      generalize (w27.alloc (.cells #[u32 0, u32 0, u64 0, u32 0, u32 0, i64 0, i64 0] 30)) = w28 at *
      refine WC_drawC 25 (.F 0 <| .F 2 <| .F 5 <| .F 8 <| .F 11 <| .F 14 <| .F 17 <| .C 1 <| .C 3 <| .F 4 <| .C 6 <| .F 7 <| .C 9 <| .F 10 <| .C 12 <| .F 13 <| .C 15 <| .F 16 <| .C 18 <| .F 19 <| .F 20 <| .F 21 <| .F 22 <| .F 23 <| .C 24 <| .Z) (fun _ => false) rfl (by kernel_rfl) fun W29 hW29 => ?_
      have hE29 : Ext w28 W29 := hW29 ▸ Ext.drew _
      simp
      have hnum : ∀ (e : Int) (W : World), FN Try.prog 7 [i64 e] W fun r W' => r = .returned (i64 e) ∧ W' = W := num_c
      refine FN.mono (hnum 0 W29) ?_
      rintro _ W30 ⟨rfl, hw30⟩
      have hE30 : Ext w28 W30 := hw30 ▸ hE29
      simp
      refine KR_ext (hw30 ▸ Ext.refl _) ?_
      simp
      refine FN.mono (hnum 0 W30) ?_
      rintro _ W31 ⟨rfl, hw31⟩
      have hE31 : Ext w28 W31 := hw31 ▸ hE30
      simp
      refine KR_ext (hw31 ▸ Ext.refl _) ?_
      simp
      refine FN.mono (hnum 0 W31) ?_
      rintro _ W32 ⟨rfl, hw32⟩
      have hE32 : Ext w28 W32 := hw32 ▸ hE31
      simp
      refine KR_ext (hw32 ▸ Ext.refl _) ?_
      simp
      refine FN.mono (hnum 0 W32) ?_
      rintro _ W33 ⟨rfl, hw33⟩
      have hE33 : Ext w28 W33 := hw33 ▸ hE32
      simp
      refine KR_ext (hw33 ▸ Ext.refl _) ?_
      simp
      refine FN.mono (hnum 0 W33) ?_
      rintro _ W34 ⟨rfl, hw34⟩
      have hE34 : Ext w28 W34 := hw34 ▸ hE33
      simp
      refine KR_ext (hw34 ▸ Ext.refl _) ?_
      simp
      refine FN.mono (hnum 0 W34) ?_
      rintro _ W35 ⟨rfl, hw35⟩
      have hE35 : Ext w28 W35 := hw35 ▸ hE34
      simp
      refine KR_ext (hw35 ▸ Ext.refl _) ?_
      simp
      refine FN.mono (hnum 0 W35) ?_
      rintro _ W36 ⟨rfl, hw36⟩
      have hE36 : Ext w28 W36 := hw36 ▸ hE35
      have hx := x27.ext (a27.trans hE36)
      have hv := v27.ext (a27.trans hE36)
      have hs := s27.ext (a27.trans hE36)
      have z0 : IntKind.i64.wrap 0 = 0 := by decide
      simp [z0]
      refine KR_ext (hw36 ▸ Ext.refl _) ?_
      simp [z0, hx.c0, hx.c1, hx.c2, hx.c3, wkB]
      have hq : nmB (1, 0, 0, 2) (1, 0, 0, 2) = true := by decide
      refine FN.mono (named_c 2 W36) ?_
      rintro _ W37 ⟨rfl, hE37'⟩
      have hE37 := hE36.trans hE37'
      simp
      refine KR_ext hE37' ?_
      simp [hq]
      refine FN.mono (hnum 220 W37) ?_
      rintro _ W38 ⟨rfl, hw38⟩
      have hE38 : Ext w28 W38 := hw38 ▸ hE37
      simp
      refine FN.mono (hnum 150 W38) ?_
      rintro _ W39 ⟨rfl, hw39⟩
      have hE39 : Ext w28 W39 := hw39 ▸ hE38
      have hv := v27.ext (a27.trans hE39)
      have hs := s27.ext (a27.trans hE39)
      have f5 : ([5, 6] : List Int).foldl (fun n k => 1000 * n + 100 * k + 30) 0 = 530630 := by decide
      rw [f5] at hv
      simp [hv.cell, hs.cell]
      have hq2 : ((sOf [wkC, wkE]).toList == [99, 97]) = true := by rw [ByteArray.toList_eq]; decide
      simp [hq2]
      refine FN.mono (hnum 5 W39) ?_
      rintro _ W40 ⟨rfl, hw40⟩
      have hE40 : Ext w28 W40 := hw40 ▸ hE39
      have D40 := (a27.trans hE40).obj D27
      have d40 := (a27.trans hE40).obj d27
      have n40 := (a27.trans hE40).size
      simp
      have hP2 := Mod.putObj (w := W40) w24.heap.size (.deferred none)
      refine LV_mark D40 (by simp) ?_
      refine LV_mark (hP2.obj d40 (by omega)) (by simp) ?_
      have hP1 := Mod.putObj (w := W40.putObj w24.heap.size (.deferred none)) w19.heap.size (.deferred none)
      simp
      have hMf := (hM27.trans ((a27.trans hE40).mod)).trans ((hP2.weaken fun k hk => by omega).trans (hP1.weaken fun k hk => by omega))
      exact hMf.ext fun _ h => h
end Go.Proofs
