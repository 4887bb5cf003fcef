/-
  Contracts of the functions that the law reaches,step by step.
-/
import Derived.Test.YtmmneeomcefgbaaGreatDoorTxB
import Derived.Test.YtmmneeomcefgbaaGreatDoorScP
namespace Go.Proofs
open Pk
set_option maxRecDepth 100000
attribute [local simp] beq_dec bne_dec
/-! ### Words: the script's words in order -/
def wordsW : List Tx := [[97,105,114],[97,114,109],[97,115,107],[99,108,111,115,101],[99,114,97,115,104],[108,97,110,100],[108,105,103,104,116],[109,101,109,98,101,114],[110,111,100,101],[111,112,101,110],[112,108,97,110],[115,101,110,100],[115,101,114,118,101],[115,116,101,112],[116,101,108,108],[116,105,99,107],[116,114,101,101]]
theorem wordsW_ok (f1 f2 : Nat) : ksKeys (lnL f1 f2) wordsW := by
  have h1 : wordsW.Perm (lnW.map (·.1)) := by decide +kernel
  have h2 : wordsW.Pairwise (· ≤ ·) := by decide +kernel
  exact ⟨h1,h2⟩
theorem words_c (w : World) : FN Tryz.prog 19 [] w fun e w' => e = .returned (.func (.func 41) #[] #[]) ∧ w' = w := by
  refine FN_enter Tryz.func19 rfl rfl (by kernel_rfl) ?_
  simp
def segW (pre : List Tx) : Prop := pre ≠ [] ∧ ∃ suf,pre ++ suf = wordsW
theorem words_it (w : World) : Iter Tryz.prog (.func (.func 41) #[] #[]) (fun x => [tv x]) (· = wordsW) segW (fun _ => False) w := by
  intro y C0 J Jx W hA hcap hC0 hJ hJx hyl h0
  refine FN_enter Tryz.func41 rfl rfl (by kernel_rfl) ?_
  simp
  refine WC_scope 0 _ rfl ?_
  simp
  refine FN.mono (slines_c W) ?_
  rintro _ w2 ⟨r,f1,f2,rfl,m2,-,-,g1,-,-,E2⟩
  simp
  refine FN.mono (kskeys_c (some r)) ?_
  rintro _ w3 ⟨rfl,rfl⟩
  have v1 := Var.new w2 (.map (some r)) 73
  have E3 : Ext W (w2.alloc (.cells #[.map (some r)] 73)) := E2.alloc _
  have m3 : KsMV (w2.alloc (.cells #[.map (some r)] 73)) (.map (some r)) (lnL f1 f2) := MapV.keep m2.val fun q e hl => ((Ext.refl w2).alloc (.cells #[.map (some r)] 73)).blk q hl
  have hln : (lnL f1 f2).length = 17 := rfl
  simp
  refine FN.mono (kssorted_c v1 m3 (by rw [hln]; omega) (by rw [hln]; omega)) ?_
  rintro _ w4 ⟨b,c,ys,rfl,hk,s4,E4,g4,l4⟩
  obtain rfl := ksuniq hk (wordsW_ok f1 f2)
  have ln4 := fun ty W => s4.isLen (P := Tryz.prog) (t := 60) (by simp) ty W
  simp [ln4]
  have hlen : wordsW.length = 17 := rfl
  have h0' := hJ C0 [] W w4 h0 (E3.trans E4).agr
  have hb4 : W.heap.size ≤ b := by have := E3.size; omega
  have hsz4 := (E3.trans E4).size
  generalize hxs : wordsW = xs at *
  refine WC_loop (fun k ρ ds w' => ∃ (i : Nat) (C : Nat → Prop), k = xs.length - i ∧ i ≤ xs.length ∧ ρ 0 = y ∧ ρ 6 = .slice (some ⟨b, 0, none⟩) xs.length c ∧ ρ 7 = i64 xs.length ∧ ρ 8 = i64 i ∧ ds = [] ∧ J C (xs.take i) w' ∧
    (∀ k,C k → C0 k ∨ w4.heap.size ≤ k) ∧ Agr (fun k => k < w4.heap.size ∧ ¬ C0 k) w4 w') xs.length ⟨0,C0,by simp,by simp,by simp,by simp,by simp,by simp,rfl,h0',fun k h => .inl h,Agr.refl _ _⟩ ?_
  rintro k ρ ds w5 ⟨i,C,rfl,hi,e0,e6,e7,e8,rfl,hj,hC,hAg⟩
  by_cases hlt : i < xs.length
  · have hs5 : Sl w5 1 (.slice (some ⟨b,0,none⟩) xs.length c) xs.length (xs.map tv) := s4.agr hAg ⟨by simp only [slB]; omega,fun hc => by have := hC0 _ hc; simp only [slB] at this; omega⟩
    have cl := hs5.at_ i (tv xs[i]) (by simp [hlt])
    have ix := hs5.index (P := Tryz.prog) (t := 60) (by simp) .i64 i (by omega) (by omega) w5
    have wi : IntKind.i64.wrap ((i : Int) + 1) = i + 1 := wrap64 _ (by omega) (by omega)
    have hlt' : (i : Int) < xs.length := by omega
    have htk : xs.take (i + 1) = xs.take i ++ [xs[i]] := by rw [List.take_succ_eq_append_getElem hlt]
    have hsp : segW (xs.take i ++ [xs[i]]) := ⟨List.append_ne_nil_of_right_ne_nil _ (by simp),xs.drop (i + 1),by rw [← htk,List.take_append_drop,hxs]⟩
    simp [e0,e6,e7,e8,hlt,ix,cl]
    refine CV.mono (hyl C (xs.take i) xs[i] w5 hsp hj) ?_
    rintro _ w6 (⟨rfl, C', hj', hown⟩ | ⟨rfl, C', hj', hown⟩)
    · have hAg' : Agr (fun k => k < w4.heap.size ∧ ¬ C0 k) w5 w6 := hown.mod.agr (fun k hk hc => by rcases hC k hc with h | h; exact hk.2 h; omega)
      simp [e0,e6,e7,e8,wi]
      refine ⟨xs.length - (i + 1),by omega,i + 1,rfl,by omega,by omega,C',by rw [htk]; exact hj',?_,hAg.trans hAg'⟩
      intro k hk
      rcases hown.own k hk with h | h
      · exact hC k h
      · have := hAg.size; exact .inr (by omega)
    · simp
      exact ⟨C',.inr ⟨_,hsp,hj'⟩⟩
  · have hi' : i = xs.length := by omega
    simp [e7,e8,hlt]
    rw [hi',List.take_length] at hj
    exact ⟨C,.inl hj⟩
end Go.Proofs
