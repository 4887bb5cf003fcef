/-
  Contracts of the functions that the law reaches,step by step.
-/
import Derived.Test.YtmmneeomcefgbaaGreatDoorScJ
import Derived.Lib.IndexBytes
namespace Go.Proofs
open Pk
set_option maxRecDepth 100000
attribute [local simp] beq_dec bne_dec
/-! ### A text's lines -/
def wdn : Tx → List Tx
  | [] => [[]]
  | c :: r => if c = 10 then [] :: wdn r else match wdn r with
    | [] => [[c]]
    | a :: t => (c :: a) :: t
theorem split_wdn : ∀ l : Tx, Lib.splitK [10] 0 (l.count 10) l = wdn l
  | [] => rfl
  | c :: r => by
    have ih := split_wdn r
    by_cases hc : c = 10
    · subst hc
      have hix : Lib.index (10 :: r) [10] = 0 := by
        unfold Lib.index
        simp [List.isPrefixOf]
      rw [List.count_cons_self,wdn,if_pos rfl,← ih,Lib.splitK,hix]
      rfl
    · rw [List.count_cons_of_ne (by simpa using hc),wdn,if_neg hc,← ih]
      have hix : Lib.index (c :: r) [10] = if Lib.index r [10] == -1 then -1 else Lib.index r [10] + 1 := by
        rw [Lib.index]
        have : ([10] : Tx).isPrefixOf (c :: r) = false := by simp [List.isPrefixOf,Ne.symm hc]
        rw [this]; simp
      cases hk : r.count 10 with
      | zero => rfl
      | succ k =>
        have hne : Lib.index r [10] ≠ -1 := fun e => by
          have := Lib.count_miss e
          rw [Lib.count_one] at this
          omega
        have hge := Lib.index_ge r [10]
        obtain ⟨i,hi⟩ : ∃ i : Nat,Lib.index r [10] = i := ⟨(Lib.index r [10]).toNat,by omega⟩
        have h1 : (((i : Int) == -1) = true) ↔ False := by simp <;> omega
        rw [hi] at hix
        rw [if_neg (fun e => h1.1 e)] at hix
        have h2 : ¬ ((((i : Int) + 1) == -1) = true) := by simp <;> omega
        rw [Lib.splitK,Lib.splitK,hix,hi,if_neg h2,if_neg (fun e => h1.1 e)]
        have e1 : ((i : Int) + 1).toNat = i + 1 := by omega
        have e2 : ((i : Int)).toNat = i := by omega
        rw [e1,e2]
        rfl
theorem wdn_len : ∀ l : Tx, (wdn l).length ≤ l.length + 1
  | [] => by simp [wdn]
  | c :: r => by
    have := wdn_len r
    unfold wdn
    split
    · simp; omega
    · split
      · simp
      · rename_i h; rw [h] at this; simp at this ⊢; omega
set_option maxHeartbeats 1000000 in
theorem splitn_c (s : Tx) (hs : s.length ≤ 1000000) (w : World) : FN Tryz.prog 33 [tv s, tv [10]] w fun e w' => ∃ c, e = .returned (.slice (some ⟨w.heap.size, 0, none⟩) (wdn s).length c) ∧ Sl w' 1 (.slice (some ⟨w.heap.size, 0, none⟩) (wdn s).length c) (wdn s).length ((wdn s).map tv) ∧ Ext w w' ∧ w'.heap.size = w.heap.size + 1 := by
  refine FN_enter Tryz.func33 rfl rfl (by kernel_rfl) ?_
  have hcl : s.count 10 ≤ s.length := List.count_le_length
  have hcB : Lib.countB ⟨s.toArray⟩ ⟨#[10]⟩ = s.count 10 := by
    show Lib.count s [10] = _
    rw [Lib.count_one]
  have hC : Calls Tryz.prog 134 #[.string ⟨s.toArray⟩, .string ⟨#[10]⟩] w fun e w' => e = .returned (.int .i64 (Lib.countB ⟨s.toArray⟩ ⟨#[10]⟩)) ∧ w' = w := by
    refine (Tryz.strings_Count_one ⟨s.toArray⟩ 10 w).mono ?_
    rintro e w' ⟨rfl,rfl⟩
    rw [hcB]
    exact ⟨rfl,rfl⟩
  have hI : ∀ (x : ByteArray) (c : Array Value), x.size ≤ (⟨s.toArray⟩ : ByteArray).size → Calls Tryz.prog 135 #[.string x, .string ⟨#[10]⟩] (w.alloc (.cells c 9)) fun e w' => e = .returned (.int .i64 (Lib.indexB x ⟨#[10]⟩)) ∧ w' = w.alloc (.cells c 9) := by
    intro x c hx
    refine (Tryz.strings_Index_one x 10 _).mono ?_
    rintro e w' ⟨rfl,rfl⟩
    refine ⟨?_,rfl⟩
    show _ = Ending.returned (Value.int .i64 (Lib.index x.data.toList [10]))
    rw [Lib.index_one]
  have hg := Any.strings_genSplit_core Tryz.lays221 (by kernel_rfl) ⟨s.toArray⟩ ⟨#[10]⟩ 0 (-1) (s.count 10 + 1) w (by rw [tsz]; omega) (by decide) (Nat.zero_le _) hI hC (by decide) (by decide) (by rw [if_pos (by decide),hcB,tsz]; omega)
  simp
  rw [Nat.add_sub_cancel] at hg
  have hp : (Lib.splitB ⟨#[10]⟩ 0 (s.count 10) ⟨s.toArray⟩).map (·.data.toList) = wdn s := by
    rw [Lib.splitB_data,← split_wdn]
  have hpl := Lib.splitB_all ⟨#[10]⟩ (by decide) 0 (s.count 10) ⟨s.toArray⟩ hcB
  generalize Lib.splitB ⟨#[10]⟩ 0 (s.count 10) ⟨s.toArray⟩ = ps at *
  have hwl : (wdn s).length = ps.length := by rw [← hp]; simp
  have hcs : (ps.map Value.string) = (wdn s).map tv := by
    rw [← hp,List.map_map]
    refine List.map_congr_left fun b _ => ?_
    simp
  refine FN.mono (FN_of_calls Tryz.func98 rfl rfl hg) ?_
  rintro _ w2 ⟨rfl,rfl⟩
  rw [← hpl,Lib.cellsOf_full,hcs]
  simp [hwl]
  have hE1 : Ext w (w.alloc (.cells ((wdn s).map tv).toArray 9)) := (Ext.refl w).alloc _
  refine ⟨⟨by simp [hwl],.inr ⟨_,0,_,rfl,by omega⟩,fun j u hj => ?_⟩,hE1⟩
  simp only [slB,slO,Nat.zero_add]
  rw [World.cell?_alloc_new]
  simpa using hj
/-- The lines that are not empty,with their numbers. -/
def lnsF : Nat → List Tx → List (Nat × Tx)
  | _,[] => []
  | i,x :: l => if x = [] then lnsF (i + 1) l else (i,x) :: lnsF (i + 1) l
abbrev lineE (x : Nat × Tx) : List Value := [i64 x.1,tv x.2]
theorem lnsF_take : ∀ (l : List Tx) (k i : Nat) (hi : i < l.length), lnsF k (l.take (i + 1)) = if l[i] = [] then lnsF k (l.take i) else lnsF k (l.take i) ++ [(k + i, l[i])]
  | x :: l, k, 0, _ => by
    simp only [List.take_succ_cons,List.take_zero,lnsF,List.getElem_cons_zero,Nat.add_zero]
    split <;> rfl
  | x :: l, k, i + 1, hi => by
    have ih := lnsF_take l (k + 1) i (by simpa using hi)
    simp only [List.take_succ_cons,List.getElem_cons_succ]
    rw [lnsF,lnsF,ih]
    have e : k + 1 + i = k + (i + 1) := by omega
    by_cases h1 : x = [] <;> by_cases h2 : l[i]'(by simpa using hi) = [] <;> simp [h1,h2,e]
def segL (xs pre : List (Nat × Tx)) : Prop := pre ≠ [] ∧ ∃ suf,pre ++ suf = xs
theorem lines_it {w : World} {b : Nat} {s : Tx} (v1 : Var w b (tv s)) (hs : s.length ≤ 1000000) : Iter Tryz.prog (.func (.func 40) #[] #[ptr b]) lineE (· = lnsF 0 (wdn s)) (segL (lnsF 0 (wdn s))) (fun k => k = b) w := by
  intro y C0 J Jx W hA hcap hC0 hJ hJx hyl h0
  have k1 := hcap b rfl
  have v1W := v1.agr hA k1.1
  refine FN_enter Tryz.func40 rfl rfl (by kernel_rfl) ?_
  simp
  refine WC_scope 0 _ rfl ?_
  simp [v1W.cell]
  refine FN.mono (splitn_c s hs W) ?_
  rintro _ w2 ⟨c,rfl,s2,E2,z2⟩
  have ln2 := fun ty W => s2.isLen (P := Tryz.prog) (t := 60) (by simp) ty W
  simp [ln2]
  have hlen := wdn_len s
  have h0' := hJ C0 [] W w2 h0 E2.agr
  generalize hxs : wdn s = xs at *
  refine WC_loop (fun k ρ ds w' => ∃ (i : Nat) (C : Nat → Prop), k = xs.length - i ∧ i ≤ xs.length ∧ ρ 0 = y ∧ ρ 1 = ptr b ∧ ρ 6 = .slice (some ⟨W.heap.size, 0, none⟩) xs.length c ∧ ρ 7 = i64 xs.length ∧ ρ 8 = i64 i ∧ ds = [] ∧ J C (lnsF 0 (xs.take i)) w' ∧
    (∀ k,C k → C0 k ∨ w2.heap.size ≤ k) ∧ Agr (fun k => k < w2.heap.size ∧ ¬ C0 k) w2 w') xs.length ⟨0,C0,by simp,by simp,by simp,by simp,by simp,by simp,by simp,rfl,h0',fun k h => .inl h,Agr.refl _ _⟩ ?_
  rintro k ρ ds w3 ⟨i,C,rfl,hi,e0,e1,e6,e7,e8,rfl,hj,hC,hAg⟩
  by_cases hlt : i < xs.length
  · have hs3 : Sl w3 1 (.slice (some ⟨W.heap.size,0,none⟩) xs.length c) xs.length (xs.map tv) := s2.agr hAg ⟨by simp only [slB]; omega,fun hc => by have := hC0 _ hc; simp only [slB] at this; omega⟩
    have cl := hs3.at_ i (tv xs[i]) (by simp [hlt])
    have ix := hs3.index (P := Tryz.prog) (t := 60) (by simp) .i64 i (by omega) (by omega) w3
    have htk := lnsF_take xs 0 i hlt
    rw [Nat.zero_add] at htk
    have wi : IntKind.i64.wrap ((i : Int) + 1) = i + 1 := wrap64 _ (by omega) (by omega)
    have hlt' : (i : Int) < xs.length := by omega
    by_cases hx : xs[i] = []
    · rw [if_pos hx] at htk
      have hq : (xs[i] == []) = true := by rw [hx]; rfl
      simp [e0,e1,e6,e7,e8,hlt,ix,cl,hx,wi]
      refine ⟨xs.length - (i + 1),by omega,i + 1,rfl,by omega,by omega,C,by rw [htk]; exact hj,hC,hAg⟩
    · rw [if_neg hx] at htk
      have hsp : segL (lnsF 0 xs) (lnsF 0 (xs.take i) ++ [(i, xs[i])]) := by
        refine ⟨by simp,?_⟩
        rw [← htk]
        have app : ∀ (a b : List Tx) (k : Nat), ∃ suf, lnsF k a ++ suf = lnsF k (a ++ b) := by
          intro a
          induction a with
          | nil => intro b k; exact ⟨_,rfl⟩
          | cons x a ih =>
            intro b k
            obtain ⟨suf,h⟩ := ih b (k + 1)
            refine ⟨suf,?_⟩
            rw [List.cons_append,lnsF,lnsF]
            split
            · exact h
            · rw [List.cons_append,h]
        obtain ⟨suf,h⟩ := app (xs.take (i + 1)) (xs.drop (i + 1)) 0
        rw [List.take_append_drop] at h
        exact ⟨suf,h⟩
      have hE : (xs[i]).isEmpty = false := by simpa using hx
      simp [e0,e6,e7,e8,hlt,ix,cl,hE]
      refine CV.mono (hyl C (lnsF 0 (xs.take i)) (i,xs[i]) w3 hsp hj) ?_
      rintro _ w4 (⟨rfl, C', hj', hown⟩ | ⟨rfl, C', hj', hown⟩)
      · have hAg' : Agr (fun k => k < w2.heap.size ∧ ¬ C0 k) w3 w4 := hown.mod.agr (fun k hk hc => by rcases hC k hc with h | h; exact hk.2 h; omega)
        simp [e0,e1,e6,e7,e8,wi]
        refine ⟨xs.length - (i + 1),by omega,i + 1,rfl,by omega,by omega,C',by rw [htk]; exact hj',?_,hAg.trans hAg'⟩
        intro k hk
        rcases hown.own k hk with h | h
        · exact hC k h
        · have := hAg.size; exact .inr (by omega)
      · simp
        exact ⟨C',.inr ⟨_,hsp,hj'⟩⟩
  · have hi' : i = xs.length := by omega
    simp [e7,e8,hlt]
    rw [hi',List.take_length] at hj
    exact ⟨C,.inl hj⟩
theorem lines_c (w : World) (s : Tx) : FN Tryz.prog 18 [tv s] w fun e w' => ∃ b, e = .returned (.func (.func 40) #[] #[ptr b]) ∧ Var w' b (tv s) ∧ w.heap.size ≤ b ∧ Ext w w' := by
  refine FN_enter Tryz.func18 rfl rfl (by kernel_rfl) ?_
  simp
  exact ⟨Var.new w _ _,(Ext.refl w).alloc _⟩
end Go.Proofs
