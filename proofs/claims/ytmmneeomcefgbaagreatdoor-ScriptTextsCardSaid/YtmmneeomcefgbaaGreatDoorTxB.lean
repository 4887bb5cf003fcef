/-
  Contracts of the functions that the law reaches,step by step.
-/
import Derived.Test.YtmmneeomcefgbaaGreatDoorTxA
import Derived.Test.YtmmneeomcefgbaaGreatDoorTxS
namespace Go.Proofs
open Pk
set_option maxRecDepth 100000
attribute [local simp] beq_dec bne_dec
/-! ### The words: the keys of a map of texts -/
abbrev KsML := List (Tx × List Value)
abbrev KsMV (w : World) (v : Value) (m : KsML) := MapV tv agE w v m
theorem kstm : Tryz.prog.underlying 73 = some (.map 9 78) := by simp
theorem ksit {w : World} {b1 : Nat} {v : Value} {m : KsML} (v1 : Var w b1 v) (hm : KsMV w v m) :
    Iter Tryz.prog (.func (.func 106) #[] #[ptr b1]) (fun x => [tv x]) (fun xs => xs.Perm (m.map (·.1))) (fun pre => pre.length ≤ m.length) (fun k => k = b1 ∨ v = .map (some k)) w := by
  intro y C0 J Jx W hA hcap hC0 hJ hJx hy h0
  have k1 := hcap b1 (.inl rfl)
  have k2 := fun r e => hcap r (.inr e)
  have v1W := v1.agr hA k1.1
  have hmW : KsMV W v m := hm.agr hA fun r e => hm.lt e
  refine FN_enter Tryz.func106 rfl rfl (by kernel_rfl) ?_
  obtain ⟨o,hr,hi⟩ := hmW.range (P := Tryz.prog) kstm
  simp [v1W.cell,hr]
  have hE := (Ext.refl W).alloc o
  have h0' := hJ C0 [] W (W.alloc o) h0 hE.agr
  obtain ⟨ib,hib⟩ : ∃ ib,ib = W.heap.size := ⟨_,rfl⟩
  have hsz : (W.alloc o).heap.size = ib + 1 := by rw [hib]; simp
  rw [← hib] at hi ⊢
  generalize (W.alloc o) = w1 at *
  refine WC_loop (fun k ρ ds w' => ∃ (idxs : List Nat) (C : Nat → Prop), k + idxs.length = m.length ∧ ρ 0 = y ∧ ρ 5 = ptr ib ∧ ds = [] ∧ VIter tv agE w' ib v m idxs ∧ J C ((seenOf m idxs).map (·.1)) w' ∧
    (∀ k,C k → C0 k ∨ ib < k) ∧ Agr (fun k => k < W.heap.size ∧ ¬ C0 k) W w') m.length ⟨[],C0,by simp,by simp,by simp,rfl,hi,h0',fun k h => .inl h,hE.agr⟩ ?_
  rintro k ρ ds w2 ⟨idxs,C,hk,e0,e5,rfl,hI,hj,hC,hAg⟩
  have hCi : ¬ C ib := fun h => by
    rcases hC _ h with h | h
    · have := hC0 _ h; omega
    · omega
  have hCr : ∀ r, v = .map (some r) → ¬ C r := fun r e h => by
    have h3 := hm.lt e
    have h4 := hA.size
    rcases hC _ h with h | h
    · exact (k2 r e).2 h
    · omega
  rcases hI.next (P := Tryz.prog) 0 with ⟨hp, hrun⟩ | ⟨i, p, w3, hpi, hni, hrun, hI3, hM3, hent, hs3⟩
  · simp [e5,hrun]
    exact ⟨C,.inl ⟨_,(seenOf_all hp).map _,hj⟩⟩
  · have hj3 : J C ((seenOf m idxs).map (·.1)) w3 := hJ _ _ _ _ hj (hM3.agr fun j hq e => by
      subst e
      rcases hq with hq | hq
      · omega
      · exact hCi hq)
    have hb3 := hI3.bound
    simp only [List.length_append,List.length_singleton] at hb3
    have hsp : ((seenOf m idxs).map (·.1) ++ [p.1]).length ≤ m.length := by
      have := seenOf_len m idxs
      simp; omega
    simp [e0,e5,hrun,hent]
    refine CV.mono (hy C _ p.1 w3 hsp hj3) ?_
    rintro _ w4 (⟨rfl, C', hj', hown⟩ | ⟨rfl, C', hj', hown⟩)
    · simp [e0,e5]
      have hM4 := hown.mod
      refine ⟨k - 1, by omega, idxs ++ [i], by simp; omega, hI3.mod hM4 hCr hCi, C', ?_, ?_, ?_⟩
      · rw [seenOf_snoc hpi,List.map_append]; exact hj'
      · intro k' hk'
        rcases hown.own k' hk' with h | h
        · exact hC k' h
        · have := hI3.lt.2; exact .inr (by omega)
      · refine hAg.trans ((hM3.agr fun i hi e => by subst e; omega).trans (hM4.agr fun i hi hc => ?_))
        rcases hC i hc with h | h
        · exact hi.2 h
        · omega
    · simp
      exact ⟨C',.inr ⟨_,hsp,hj'⟩⟩
theorem ksappendSeq_c {w : World} {gf : FuncId} {first caps : Array Value} {S Sp : List Tx → Prop} {Cap : Nat → Prop} (hit : Iter Tryz.prog (.func (.func gf) first caps) (fun x => [tv x]) S Sp Cap w) (hent : ∀ l w, (callFunc gf l).run Tryz.prog w = .ok (.enter gf l) w)
    (hcap : ∀ k,Cap k → k < w.heap.size) (hb : ∀ xs,Sp xs → xs.length ≤ 1048576) :
    FN Tryz.prog 142 [.slice none 0 0,.func (.func gf) first caps] w fun e w' => ∃ xs v,S xs ∧ e = .returned v ∧ w'.ownsRow w.heap.size 9 1 v xs.length (xs.map tv) ∧ Ext w w' := by
  refine FN_enter Tryz.func142 rfl rfl (by kernel_rfl) ?_
  simp
  have v1 := Var.new w (.slice none 0 0) 60
  have he := (Ext.refl w).alloc (.cells #[.slice none 0 0] 60)
  have hsz : (w.alloc (.cells #[.slice none 0 0] 60)).heap.size = w.heap.size + 1 := by simp
  generalize (w.alloc (.cells #[.slice none 0 0] 60)) = w1 at *
  refine WC_rangeFunc (gf := gf) (first := first) (caps := caps) (enc := fun x => [tv x]) (S := S) (Sp := Sp) (Cap := Cap) rfl hent (hit.ext he hcap) (by simp) (fun k => k = w.heap.size)
    (fun C pre W => ∃ v,Var W w.heap.size v ∧ W.ownsRow (w.heap.size + 1) 9 1 v pre.length (pre.map tv) ∧ (∀ k,C k ↔ k = w.heap.size ∨ (slN v = false ∧ k = slB v)) ∧ Ext w W) (fun _ _ _ _ => False)
    (fun k hk => ⟨by have := hcap k hk; omega,by have := hcap k hk; omega⟩) (fun k hk => by omega) ?_ (fun _ _ _ _ _ h _ => h.elim) ⟨_,v1,World.ownsRow_nil _ _ _ _,by simp [slN],he⟩ ?ρ ?ha ?_ ?_ (fun _ _ _ _ _ h _ => h.elim)
  case ha =>
    intro l x W
    simp
    exact rfl
  · rintro C pre W W' ⟨v,h1,h2,h3,h4⟩ hag
    refine ⟨v,h1.agr hag (.inl (by omega)),own_keep h2 fun hn hl => hag.blk _ hl (.inr ((h3 _).2 (.inr ⟨hn,rfl⟩))),h3,?_⟩
    exact ⟨hag.os.trans h4.os,hag.tape.trans h4.tape,hag.out.trans h4.out,Nat.le_trans h4.size hag.size,fun i hi => (hag.blk i (Nat.lt_of_lt_of_le hi h4.size) (.inl (by omega))).trans (h4.blk i hi)⟩
  · rintro l C pre x W hsp ⟨v,h1,h2,h3,h4⟩ - - -
    simp [h1.cell]
    have e1 := (Ext.refl W).alloc (.cells #[tv x] 9)
    have h1' := h1.ext e1
    have h2' := own_ext h2 e1
    have hlen := hb _ hsp
    rw [List.length_append,List.length_singleton] at hlen
    obtain ⟨v',W2,hr,ho,hm,hnew⟩ := append_own (P := Tryz.prog) (t := 60) (ty := 60) (e := 9) (s := 1) (by simp) (by simp) (by kernel_rfl) h2' (Sl.one W (tv x) 9) (by intro u hu; rw [List.mem_singleton] at hu; subst hu; rfl) hlen (by have := h1'.lt; omega)
    simp [hr]
    have g1 := h1'.mod hm (fun h => by have := own_ge h2' h.1; omega)
    obtain ⟨a',c',rfl⟩ := own_val ho
    simp [g1.cell,g1.thaw]
    have hM := Mod.setCell (S := fun k => k = w.heap.size) (Mod.refl _ W2) ⟨w.heap.size,0,none⟩ (.slice a' (pre.length + 1) c') (.inl rfl)
    have hCge : ∀ i, C i → w.heap.size ≤ i := fun i hi => by
      rcases (h3 i).1 hi with h | ⟨h, h'⟩
      · omega
      · have := own_ge h2 h; omega
    have hm' : Pk.Mod C W W2 := e1.mod.trans' hm (S := C) (fun i hi => .inl ((h3 i).2 (.inr hi)))
    have hx : Ext w W2 := ((h4.mod (S := fun k => w.heap.size ≤ k)).trans (hm'.weaken hCge)).ext (fun _ h => h)
    refine ⟨fun k => k = w.heap.size ∨ (slN (.slice a' (pre.length + 1) c') = false ∧ k = slB (.slice a' (pre.length + 1) c')), ⟨_, g1.set _, own_keep ho ?_, fun k => Iff.rfl, ?_⟩, ?_, ?_, ?_⟩
    · intro hn hl
      refine hM.blk _ hl ?_
      have := own_ge ho hn
      omega
    · exact hx.setCell _ _ (Nat.le_refl _)
    · exact hm'.trans (hM.weaken fun i hi => (h3 i).2 (.inl hi))
    · rintro k (h | ⟨h, rfl⟩)
      · exact .inl ((h3 k).2 (.inl h))
      · rcases hnew h with ⟨h5, h6⟩ | h5
        · exact .inl ((h3 _).2 (.inr ⟨h5,h6⟩))
        · have := e1.size; exact .inr (by omega)
    · rintro k (h | ⟨h, rfl⟩)
      · exact .inl ((h3 k).2 (.inl h))
      · have := own_lt ho h
        exact .inr (by simpa using this)
  · rintro C xs W hS ⟨v,h1,h2,h3,h4⟩ hD
    simp [h1.cell]
    refine LV_mark hD (by simp) ?_
    simp
    refine ⟨xs,hS,own_keep (own_lower h2 (Nat.le_succ _)) fun hn hl => World.putObj_heap_other ?_,h4.putObj _ _ (by omega)⟩
    intro e
    obtain ⟨c,hc⟩ := own_obj h2 hn
    rw [e,hD] at hc
    cases hc
theorem kscollect_c {w : World} {gf : FuncId} {first caps : Array Value} {S Sp : List Tx → Prop} {Cap : Nat → Prop} (hit : Iter Tryz.prog (.func (.func gf) first caps) (fun x => [tv x]) S Sp Cap w) (hent : ∀ l w, (callFunc gf l).run Tryz.prog w = .ok (.enter gf l) w)
    (hcap : ∀ k,Cap k → k < w.heap.size) (hb : ∀ xs,Sp xs → xs.length ≤ 1048576) :
    FN Tryz.prog 104 [.func (.func gf) first caps] w fun e w' => ∃ xs v,S xs ∧ e = .returned v ∧ w'.ownsRow w.heap.size 9 1 v xs.length (xs.map tv) ∧ Ext w w' := by
  refine FN_enter Tryz.func104 rfl rfl (by kernel_rfl) ?_
  simp
  refine FN.mono (ksappendSeq_c hit hent hcap hb) ?_
  rintro _ w1 ⟨xs,v,h1,rfl,h2,h3⟩
  simp
  exact ⟨xs,h1,h2,h3⟩
theorem kskeys_c {w : World} (o : Option Nat) : FN Tryz.prog 43 [.map o] w fun e w' => e = .returned (.func (.func 106) #[] #[ptr w.heap.size]) ∧ w' = w.alloc (.cells #[.map o] 73) := by
  refine FN_enter Tryz.func43 rfl rfl (by kernel_rfl) ?_
  simp
def ksKeys (m : KsML) (ys : List Tx) : Prop := ys.Perm (m.map (·.1)) ∧ ys.Pairwise (· ≤ ·)
theorem ksuniq {m : KsML} {a b : List Tx} (h : ksKeys m a) (h' : ksKeys m b) : a = b :=
  List.Perm.eq_of_pairwise (fun _ _ _ _ h1 h2 => List.le_antisymm h1 h2) h.2 h'.2 (h.1.trans h'.1.symm)
theorem ksort_ok (xs : List Tx) : (xs.mergeSort fun x y => decide (x ≤ y)).Perm xs ∧ (xs.mergeSort fun x y => decide (x ≤ y)).Pairwise (· ≤ ·) := by
  refine ⟨List.mergeSort_perm _ _,?_⟩
  have := List.pairwise_mergeSort (le := fun a b : Tx => decide (a ≤ b)) (fun a b c h1 h2 => by simp only [decide_eq_true_eq] at h1 h2 ⊢; exact List.le_trans h1 h2) (fun a b => by simp only [Bool.or_eq_true,decide_eq_true_eq]; exact List.le_total a b) xs
  exact this.imp fun h => by simpa using h
open Go.Sort Go.RowKit in
theorem mod_sorted {α : Type} [Inhabited α] (enc : α → Value) (w : World) (n b off : Nat) (d : Array α) (os : Array Obj) : Pk.Mod (fun i => i = b) w (grow (putRow enc (Sort.ahead w n) b off d) os) := by
  refine ⟨?_, ?_, ?_, ?_, fun i hi hne => ?_⟩
  · simp [grow,putRow,mapBlock,Sort.ahead]
  · simp [grow,putRow,mapBlock,Sort.ahead]
  · simp [grow,putRow,mapBlock,Sort.ahead]
  · simp [grow,putRow,mapBlock,Sort.ahead]
  · simp only [grow,putRow,mapBlock,Sort.ahead]
    rw [Array.getElem?_append_left (by simpa using hi),Array.getElem?_modify,if_neg (fun e => hne e.symm)]
open Go.Sort Go.RowKit in
theorem kssorted_c {w : World} {b1 : Nat} {v : Value} {m : KsML} (v1 : Var w b1 v) (hm : KsMV w v m) (h0 : 0 < m.length) (hl : m.length ≤ 255) :
    FN Tryz.prog 42 [.func (.func 106) #[] #[ptr b1]] w fun e w' => ∃ b c ys,e = .returned (.slice (some ⟨b,0,none⟩) ys.length c) ∧ ksKeys m ys ∧ Sl w' 1 (.slice (some ⟨b,0,none⟩) ys.length c) ys.length (ys.map tv) ∧ Ext w w' ∧ w.heap.size ≤ b ∧ b < w'.heap.size := by
  refine FN_enter Tryz.func42 rfl rfl (by kernel_rfl) ?_
  simp
  have hcap : ∀ k, (k = b1 ∨ v = .map (some k)) → k < w.heap.size := fun k hk => by
    rcases hk with rfl | hk
    · exact v1.lt
    · exact hm.lt hk
  refine FN.mono (kscollect_c (ksit v1 hm) (fun _ _ => callFunc_enter Tryz.func106 rfl rfl _ _) hcap (fun xs hx => by omega)) ?_
  rintro _ w1 ⟨xs,u,hp,rfl,ho,hE⟩
  simp
  have hxl : xs.length = m.length := by have := hp.length_eq; simpa using this
  have hsl := sl_of_own ho
  rcases ho.2 with ⟨rfl, h1⟩ | ⟨b, c, cur, rfl, hge, hg, hrest⟩
  · omega
  have hthaw := fun j => own_thaw ho (by omega) j
  have hlt := own_lt ho rfl
  simp only [slB] at hlt hthaw
  have hH : Holds encStr w1 b 0 xs.toArray := fun j hj => by
    have hj' : j < xs.length := by simpa using hj
    have := hsl.at_ j (tv xs[j]) (by simp [hj'])
    simp only [slB,slO] at this
    refine ⟨by rw [this]; simp [hj',encStr,tv],hthaw _⟩
  have hc := Tryz.slices_Sort_string b 0 c xs w1 hH hlt (by omega)
  obtain ⟨hp2,hs2⟩ := ksort_ok xs
  generalize (xs.mergeSort fun x y => decide (x ≤ y)) = ys at hc hp2 hs2
  refine FN.mono (FN_of_calls Tryz.func105 rfl rfl hc) ?_
  rintro _ w4 ⟨rfl,n,os,rfl⟩
  have hM := mod_sorted encStr w1 n b 0 ys.toArray os
  have hsz : ys.toArray.size = xs.toArray.size := by have := hp2.length_eq; simpa using this
  have hcell : ∀ j, j < ys.toArray.size → (grow (putRow encStr (Sort.ahead w1 n) b 0 ys.toArray) os).cell? ⟨b, 0 + j, none⟩ = _ := fun j hj =>
    (cell?_grow _ os ⟨b,0 + j,none⟩ (by simpa [putRow,mapBlock,Sort.ahead] using hlt)).trans (cell?_putRow encStr _ b 0 xs.toArray ys.toArray (holds_ahead _ _ _ _ _ _ hH) hsz j hj)
  generalize (grow (putRow encStr (Sort.ahead w1 n) b 0 ys.toArray) os) = w5 at *
  have hyl : ys.length = xs.length := hp2.length_eq
  simp
  refine ⟨b, c, ys, ⟨rfl, hyl.symm, rfl⟩, ⟨hp2.trans hp, hs2⟩, ⟨by simp, .inr ⟨b, 0, c, rfl, ?_⟩, fun j u hj => ?_⟩, ((hE.mod (S := fun k => w.heap.size ≤ k)).trans (hM.weaken fun i hi => by omega)).ext fun _ h => h, hge, Nat.lt_of_lt_of_le hlt hM.size⟩
  · have h := hsl.val
    simp at h
    omega
  · obtain ⟨hj1,hj2⟩ := List.getElem?_eq_some_iff.1 hj
    have hj3 : j < ys.length := by simpa using hj1
    have := hcell j (by simpa using hj3)
    simp only [slB,slO]
    rw [this,← hj2]
    simp [hj3,encStr,tv]
end Go.Proofs
