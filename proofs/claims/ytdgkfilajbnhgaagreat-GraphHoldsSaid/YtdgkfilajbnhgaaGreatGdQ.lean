/-
 Contracts of the functions that the law reaches,step by step.
-/
import Derived.Test.YtdgkfilajbnhgaaGreatGdP
import Derived.Test.YtdgkfilajbnhgaaGreatSruF
namespace Go.Proofs
open Pk
set_option maxRecDepth 10000
theorem kU32 : KeyEq Tryz.prog 27 (Value.int .u32) := keyEq_int (by simp)
theorem zWay (w : World) : (zeroValue 50).run Tryz.prog w = .ok (wyV wyZ) w := by simp [wyZ]
abbrev KWML := List (Int × Wy)
abbrev KWMV (w : World) (v : Value) (m : KWML) := MapV (Value.int .u32) wyV w v m
theorem kWtm : Tryz.prog.underlying 114 = some (.map 27 50) := by simp
theorem kWit {w : World} {b1 : Nat} {v : Value} {m : KWML} (v1 : Var w b1 v) (hm : KWMV w v m) :
  Iter Tryz.prog (.func (.func 112) #[] #[ptr b1]) (fun x => [.int .u32 x]) (fun xs => xs.Perm (m.map (·.1))) (fun pre => pre.length ≤ m.length) (fun k => k = b1 ∨ v = .map (some k)) w := by
 intro y C0 J Jx W hA hcap hC0 hJ hJx hy h0
 have k1 := hcap b1 (.inl rfl)
 have k2 := fun r e => hcap r (.inr e)
 have v1W := v1.agr hA k1.1
 have hmW : KWMV W v m := hm.agr hA fun r e => hm.lt e
 refine FN_enter Tryz.func112 rfl rfl (by kernel_rfl) ?_
 obtain ⟨o,hr,hi⟩ := hmW.range (P := Tryz.prog) kWtm
 simp [v1W.cell,hr]
 have hE := (Ext.refl W).alloc o
 have h0' := hJ C0 [] W (W.alloc o) h0 hE.agr
 obtain ⟨ib,hib⟩ : ∃ ib,ib = W.heap.size := ⟨_,rfl⟩
 have hsz : (W.alloc o).heap.size = ib + 1 := by rw [hib]; simp
 rw [← hib] at hi ⊢
 generalize (W.alloc o) = w1 at *
 refine WC_loop (fun k ρ ds w' => ∃ (idxs : List Nat) (C : Nat → Prop), k + idxs.length = m.length ∧ ρ 0 = y ∧ ρ 5 = ptr ib ∧ ds = [] ∧ VIter (Value.int .u32) wyV w' ib v m idxs ∧ J C ((seenOf m idxs).map (·.1)) w' ∧
  (∀ k,C k → C0 k ∨ ib < k) ∧ Agr (fun k => k < W.heap.size ∧ ¬ C0 k) W w') m.length ⟨[],C0,by simp,by simp,by simp,rfl,hi,h0',fun k h => .inl h,hE.agr⟩ ?_
 rintro k ρ ds w2 ⟨idxs,C,hk,e0,e5,rfl,hI,hj,hC,hAg⟩
 have hCi : ¬ C ib := fun h => by
  rcases hC _ h with h | h
  ·have := hC0 _ h; omega
  ·omega
 have hCr : ∀ r, v = .map (some r) → ¬ C r := fun r e h => by
  have h3 := hm.lt e
  have h4 := hA.size
  rcases hC _ h with h | h
  ·exact (k2 r e).2 h
  ·omega
 rcases hI.next (P := Tryz.prog) 0 with ⟨hp, hrun⟩ | ⟨i, p, w3, hpi, hni, hrun, hI3, hM3, hent, hs3⟩
 ·simp [e5,hrun]
  exact ⟨C,.inl ⟨_,(seenOf_all hp).map _,hj⟩⟩
 ·have hj3 : J C ((seenOf m idxs).map (·.1)) w3 := hJ _ _ _ _ hj (hM3.agr fun j hq e => by
   subst e
   rcases hq with hq | hq
   ·omega
   ·exact hCi hq)
  have hb3 := hI3.bound
  simp only [List.length_append,List.length_singleton] at hb3
  have hsp : ((seenOf m idxs).map (·.1) ++ [p.1]).length ≤ m.length := by
   have := seenOf_len m idxs
   simp; omega
  simp [e0,e5,hrun,hent]
  refine CV.mono (hy C _ p.1 w3 hsp hj3) ?_
  rintro _ w4 (⟨rfl, C', hj', hown⟩ | ⟨rfl, C', hj', hown⟩)
  ·simp [e0,e5]
   have hM4 := hown.mod
   refine ⟨k - 1, by omega, idxs ++ [i], by simp; omega, hI3.mod hM4 hCr hCi, C', ?_, ?_, ?_⟩
   ·rw [seenOf_snoc hpi,List.map_append]; exact hj'
   ·intro k' hk'
    rcases hown.own k' hk' with h | h
    ·exact hC k' h
    ·have := hI3.lt.2; exact .inr (by omega)
   ·refine hAg.trans ((hM3.agr fun i hi e => by subst e; omega).trans (hM4.agr fun i hi hc => ?_))
    rcases hC i hc with h | h
    ·exact hi.2 h
    ·omega
  ·simp
   exact ⟨C',.inr ⟨_,hsp,hj'⟩⟩
theorem kWappendSeq_c {w : World} {gf : FuncId} {first caps : Array Value} {S Sp : List Int → Prop} {Cap : Nat → Prop} (hit : Iter Tryz.prog (.func (.func gf) first caps) (fun x => [.int .u32 x]) S Sp Cap w) (hent : ∀ l w, (callFunc gf l).run Tryz.prog w = .ok (.enter gf l) w)
  (hcap : ∀ k,Cap k → k < w.heap.size) (hb : ∀ xs,Sp xs → xs.length ≤ 1048576) :
  FN Tryz.prog 145 [.slice none 0 0,.func (.func gf) first caps] w fun e w' => ∃ xs v,S xs ∧ e = .returned v ∧ w'.ownsRow w.heap.size 27 1 v xs.length (xs.map (.int .u32)) ∧ Ext w w' := by
 refine FN_enter Tryz.func145 rfl rfl (by kernel_rfl) ?_
 simp
 have v1 := Var.new w (.slice none 0 0) 74
 have he := (Ext.refl w).alloc (.cells #[.slice none 0 0] 74)
 have hsz : (w.alloc (.cells #[.slice none 0 0] 74)).heap.size = w.heap.size + 1 := by simp
 generalize (w.alloc (.cells #[.slice none 0 0] 74)) = w1 at *
 refine WC_rangeFunc (gf := gf) (first := first) (caps := caps) (enc := fun x => [.int .u32 x]) (S := S) (Sp := Sp) (Cap := Cap) rfl hent (hit.ext he hcap) (by simp) (fun k => k = w.heap.size)
  (fun C pre W => ∃ v,Var W w.heap.size v ∧ W.ownsRow (w.heap.size + 1) 27 1 v pre.length (pre.map (.int .u32)) ∧ (∀ k,C k ↔ k = w.heap.size ∨ (slN v = false ∧ k = slB v)) ∧ Ext w W) (fun _ _ _ _ => False)
  (fun k hk => ⟨by have := hcap k hk; omega,by have := hcap k hk; omega⟩) (fun k hk => by omega) ?_ (fun _ _ _ _ _ h _ => h.elim) ⟨_,v1,World.ownsRow_nil _ _ _ _,by simp [slN],he⟩ ?ρ ?ha ?_ ?_ (fun _ _ _ _ _ h _ => h.elim)
 case ha =>
  intro l x W
  simp
  exact rfl
 ·rintro C pre W W' ⟨v,h1,h2,h3,h4⟩ hag
  refine ⟨v,h1.agr hag (.inl (by omega)),own_keep h2 fun hn hl => hag.blk _ hl (.inr ((h3 _).2 (.inr ⟨hn,rfl⟩))),h3,?_⟩
  exact ⟨hag.os.trans h4.os,hag.tape.trans h4.tape,hag.out.trans h4.out,Nat.le_trans h4.size hag.size,fun i hi => (hag.blk i (Nat.lt_of_lt_of_le hi h4.size) (.inl (by omega))).trans (h4.blk i hi)⟩
 ·rintro l C pre x W hsp ⟨v,h1,h2,h3,h4⟩ - - -
  simp [h1.cell]
  have e1 := (Ext.refl W).alloc (.cells #[.int .u32 x] 27)
  have h1' := h1.ext e1
  have h2' := own_ext h2 e1
  have hlen := hb _ hsp
  rw [List.length_append,List.length_singleton] at hlen
  obtain ⟨v',W2,hr,ho,hm,hnew⟩ := append_own (P := Tryz.prog) (t := 74) (ty := 74) (e := 27) (s := 1) (by simp) (by simp) (by kernel_rfl) h2' (Sl.one W (.int .u32 x) 27) (by intro u hu; rw [List.mem_singleton] at hu; subst hu; rfl) hlen (by have := h1'.lt; omega)
  simp [hr]
  have g1 := h1'.mod hm (fun h => by have := own_ge h2' h.1; omega)
  obtain ⟨a',c',rfl⟩ := own_val ho
  simp [g1.cell,g1.thaw]
  have hM := Mod.setCell (S := fun k => k = w.heap.size) (Mod.refl _ W2) ⟨w.heap.size,0,none⟩ (.slice a' (pre.length + 1) c') (.inl rfl)
  have hCge : ∀ i, C i → w.heap.size ≤ i := fun i hi => by
   rcases (h3 i).1 hi with h | ⟨h, h'⟩
   ·omega
   ·have := own_ge h2 h; omega
  have hm' : Pk.Mod C W W2 := e1.mod.trans' hm (S := C) (fun i hi => .inl ((h3 i).2 (.inr hi)))
  have hx : Ext w W2 := ((h4.mod (S := fun k => w.heap.size ≤ k)).trans (hm'.weaken hCge)).ext (fun _ h => h)
  refine ⟨fun k => k = w.heap.size ∨ (slN (.slice a' (pre.length + 1) c') = false ∧ k = slB (.slice a' (pre.length + 1) c')), ⟨_, g1.set _, own_keep ho ?_, fun k => Iff.rfl, ?_⟩, ?_, ?_, ?_⟩
  ·intro hn hl
   refine hM.blk _ hl ?_
   have := own_ge ho hn
   omega
  ·exact hx.setCell _ _ (Nat.le_refl _)
  ·exact hm'.trans (hM.weaken fun i hi => (h3 i).2 (.inl hi))
  ·rintro k (h | ⟨h, rfl⟩)
   ·exact .inl ((h3 k).2 (.inl h))
   ·rcases hnew h with ⟨h5, h6⟩ | h5
    ·exact .inl ((h3 _).2 (.inr ⟨h5,h6⟩))
    ·have := e1.size; exact .inr (by omega)
  ·rintro k (h | ⟨h, rfl⟩)
   ·exact .inl ((h3 k).2 (.inl h))
   ·have := own_lt ho h
    exact .inr (by simpa using this)
 ·rintro C xs W hS ⟨v,h1,h2,h3,h4⟩ hD
  simp [h1.cell]
  refine LV_mark hD (by simp) ?_
  simp
  refine ⟨xs,hS,own_keep (own_lower h2 (Nat.le_succ _)) fun hn hl => World.putObj_heap_other ?_,h4.putObj _ _ (by omega)⟩
  intro e
  obtain ⟨c,hc⟩ := own_obj h2 hn
  rw [e,hD] at hc
  cases hc
theorem kWcollect_c {w : World} {gf : FuncId} {first caps : Array Value} {S Sp : List Int → Prop} {Cap : Nat → Prop} (hit : Iter Tryz.prog (.func (.func gf) first caps) (fun x => [.int .u32 x]) S Sp Cap w) (hent : ∀ l w, (callFunc gf l).run Tryz.prog w = .ok (.enter gf l) w)
  (hcap : ∀ k,Cap k → k < w.heap.size) (hb : ∀ xs,Sp xs → xs.length ≤ 1048576) :
  FN Tryz.prog 110 [.func (.func gf) first caps] w fun e w' => ∃ xs v,S xs ∧ e = .returned v ∧ w'.ownsRow w.heap.size 27 1 v xs.length (xs.map (.int .u32)) ∧ Ext w w' := by
 refine FN_enter Tryz.func110 rfl rfl (by kernel_rfl) ?_
 simp
 refine FN.mono (kWappendSeq_c hit hent hcap hb) ?_
 rintro _ w1 ⟨xs,v,h1,rfl,h2,h3⟩
 simp
 exact ⟨xs,h1,h2,h3⟩
theorem kWkeys_c {w : World} (o : Option Nat) : FN Tryz.prog 47 [.map o] w fun e w' => e = .returned (.func (.func 112) #[] #[ptr w.heap.size]) ∧ w' = w.alloc (.cells #[.map o] 114) := by
 refine FN_enter Tryz.func47 rfl rfl (by kernel_rfl) ?_
 simp
def kWisKeys (m : KWML) (ys : List Int) : Prop := ys.Perm (m.map (·.1)) ∧ ys.Pairwise (· ≤ ·)
theorem kWuniq {m : KWML} {a b : List Int} (h : kWisKeys m a) (h' : kWisKeys m b) : a = b :=
 List.Perm.eq_of_pairwise (fun _ _ _ _ h1 h2 => Int.le_antisymm h1 h2) h.2 h'.2 (h.1.trans h'.1.symm)
theorem kWex (m : KWML) : ∃ ys, kWisKeys m ys := by
 refine ⟨(m.map (·.1)).mergeSort (fun a b => decide (a ≤ b)),List.mergeSort_perm _ _,?_⟩
 have := List.pairwise_mergeSort (le := fun a b : Int => decide (a ≤ b)) (fun a b c => by simp; omega) (fun a b => by simp; omega) (m.map (·.1))
 exact this.imp fun h => by simpa using h
theorem kWsorted_c {w : World} {b1 : Nat} {v : Value} {m : KWML} (v1 : Var w b1 v) (hm : KWMV w v m) (hl : m.length ≤ 255) :
  FN Tryz.prog 46 [.func (.func 112) #[] #[ptr b1]] w fun e w' => ∃ u ys,e = .returned u ∧ kWisKeys m ys ∧ Sl w' 1 u ys.length (ys.map (.int .u32)) ∧ Ext w w' ∧ (slN u = false → w.heap.size ≤ slB u) := by
 refine FN_enter Tryz.func46 rfl rfl (by kernel_rfl) ?_
 simp
 have hcap : ∀ k, (k = b1 ∨ v = .map (some k)) → k < w.heap.size := fun k hk => by
  rcases hk with rfl | hk
  ·exact v1.lt
  ·exact hm.lt hk
 refine FN.mono (kWcollect_c (kWit v1 hm) (fun _ _ => callFunc_enter Tryz.func112 rfl rfl _ _) hcap (fun xs hx => by omega)) ?_
 rintro _ w1 ⟨xs,u,hp,rfl,ho,hE⟩
 simp
 have hxl : xs.length = m.length := by have := hp.length_eq; simpa using this
 refine FN.mono (Suint32.sorts (sl_of_own ho) (fun j hj => own_thaw ho (by omega) _) (by omega)) ?_
 rintro _ w4 ⟨⟨u',rfl⟩,ys,h1,h2,h3,h4⟩
 have hM4 : Ext w w4 := ((hE.mod (S := fun k => w.heap.size ≤ k)).trans (h4.weaken fun i hi => by have := own_ge ho hi.1; have := hi.2; omega)).ext fun _ h => h
 have hyl : ys.length = xs.length := h1.length_eq
 simp
 exact ⟨ys,⟨h1.trans hp,h2⟩,h3,hM4,fun hn => own_ge ho hn⟩
def kWseg {α : Type} (l : List α) (pre : List α) : Prop := pre ≠ [] ∧ ∃ suf,l = pre ++ suf
def kWval (m : KWML) (k : Int) : Value := ((mget m k).map wyV).getD (wyV wyZ)
def kWst (m : KWML) (k : Int) : List Value := [.int .u32 k,kWval m k]
theorem kWsteps {w : World} {b : Nat} {o : Option Nat} {m : KWML} {ys : List Int} (kk : KeyEq Tryz.prog 27 (Value.int .u32)) (zz : ∀ w, (zeroValue 50).run Tryz.prog w = .ok (wyV wyZ) w) (v1 : Var w b (.map o)) (hm : KWMV w (.map o) m) (hl : m.length ≤ 255) (hy : kWisKeys m ys) :
  Iter Tryz.prog (.func (.func 45) #[] #[ptr b]) (kWst m) (· = ys) (kWseg ys) (fun k => k = b ∨ Value.map o = .map (some k)) w := by
 intro y C0 J Jx W hA hcap hC0 hJ hJx hyl h0
 have k1 := hcap b (.inl rfl)
 have k2 := fun r e => hcap r (.inr e)
 have v1W := v1.agr hA k1.1
 have hmW : KWMV W (.map o) m := hm.agr hA fun r e => hm.lt e
 refine FN_enter Tryz.func45 rfl rfl (by kernel_rfl) ?_
 simp
 refine WC_scope 0 _ rfl ?_
 simp [v1W.cell]
 refine FN.mono (kWkeys_c (w := W) o) ?_
 rintro _ w1 ⟨rfl,hw1⟩
 simp
 have hE1 : Ext W w1 := hw1 ▸ (Ext.refl W).alloc _
 have vk : Var w1 W.heap.size (.map o) := by rw [hw1]; exact Var.new W _ 114
 refine FN.mono (kWsorted_c vk (hmW.ext hE1) hl) ?_
 rintro _ w2 ⟨u,ys',rfl,hy',hs,hE2,hfr⟩
 have := kWuniq hy hy'
 subst this
 have hlen := fun ty W => hs.isLen (P := Tryz.prog) (t := 74) (by simp) ty W
 simp [hlen]
 have hE := hE1.trans hE2
 have h0' := hJ C0 [] W w2 h0 hE.agr
 have hyb : ys.length ≤ 255 := by have := hy.1.length_eq; simp at this; omega
 have hus : 0 < ys.length → W.heap.size ≤ slB u ∧ slB u < w2.heap.size := fun h => by
  have h1 := hs.lt (by simpa using h)
  have h2 := hs.blk
  refine ⟨?_,h1⟩
  have := hE1.size
  rcases h2 with h2 | ⟨b', o', c', rfl, _⟩
  ·omega
  ·have := hfr rfl; omega
 have hsz := hE.size
 refine WC_loop (fun k ρ ds w' => ∃ (i : Nat) (C : Nat → Prop), k = ys.length - i ∧ i ≤ ys.length ∧ ρ 0 = y ∧ ρ 1 = ptr b ∧ ρ 7 = u ∧ ρ 8 = .int .i64 ys.length ∧ ρ 9 = .int .i64 i ∧ ds = [] ∧ J C (ys.take i) w' ∧
  (∀ k,C k → C0 k ∨ w2.heap.size ≤ k) ∧ Agr (fun k => k < w2.heap.size ∧ ¬ C0 k) w2 w') ys.length ⟨0,C0,by simp,by simp,by simp,by simp,by simp,by simp,by simp,rfl,h0',fun k h => .inl h,Agr.refl _ _⟩ ?_
 rintro k ρ ds w3 ⟨i,C,rfl,hi,e0,e1,e7,e8,e9,rfl,hj,hC,hAg⟩
 by_cases hlt : i < ys.length
 ·have hb := k1.2
  have v3 := ((v1W.ext hE).agr hAg ⟨(v1W.ext hE).lt,hb⟩)
  have hm3 : KWMV w3 (.map o) m := (hmW.ext hE).agr hAg fun r e => ⟨(hmW.ext hE).lt e,(k2 r e).2⟩
  have hs3 : Sl w3 1 u ys.length (ys.map (.int .u32)) := hs.agr hAg ⟨(hus (by omega)).2,fun hc => by have := hC0 _ hc; have := (hus (by omega)).1; omega⟩
  have c := hs3.at_ i (.int .u32 ys[i]) (by simp [hlt])
  have ix := hs3.index (P := Tryz.prog) (t := 74) (by simp) .i64 i (by omega) (by omega) w3
  have hlk := hm3.lookup kk kWtm (zz w3) ys[i] false
  rw [if_neg (by simp)] at hlk
  rw [show ((mget m ys[i]).map wyV).getD (wyV wyZ) = kWval m ys[i] from rfl] at hlk
  have htk : ys.take (i + 1) = ys.take i ++ [ys[i]] := by rw [List.take_add_one,List.getElem?_eq_getElem hlt]; rfl
  have hsp : kWseg ys (ys.take i ++ [ys[i]]) := ⟨List.append_ne_nil_of_right_ne_nil _ (by simp),ys.drop (i + 1),by rw [← htk,List.take_append_drop]⟩
  simp [e0,e1,e7,e8,e9,hlt,ix,c,v3.cell,hlk]
  refine CV.mono (hyl C (ys.take i) ys[i] w3 hsp hj) ?_
  rintro _ w4 (⟨rfl, C', hj', hown⟩ | ⟨rfl, C', hj', hown⟩)
  ·have hAg' : Agr (fun k => k < w2.heap.size ∧ ¬ C0 k) w3 w4 := hown.mod.agr (fun k hk hc => by rcases hC k hc with h | h; exact hk.2 h; omega)
   simp [e0,e1,e7,e8,e9]
   refine ⟨ys.length - (i + 1),by omega,i + 1,rfl,by omega,by rw [wrap64 _ (by omega) (by omega)]; rfl,C',by rw [htk]; exact hj',?_,hAg.trans hAg'⟩
   intro k hk
   rcases hown.own k hk with h | h
   ·exact hC k h
   ·have := hAg.size; exact .inr (by omega)
  ·simp
   exact ⟨C',.inr ⟨_,hsp,hj'⟩⟩
 ·simp [e8,e9,hlt]
  have : i = ys.length := by omega
  rw [this,List.take_length] at hj
  exact ⟨C,.inl hj⟩
end Go.Proofs