/-
 Contracts of the functions that the law reaches,step by step.
-/
import Derived.Test.YtdflcfoalhhjlaaGreatSpA
namespace Go.Proofs
open Pk
set_option maxRecDepth 10000
def ixOf {α : Type} (p : α → Bool) (l : List α) : Int := match l.findIdx? p with | some i => i | none => -1
def NoneYet {α : Type} (p : α → Bool) (l : List α) (i : Nat) : Prop := ∀ j (h : j < l.length),j < i → p l[j] = false
theorem noneYet_0 {α : Type} (p : α → Bool) (l : List α) : NoneYet p l 0 := fun j _ h => by omega
theorem noneYet_s {α : Type} {p : α → Bool} {l : List α} {i : Nat} (hi : i < l.length) (h : NoneYet p l i) (hp : ¬ p l[i] = true) : NoneYet p l (i + 1) := fun j hj h1 => by
 by_cases e : j = i
 ·subst e; simpa using hp
 ·exact h j hj (by omega)
theorem findIdx_at {α : Type} {p : α → Bool} {l : List α} {i : Nat} (hi : i < l.length) (h : NoneYet p l i) (hp : p l[i] = true) : l.findIdx? p = some i := by
 rw [List.findIdx?_eq_some_iff_getElem]
 exact ⟨hi,hp,fun j hj => by have := h j (by omega) hj; simp [this]⟩
theorem ixOf_some {α : Type} {p : α → Bool} {l : List α} {i : Nat} (hi : i < l.length) (h : NoneYet p l i) (hp : p l[i] = true) : ixOf p l = i := by
 unfold ixOf; rw [findIdx_at hi h hp]
theorem ixOf_none {α : Type} {p : α → Bool} {l : List α} (h : NoneYet p l l.length) : ixOf p l = -1 := by
 unfold ixOf
 have : l.findIdx? p = none := by
  rw [List.findIdx?_eq_none_iff]
  intro x hx
  obtain ⟨j,hj,rfl⟩ := List.getElem_of_mem hx
  exact h j hj hj
 rw [this]
theorem ixOf_nonneg {α : Type} (p : α → Bool) (l : List α) : 0 ≤ ixOf p l ↔ l.any p = true := by
 unfold ixOf
 cases h : l.findIdx? p with
 | none =>
  rw [List.findIdx?_eq_none_iff] at h
  simp
  intro x hx
  have := h x hx
  simpa using this
 | some i =>
  rw [List.findIdx?_eq_some_iff_getElem] at h
  obtain ⟨hi,hp,_⟩ := h
  simp
  exact ⟨l[i],List.getElem_mem hi,hp⟩
theorem ixOf_geq {α : Type} (p : α → Bool) (l : List α) : decide (0 ≤ ixOf p l) = l.any p := by
 rw [Bool.eq_iff_iff,decide_eq_true_eq]; exact ixOf_nonneg p l
abbrev spC (s : Sp2) : List Value := [u64 s.from',u64 s.til]
structure C2 (w : World) (b o : Nat) (s : Sp2) : Prop where
 c0 : w.cell? ⟨b,o,none⟩ = some (u64 s.from')
 c1 : w.cell? ⟨b,o + 1,none⟩ = some (u64 s.til)
theorem spRow {w : World} {v : Value} {l : List Sp2} (h : Sl w 2 v l.length (l.flatMap spC)) {i : Nat} (hi : i < l.length) : C2 w (slB v) (slO v + i * 2) l[i] := by
 have hx : l[i]? = some l[i] := by simp [hi]
 have f := fun j hj => flat_at spC (s := 2) (fun _ => rfl) l i j _ hx hj
 refine ⟨h.at_ _ _ (f 0 (by omega)),?_⟩
 have := h.at_ _ _ (f 1 (by omega))
 rwa [← Nat.add_assoc] at this
theorem cRight_c (s : Sp2) (w : World) : FN Tryz.prog 111 [spV s] w fun e w' => e = .returned (.bool (spOk s)) ∧ Ext w w' := by
 refine FN_enter Tryz.func111 rfl rfl (by kernel_rfl) ?_
 simp
 have hE := (Ext.refl w).alloc (.cells #[u64 s.from',u64 s.til] 62)
 generalize (w.alloc (.cells #[u64 s.from',u64 s.til] 62)) = w1 at *
 refine FN.mono (right_c s w1) ?_
 rintro _ w2 ⟨rfl,h2⟩
 simp
 exact hE.trans h2
theorem ixS_c {w : World} {v : Value} {l : List Sp2} {f : FuncId} {fi ca : Array Value} (p : Sp2 → Bool) (h : Sl w 2 v l.length (l.flatMap spC)) (hb : l.length ≤ 1000000)
  (hp : ∀ x ∈ l,∀ W,Ext w W → CV Tryz.prog (.func (.func f) fi ca) [spV x] W fun e W' => e = .returned (.bool (p x)) ∧ Ext W W') :
  FN Tryz.prog 154 [v,.func (.func f) fi ca] w fun e w' => e = .returned (i64 (ixOf p l)) ∧ Ext w w' := by
 refine FN_enter Tryz.func154 rfl rfl (by kernel_rfl) ?_
 have hlen := fun ty W => h.isLen (P := Tryz.prog) (t := 231) (by simp) ty W
 simp [hlen]
 refine WC_loop (fun k ρ ds w' => ∃ i : Nat,k = l.length - i ∧ i ≤ l.length ∧ ρ 0 = v ∧ ρ 1 = .func (.func f) fi ca ∧ ρ 7 = i64 l.length ∧ ρ 8 = i64 i ∧ ds = [] ∧ Ext w w' ∧ NoneYet p l i) l.length ⟨0,by simp,by simp,by simp,by simp,by simp,by simp,rfl,Ext.refl _,noneYet_0 p l⟩ ?_
 rintro k ρ ds w1 ⟨i,rfl,hi,e0,e1,e7,e8,rfl,hE,hno⟩
 by_cases hlt : i < l.length
 ·have g := spRow (h.ext hE) hlt
  have ix := h.index (P := Tryz.prog) (t := 231) (by simp) .i64 i (by omega) (by omega) w1
  simp at ix
  simp [e0,e1,e7,e8,hlt,ix,g.c0,g.c1]
  refine CV.mono (hp l[i] (List.getElem_mem hlt) w1 hE) ?_
  rintro _ w2 ⟨rfl,hE2⟩
  by_cases hpi : p l[i] = true
  ·simp [hpi,ixOf_some hlt hno hpi]
   exact hE.trans hE2
  ·simp [hpi,e0,e1,e7,e8]
   exact ⟨l.length - (i + 1),by omega,i + 1,rfl,by omega,by rw [wrap64 _ (by omega) (by omega)]; rfl,hE.trans hE2,noneYet_s hlt hno hpi⟩
 ·have : i = l.length := by omega
  subst this
  simp [e7,e8,ixOf_none hno]
  exact hE
theorem allS1_c {w : World} {b : Nat} (hv : Var w b (.func (.func 111) #[] #[])) (s : Sp2) : FN Tryz.prog 139 [spV s, ptr b] w fun e w' => e = .returned (.bool (!spOk s)) ∧ Ext w w' := by
 refine FN_enter Tryz.func139 rfl rfl (by kernel_rfl) ?_
 have hE := (Ext.refl w).alloc (.cells #[u64 s.from',u64 s.til] 62)
 have hv1 := hv.ext hE
 simp [hv1.cell]
 generalize (w.alloc (.cells #[u64 s.from',u64 s.til] 62)) = w1 at *
 refine FN.mono (cRight_c s w1) ?_
 rintro _ w2 ⟨rfl,h2⟩
 simp
 exact hE.trans h2
theorem conS_c {w : World} {v : Value} {l : List Sp2} {b : Nat} (hv : Var w b (.func (.func 111) #[] #[])) (h : Sl w 2 v l.length (l.flatMap spC)) (hb : l.length ≤ 1000000) : FN Tryz.prog 138 [v, .func (.func 139) #[] #[ptr b]] w fun e w' => e = .returned (.bool (l.any fun s => !spOk s)) ∧ Ext w w' := by
 refine FN_enter Tryz.func138 rfl rfl (by kernel_rfl) ?_
 simp
 refine FN.mono (ixS_c (fun s => !spOk s) h hb (fun x _ W hW => allS1_c (hv.ext hW) x)) ?_
 rintro _ w1 ⟨rfl,h1⟩
 simp [ixOf_geq]
 exact h1
theorem allS_c {w : World} {v : Value} {l : List Sp2} (h : Sl w 2 v l.length (l.flatMap spC)) (hb : l.length ≤ 1000000) : FN Tryz.prog 114 [.func (.func 111) #[] #[], v] w fun e w' => e = .returned (.bool (l.all spOk)) ∧ Ext w w' := by
 refine FN_enter Tryz.func114 rfl rfl (by kernel_rfl) ?_
 simp
 have hE := (Ext.refl w).alloc (.cells #[.func (.func 111) #[] #[]] 151)
 have hv := Var.new w (.func (.func 111) #[] #[]) 151
 generalize (w.alloc (.cells #[.func (.func 111) #[] #[]] 151)) = w1 at *
 refine FN.mono (conS_c hv (h.ext hE) hb) ?_
 rintro _ w2 ⟨rfl,h2⟩
 simp
 exact ⟨by rw [Bool.eq_iff_iff]; simp,hE.trans h2⟩
def bothB (x y : Sp2) : Bool := spOk x && (spOk y && decide (max x.from' y.from' < min x.til y.til))
def bothS (x y : Sp2) : Sp2 := if bothB x y then ⟨max x.from' y.from',min x.til y.til⟩ else ⟨0,0⟩
theorem both_c (x y : Sp2) (w : World) : FN Tryz.prog 72 [spV x, spV y] w fun e w' => e = .returned (.tuple #[spV (bothS x y), .bool (bothB x y)]) ∧ Ext w w' := by
 refine FN_enter Tryz.func72 rfl rfl (by kernel_rfl) ?_
 simp
 have hE : Ext w (((((w.alloc (.cells #[u64 x.from',u64 x.til] 62)).alloc (.cells #[u64 y.from',u64 y.til] 62)).alloc (.cells #[u64 0,u64 0] 62)).alloc (.cells #[u64 (max x.from' y.from'),u64 (min x.til y.til)] 195)).alloc (.cells #[u64 x.from',u64 x.til,u64 y.from',u64 y.til] 62)) := (((((Ext.refl w).alloc _).alloc _).alloc _).alloc _).alloc _
 have z3 : Blk (((((w.alloc (.cells #[u64 x.from', u64 x.til] 62)).alloc (.cells #[u64 y.from', u64 y.til] 62)).alloc (.cells #[u64 0, u64 0] 62)).alloc (.cells #[u64 (max x.from' y.from'), u64 (min x.til y.til)] 195)).alloc (.cells #[u64 x.from', u64 x.til, u64 y.from', u64 y.til] 62)) (w.heap.size + 1 + 1) [u64 0, u64 0] := by
  have := (Blk.new ((w.alloc (.cells #[u64 x.from',u64 x.til] 62)).alloc (.cells #[u64 y.from',u64 y.til] 62)) [u64 0,u64 0] 62).ext (((Ext.refl _).alloc (.cells #[u64 (max x.from' y.from'),u64 (min x.til y.til)] 195)).alloc (.cells #[u64 x.from',u64 x.til,u64 y.from',u64 y.til] 62))
  simpa using this
 have z4 : Blk (((((w.alloc (.cells #[u64 x.from', u64 x.til] 62)).alloc (.cells #[u64 y.from', u64 y.til] 62)).alloc (.cells #[u64 0, u64 0] 62)).alloc (.cells #[u64 (max x.from' y.from'), u64 (min x.til y.til)] 195)).alloc (.cells #[u64 x.from', u64 x.til, u64 y.from', u64 y.til] 62)) (w.heap.size + 1 + 1 + 1) [u64 (max x.from' y.from'), u64 (min x.til y.til)] := by
  have := (Blk.new (((w.alloc (.cells #[u64 x.from',u64 x.til] 62)).alloc (.cells #[u64 y.from',u64 y.til] 62)).alloc (.cells #[u64 0,u64 0] 62)) [u64 (max x.from' y.from'),u64 (min x.til y.til)] 195).ext ((Ext.refl _).alloc (.cells #[u64 x.from',u64 x.til,u64 y.from',u64 y.til] 62))
  simpa using this
 have hs : Sl (((((w.alloc (.cells #[u64 x.from', u64 x.til] 62)).alloc (.cells #[u64 y.from', u64 y.til] 62)).alloc (.cells #[u64 0, u64 0] 62)).alloc (.cells #[u64 (max x.from' y.from'), u64 (min x.til y.til)] 195)).alloc (.cells #[u64 x.from', u64 x.til, u64 y.from', u64 y.til] 62)) 2 (.slice (some ⟨w.heap.size + 1 + 1 + 1 + 1, 0, none⟩) 2 2) 2 [u64 x.from', u64 x.til, u64 y.from', u64 y.til] := by
  have := Sl.made ((((w.alloc (.cells #[u64 x.from',u64 x.til] 62)).alloc (.cells #[u64 y.from',u64 y.til] 62)).alloc (.cells #[u64 0,u64 0] 62)).alloc (.cells #[u64 (max x.from' y.from'),u64 (min x.til y.til)] 195)) [u64 x.from',u64 x.til,u64 y.from',u64 y.til] 62 2 2 rfl
  simpa using this
 generalize (((((w.alloc (.cells #[u64 x.from',u64 x.til] 62)).alloc (.cells #[u64 y.from',u64 y.til] 62)).alloc (.cells #[u64 0,u64 0] 62)).alloc (.cells #[u64 (max x.from' y.from'),u64 (min x.til y.til)] 195)).alloc (.cells #[u64 x.from',u64 x.til,u64 y.from',u64 y.til] 62)) = W at *
 refine FN.mono (allS_c (l := [x,y]) hs (by simp)) ?_
 rintro _ W1 ⟨rfl,h1⟩
 have y3 := z3.ext h1
 have y4 := z4.ext h1
 have hX := hE.trans h1
 have e0 := y4.cell 0 _ rfl
 have e1 := y4.cell 1 _ rfl
 have t0 := y3.thaw 0
 have t1 := y3.thaw 1
 have fin : ∀ a b : Value, ((W1.setCell ⟨w.heap.size + 1 + 1, 0, none⟩ a).setCell ⟨w.heap.size + 1 + 1, 1, none⟩ b).cell? ⟨w.heap.size + 1 + 1, 0, none⟩ = some a ∧ ((W1.setCell ⟨w.heap.size + 1 + 1, 0, none⟩ a).setCell ⟨w.heap.size + 1 + 1, 1, none⟩ b).cell? ⟨w.heap.size + 1 + 1, 1, none⟩ = some b ∧ Ext w ((W1.setCell ⟨w.heap.size + 1 + 1, 0, none⟩ a).setCell ⟨w.heap.size + 1 + 1, 1, none⟩ b) := fun a b =>
  ⟨((y3.set 0 a).set 1 b).cell 0 _ rfl,((y3.set 0 a).set 1 b).cell 1 _ rfl,(hX.setCell _ _ (by simp only; omega)).setCell _ _ (by simp only; omega)⟩
 have c0 := y3.cell 0 _ rfl
 have c1 := fun a => (y3.set 0 a).cell 1 _ rfl
 have c2 := fun a => (y3.set 0 a).thaw 1
 obtain ⟨f0,f1,f2⟩ := fin (u64 0) (u64 0)
 obtain ⟨g0,g1,g2⟩ := fin (u64 (max x.from' y.from')) (u64 (min x.til y.til))
 by_cases ha : spOk x = true ∧ spOk y = true
 ·by_cases hb : max x.from' y.from' < min x.til y.til
  ·have hn : ¬ min x.til y.til ≤ max x.from' y.from' := by omega
   simp [ha,hn,e0,e1,t0,c0,c1,c2,g0,g1,bothB,bothS,hb]
   exact g2
  ·have hn : min x.til y.til ≤ max x.from' y.from' := by omega
   simp [ha,hn,e0,e1,t0,c0,c1,c2,f0,f1,bothB,bothS,hb]
   exact f2
 ·have hn : [x, y].all spOk = false := by
   rw [Bool.eq_false_iff]; simpa using ha
  have hb : bothB x y = false := by
   unfold bothB
   rw [Bool.eq_false_iff]
   simp only [ne_eq,Bool.and_eq_true]
   exact fun h => ha ⟨h.1,h.2.1⟩
  simp [hn,t0,c0,c1,c2,f0,f1,bothS,hb]
  exact f2
end Go.Proofs
namespace Go.Proofs
open Pk
set_option maxRecDepth 10000
def mulT (a b : Int) : Int := if 0 < top b ∧ 4611686018427387903 / top b < top a then 4611686018427387903 else top a * top b
def carT (s : Sp2) (r : Int) : Int := if spOk s then mulT (s.til - s.from') r else 0
def overT (f n r : Int) : Int := if n = 0 then top f else if r = 0 then 4611686018427387903 else addT f (n / r + min 1 (n % r))
theorem mulT_b {a b : Int} (ha : 0 ≤ a) (hb : 0 ≤ b) (h : ¬ (0 < top b ∧ 4611686018427387903 / top b < top a)) : 0 ≤ top a * top b ∧ top a * top b ≤ 4611686018427387903 := by
 have h1 := top_0 ha
 have h2 := top_0 hb
 refine ⟨Int.mul_nonneg h1 h2,?_⟩
 by_cases h0 : 0 < top b
 ·have h3 : top a ≤ 4611686018427387903 / top b := by
   by_cases h4 : top a ≤ 4611686018427387903 / top b
   ·exact h4
   ·exact (h ⟨h0,by omega⟩).elim
  have := Int.mul_le_mul_of_nonneg_right h3 h2
  exact Int.le_trans this (Int.ediv_mul_le _ (by omega))
 ·have : top b = 0 := by omega
  rw [this]; simp
theorem mulT_le {a b : Int} (ha : 0 ≤ a) (hb : 0 ≤ b) : 0 ≤ mulT a b ∧ mulT a b ≤ 4611686018427387903 := by
 unfold mulT
 split
 ·omega
 ·exact mulT_b ha hb (by assumption)
theorem carT_le {s : Sp2} {r : Int} (hr : 0 ≤ r) : 0 ≤ carT s r ∧ carT s r ≤ 4611686018427387903 := by
 unfold carT
 split
 ·rename_i h
  refine mulT_le ?_ hr
  simp [spOk] at h
  omega
 ·omega
theorem addT_le (a b : Int) : addT a b ≤ 4611686018427387903 := top_le _
theorem overT_0 {f n r : Int} (hf : 0 ≤ f) (hn : 0 ≤ n) (hr : 0 ≤ r) : 0 ≤ overT f n r := by
 unfold overT
 split
 ·exact top_0 hf
 ·split
  ·omega
  ·unfold addT
   have h1 : 0 ≤ n / r := Int.ediv_nonneg hn hr
   have h2 : 0 ≤ n % r := Int.emod_nonneg _ (by omega)
   refine top_0 ?_
   have := top_0 hf
   have := top_0 (n := n / r + min 1 (n % r)) (by omega)
   omega
theorem mul_c (a b : Int) (ha : 0 ≤ a) (hb : 0 ≤ b) (w : World) : FN Tryz.prog 131 [u64 a, u64 b] w fun e w' => e = .returned (u64 (mulT a b)) ∧ w' = w := by
 refine FN_enter Tryz.func131 rfl rfl (by kernel_rfl) ?_
 simp
 refine WC_scope 0 _ rfl ?_
 simp
 refine FN.mono (top_c a w) ?_
 rintro _ _ ⟨rfl,rfl⟩
 rename_i w
 simp
 refine FN.mono (top_c b w) ?_
 rintro _ _ ⟨rfl,rfl⟩
 rename_i w
 have h1 := top_0 ha
 have h2 := top_0 hb
 by_cases h0 : 0 < top b
 ·have hne : ¬ top b = 0 := by omega
  have ht : Int.tdiv 4611686018427387903 (top b) = 4611686018427387903 / top b := Int.tdiv_eq_ediv_of_nonneg (by omega)
  have q0 : 0 ≤ 4611686018427387903 / top b := Int.ediv_nonneg (by omega) h2
  have q1 : 4611686018427387903 / top b ≤ 4611686018427387903 := Int.ediv_le_self _ (by omega)
  have hq : IntKind.u64.wrap (4611686018427387903 / top b) = 4611686018427387903 / top b := wrap64u _ q0 (by omega)
  by_cases h3 : 4611686018427387903 / top b < top a
  ·simp [h0,hne,ht,hq,h3,mulT]
  ·have hm := mulT_b ha hb (by simp [h0,h3])
   simp [h0,hne,ht,hq,h3,mulT]
   rw [wrap64u _ (by omega) (by omega)]
 ·have hm := mulT_b ha hb (by simp [h0])
  simp [h0,mulT]
  rw [wrap64u _ (by omega) (by omega)]
theorem car_c (s : Sp2) (r : Int) (hs : 0 ≤ s.from' ∧ s.til ≤ 18446744073709551615) (hr : 0 ≤ r) (w : World) : FN Tryz.prog 101 [spV s, u64 r] w fun e w' => e = .returned (u64 (carT s r)) ∧ Ext w w' := by
 refine FN_enter Tryz.func101 rfl rfl (by kernel_rfl) ?_
 simp
 have hE := (Ext.refl w).alloc (.cells #[u64 s.from',u64 s.til] 62)
 have hB := Blk.new w [u64 s.from',u64 s.til] 62
 have e : [u64 s.from',u64 s.til].toArray = #[u64 s.from',u64 s.til] := rfl
 rw [e] at hB
 generalize (w.alloc (.cells #[u64 s.from',u64 s.til] 62)) = w1 at *
 refine FN.mono (cRight_c s w1) ?_
 rintro _ w2 ⟨rfl,h2⟩
 cases h : spOk s with
 | false => simp [carT,h]; exact hE.trans h2
 | true =>
  have hh := h
  simp [spOk] at hh
  simp [(hB.ext h2).cell 0 _ rfl,(hB.ext h2).cell 1 _ rfl]
  rw [wrap64u _ (by omega) (by omega)]
  refine FN.mono (mul_c (s.til - s.from') r (by omega) hr w2) ?_
  rintro _ _ ⟨rfl,rfl⟩
  simp [carT,h]
  exact hE.trans h2
theorem over_c (f n r : Int) (hf : 0 ≤ f) (hn : 0 ≤ n ∧ n ≤ 18446744073709551615) (hr : 0 ≤ r) (w : World) : FN Tryz.prog 155 [u64 f, u64 n, u64 r] w fun e w' => e = .returned (u64 (overT f n r)) ∧ Ext w w' := by
 refine FN_enter Tryz.func155 rfl rfl (by kernel_rfl) ?_
 by_cases h0 : n = 0
 ·subst h0
  simp
  refine FN.mono (top_c f w) ?_
  rintro _ _ ⟨rfl,rfl⟩
  simp [overT]
  exact Ext.refl _
 ·by_cases h1 : r = 0
  ·simp [beq_dec,h0,h1,overT]
   exact Ext.refl _
  ·have ht : Int.tdiv n r = n / r := Int.tdiv_eq_ediv_of_nonneg hn.1
   have hm : Int.tmod n r = n % r := Int.tmod_eq_emod_of_nonneg hn.1
   have g1 : 0 ≤ n / r := Int.ediv_nonneg hn.1 hr
   have g2 : n / r ≤ n := Int.ediv_le_self _ hn.1
   have g3 : 0 ≤ n % r := Int.emod_nonneg _ h1
   have g4 : n % r < r := Int.emod_lt_of_pos _ (by omega)
   have w1 : IntKind.u64.wrap (n / r) = n / r := wrap64u _ g1 (by omega)
   have g5 : n / r + min 1 (n % r) ≤ n := by
    have e := Int.mul_ediv_add_emod n r
    by_cases h5 : r = 1
    ·subst h5; simp at g3 g4 ⊢; omega
    ·have h6 : n / r * 2 ≤ n / r * r := Int.mul_le_mul_of_nonneg_left (by omega) g1
     rw [Int.mul_comm] at e
     by_cases h7 : n / r = 0
     ·rw [h7] at e ⊢; simp at e; omega
     ·omega
   simp [beq_dec,h0,h1]
   refine WC_drawC 9 (.F 0 <| .F 1 <| .F 2 <| .F 3 <| .F 4 <| .F 5 <| .F 6 <| .F 7 <| .F 8 <| .Z) (fun _ => false) rfl (by kernel_rfl) fun W hW => ?_
   have hE : Ext w W := hW ▸ Ext.drew w
   simp [h1,ht,hm,w1]
   rw [wrap64u _ (by omega) (by omega)]
   refine FN.mono (add_c f (n / r + min 1 (n % r)) hf (by omega) W) ?_
   rintro _ w2 ⟨rfl,h2⟩
   simp [overT,h0,h1]
   exact hE.trans h2
end Go.Proofs
namespace Go.Proofs
open Pk
set_option maxRecDepth 10000
abbrev ctC (c : Ct) : List Value := [u32 c.fr,u32 c.to',u64 c.sf,u64 c.su,u64 c.rate]
abbrev ctV (c : Ct) : Value := .agg #[u32 c.fr,u32 c.to',u64 c.sf,u64 c.su,u64 c.rate]
structure CtOk (c : Ct) : Prop where
 fr : 0 ≤ c.fr ∧ c.fr ≤ 4294967295
 to' : 0 ≤ c.to' ∧ c.to' ≤ 4294967295
 sf : 0 ≤ c.sf ∧ c.sf ≤ 18446744073709551615
 su : 0 ≤ c.su ∧ c.su ≤ 18446744073709551615
 rate : 0 ≤ c.rate ∧ c.rate ≤ 18446744073709551615
def ctRight (c : Ct) : Bool := !(decide (min c.fr c.to' = 0)) && (!(decide (c.fr = c.to')) && (spOk ⟨c.sf,c.su⟩ && (!(decide (c.sf = c.su)) && (!(decide (c.rate < 1)) && !(decide (4294967295 < c.rate))))))
structure C5 (w : World) (b o : Nat) (c : Ct) : Prop where
 c0 : w.cell? ⟨b,o,none⟩ = some (u32 c.fr)
 c1 : w.cell? ⟨b,o + 1,none⟩ = some (u32 c.to')
 c2 : w.cell? ⟨b,o + 2,none⟩ = some (u64 c.sf)
 c3 : w.cell? ⟨b,o + 3,none⟩ = some (u64 c.su)
 c4 : w.cell? ⟨b,o + 4,none⟩ = some (u64 c.rate)
theorem C5.ext {w w' : World} {b o : Nat} {c : Ct} (h : C5 w b o c) (hE : Ext w w') : C5 w' b o c := ⟨hE.cell_eq h.c0,hE.cell_eq h.c1,hE.cell_eq h.c2,hE.cell_eq h.c3,hE.cell_eq h.c4⟩
theorem ctRow {w : World} {v : Value} {l : List Ct} (h : Sl w 5 v l.length (l.flatMap ctC)) {i : Nat} (hi : i < l.length) : C5 w (slB v) (slO v + i * 5) l[i] := by
 have hx : l[i]? = some l[i] := by simp [hi]
 have f := fun j hj => flat_at ctC (s := 5) (fun _ => rfl) l i j _ hx hj
 have a := fun j u hj => h.at_ (i * 5 + j) u hj
 refine ⟨a 0 _ (f 0 (by omega)), ?_, ?_, ?_, ?_⟩
 ·have := a 1 _ (f 1 (by omega)); rwa [← Nat.add_assoc] at this
 ·have := a 2 _ (f 2 (by omega)); rwa [← Nat.add_assoc] at this
 ·have := a 3 _ (f 3 (by omega)); rwa [← Nat.add_assoc] at this
 ·have := a 4 _ (f 4 (by omega)); rwa [← Nat.add_assoc] at this
theorem c5_blk {w : World} {b : Nat} {c : Ct} (h : Blk w b (ctC c)) : C5 w b 0 c := ⟨h.cell 0 _ rfl,h.cell 1 _ rfl,h.cell 2 _ rfl,h.cell 3 _ rfl,h.cell 4 _ rfl⟩
theorem check_c (c : Ct) (h : CtOk c) (w : World) : FN Tryz.prog 68 [ctV c] w fun e w' => e = .returned (i64 (if ctRight c then 0 else 2)) ∧ Ext w w' := by
 refine FN_enter Tryz.func68 rfl rfl (by kernel_rfl) ?_
 have hE := (Ext.refl w).alloc (.cells #[u32 c.fr,u32 c.to',u64 c.sf,u64 c.su,u64 c.rate] 64)
 have hB := Blk.new w (ctC c) 64
 have e : (ctC c).toArray = #[u32 c.fr,u32 c.to',u64 c.sf,u64 c.su,u64 c.rate] := rfl
 rw [e] at hB
 by_cases h0 : min c.fr c.to' = 0
 ·simp [h0,ctRight]
  exact hE
 by_cases h1 : c.fr = c.to'
 ·have d1 : decide (c.fr = c.to') = true := decide_eq_true h1
  simp [beq_dec,h0,d1,ctRight]
  exact hE
 simp [beq_dec,h0,h1]
 generalize (w.alloc (.cells #[u32 c.fr,u32 c.to',u64 c.sf,u64 c.su,u64 c.rate] 64)) = w1 at *
 refine FN.mono (cRight_c ⟨c.sf,c.su⟩ w1) ?_
 rintro _ w2 ⟨rfl,h2⟩
 have hc := c5_blk (hB.ext h2)
 have c2 := hc.c2
 have c3 := hc.c3
 have c4 := hc.c4
 simp only [Nat.zero_add] at c2 c3 c4
 have hX := hE.trans h2
 cases h3 : spOk ⟨c.sf,c.su⟩ with
 | false => simp [ctRight,h3]; exact hX
 | true =>
  by_cases h4 : c.sf = c.su
  ·have d4 : decide (c.sf = c.su) = true := decide_eq_true h4
   simp [beq_dec,ctRight,h3,d4,c2,c3]
   exact hX
  by_cases h5 : c.rate < 1
  ·simp [beq_dec,ctRight,h3,h4,h5,c2,c3,c4]
   exact hX
  by_cases h6 : 4294967295 < c.rate
  ·simp [beq_dec,ctRight,h3,h4,h5,h6,c2,c3,c4]
   exact hX
  ·simp [beq_dec,ctRight,h0,h1,h3,h4,h5,h6,c2,c3,c4]
   exact hX
theorem ixC_c {w : World} {v : Value} {l : List Ct} {f : FuncId} {fi ca : Array Value} (p : Ct → Bool) (h : Sl w 5 v l.length (l.flatMap ctC)) (hb : l.length ≤ 1000000)
  (hp : ∀ x ∈ l,∀ W,Ext w W → CV Tryz.prog (.func (.func f) fi ca) [ctV x] W fun e W' => e = .returned (.bool (p x)) ∧ Ext W W') :
  FN Tryz.prog 137 [v,.func (.func f) fi ca] w fun e w' => e = .returned (i64 (ixOf p l)) ∧ Ext w w' := by
 refine FN_enter Tryz.func137 rfl rfl (by kernel_rfl) ?_
 have hlen := fun ty W => h.isLen (P := Tryz.prog) (t := 22) (by simp) ty W
 simp [hlen]
 refine WC_loop (fun k ρ ds w' => ∃ i : Nat,k = l.length - i ∧ i ≤ l.length ∧ ρ 0 = v ∧ ρ 1 = .func (.func f) fi ca ∧ ρ 7 = i64 l.length ∧ ρ 8 = i64 i ∧ ds = [] ∧ Ext w w' ∧ NoneYet p l i) l.length ⟨0,by simp,by simp,by simp,by simp,by simp,by simp,rfl,Ext.refl _,noneYet_0 p l⟩ ?_
 rintro k ρ ds w1 ⟨i,rfl,hi,e0,e1,e7,e8,rfl,hE,hno⟩
 by_cases hlt : i < l.length
 ·have g := ctRow (h.ext hE) hlt
  have ix := h.index (P := Tryz.prog) (t := 22) (by simp) .i64 i (by omega) (by omega) w1
  simp at ix
  simp [e0,e1,e7,e8,hlt,ix,g.c0,g.c1,g.c2,g.c3,g.c4]
  refine CV.mono (hp l[i] (List.getElem_mem hlt) w1 hE) ?_
  rintro _ w2 ⟨rfl,hE2⟩
  by_cases hpi : p l[i] = true
  ·simp [hpi,ixOf_some hlt hno hpi]
   exact hE.trans hE2
  ·simp [hpi,e0,e1,e7,e8]
   exact ⟨l.length - (i + 1),by omega,i + 1,rfl,by omega,by rw [wrap64 _ (by omega) (by omega)]; rfl,hE.trans hE2,noneYet_s hlt hno hpi⟩
 ·have : i = l.length := by omega
  subst this
  simp [e7,e8,ixOf_none hno]
  exact hE
structure PlanAt (w : World) (p : Nat) (v : Value) (l : List Ct) : Prop where
 blk : Blk w p [v,.bool true]
 row : Sl w 5 v l.length (l.flatMap ctC)
theorem PlanAt.ext {w w' : World} {p : Nat} {v : Value} {l : List Ct} (h : PlanAt w p v l) (hE : Ext w w') : PlanAt w' p v l := ⟨h.blk.ext hE,h.row.ext hE⟩
theorem PlanAt.mod {w w' : World} {p : Nat} {v : Value} {l : List Ct} {S : Nat → Prop} (h : PlanAt w p v l) (hM : Mod S w w') (h1 : ¬ S p) (h2 : l ≠ [] → ¬ S (slB v)) : PlanAt w' p v l :=
 ⟨h.blk.mod hM h1,sl_mod h.row hM fun hne => h2 fun e => hne (by rw [e]; rfl)⟩
theorem PlanAt.lt {w : World} {p : Nat} {v : Value} {l : List Ct} (h : PlanAt w p v l) : p < w.heap.size := h.blk.lt
theorem PlanAt.rlt {w : World} {p : Nat} {v : Value} {l : List Ct} (h : PlanAt w p v l) (hl : l ≠ []) : slB v < w.heap.size := h.row.lt (by
 cases l with
 | nil => exact (hl rfl).elim
 | cons a l => simp)
theorem cnone_c {w : World} {p : Nat} {v : Value} {l : List Ct} (h : PlanAt w p v l) : FN Tryz.prog 66 [ptr p] w fun e w' => e = .returned (.bool false) ∧ w' = w := by
 refine FN_enter Tryz.func66 rfl rfl (by kernel_rfl) ?_
 simp [h.blk.cell 1 _ rfl]
theorem cnew_c (w : World) : FN Tryz.prog 29 [] w fun e w' => ∃ p, e = .returned (ptr p) ∧ PlanAt w' p (.slice none 0 0) [] ∧ Ext w w' ∧ w.heap.size ≤ p := by
 refine FN_enter Tryz.func29 rfl rfl (by kernel_rfl) ?_
 simp
 exact ⟨⟨Blk.new w [.slice none 0 0,.bool true] 139,Sl.nil _ 5 0⟩,(Ext.refl w).alloc _⟩
theorem cown_c {w : World} {p : Nat} {v : Value} {l : List Ct} (h : PlanAt w p v l) : FN Tryz.prog 163 [ptr p] w fun e w' => e = .returned v ∧ w' = w := by
 refine FN_enter Tryz.func163 rfl rfl (by kernel_rfl) ?_
 simp
 refine FN.mono (cnone_c h) ?_
 rintro _ _ ⟨rfl,rfl⟩
 simp [h.blk.cell 0 _ rfl]
theorem clen_c {w : World} {v : Value} {n : Nat} {cs : List Value} (h : Sl w 5 v n cs) : FN Tryz.prog 74 [v] w fun e w' => e = .returned (i64 n) ∧ w' = w := by
 refine FN_enter Tryz.func74 rfl rfl (by kernel_rfl) ?_
 simp [fun ty W => h.isLen (P := Tryz.prog) (t := 137) (by simp) ty W]
theorem cbet1_c {w : World} {b0 b1 b2 d : Nat} {f g : Int} {sf : FuncId} {p : Sp2 → Bool} (v0 : Var w b0 (u32 f)) (v1 : Var w b1 (u32 g)) (v2 : Var w b2 (.func (.func sf) #[] #[ptr d])) (c : Ct)
  (hp : ∀ W,Ext w W → FN Tryz.prog sf [spV ⟨c.sf,c.su⟩,ptr d] W fun e W' => e = .returned (.bool (p ⟨c.sf,c.su⟩)) ∧ Ext W W') :
  FN Tryz.prog 113 [ctV c,ptr b0,ptr b1,ptr b2] w fun e w' => e = .returned (.bool (decide (c.fr = f) && (decide (c.to' = g) && p ⟨c.sf,c.su⟩))) ∧ Ext w w' := by
 refine FN_enter Tryz.func113 rfl rfl (by kernel_rfl) ?_
 have hE := (Ext.refl w).alloc (.cells #[u32 c.fr,u32 c.to',u64 c.sf,u64 c.su,u64 c.rate] 64)
 have e0 := (v0.ext hE).cell
 have e1 := (v1.ext hE).cell
 have e2 := (v2.ext hE).cell
 by_cases h0 : c.fr = f
 ·have d0 : decide (c.fr = f) = true := decide_eq_true h0
  by_cases h1 : c.to' = g
  ·have d1 : decide (c.to' = g) = true := decide_eq_true h1
   simp [beq_dec,e0,e1,e2,d0,d1]
   refine FN.mono (hp _ hE) ?_
   rintro _ w2 ⟨rfl,h2⟩
   simp [d0,d1]
   exact hE.trans h2
  ·simp [beq_dec,e0,e1,d0,h1]
   exact hE
 ·simp [beq_dec,e0,h0]
  exact hE
theorem cfind_c {w : World} {v : Value} {l : List Ct} {f : FuncId} {fi ca : Array Value} (p : Ct → Bool) (h : Sl w 5 v l.length (l.flatMap ctC)) (hb : l.length ≤ 1000000)
  (hp : ∀ x ∈ l,∀ W,Ext w W → CV Tryz.prog (.func (.func f) fi ca) [ctV x] W fun e W' => e = .returned (.bool (p x)) ∧ Ext W W') :
  FN Tryz.prog 112 [v,.func (.func f) fi ca] w fun e w' => e = .returned (i64 (ixOf p l)) ∧ Ext w w' := by
 refine FN_enter Tryz.func112 rfl rfl (by kernel_rfl) ?_
 simp
 refine FN.mono (ixC_c p h hb hp) ?_
 rintro _ w1 ⟨rfl,h1⟩
 simp
 exact h1
def betP (f g : Int) (p : Sp2 → Bool) (c : Ct) : Bool := decide (c.fr = f) && (decide (c.to' = g) && p ⟨c.sf,c.su⟩)
theorem cbet_c {w : World} {v : Value} {l : List Ct} {f g : Int} {sf : FuncId} {d : Nat} (p : Sp2 → Bool) (h : Sl w 5 v l.length (l.flatMap ctC)) (hb : l.length ≤ 1000000)
  (hp : ∀ x ∈ l,∀ W,Ext w W → FN Tryz.prog sf [spV ⟨x.sf,x.su⟩,ptr d] W fun e W' => e = .returned (.bool (p ⟨x.sf,x.su⟩)) ∧ Ext W W') :
  FN Tryz.prog 70 [v,u32 f,u32 g,.func (.func sf) #[] #[ptr d]] w fun e w' => e = .returned (i64 (ixOf (betP f g p) l)) ∧ Ext w w' := by
 refine FN_enter Tryz.func70 rfl rfl (by kernel_rfl) ?_
 simp
 have hE : Ext w (((w.alloc (.cells #[u32 f] 26)).alloc (.cells #[u32 g] 26)).alloc (.cells #[.func (.func sf) #[] #[ptr d]] 151)) := (((Ext.refl w).alloc _).alloc _).alloc _
 have v0 := (Var.new w (u32 f) 26).ext (((Ext.refl _).alloc (.cells #[u32 g] 26)).alloc (.cells #[.func (.func sf) #[] #[ptr d]] 151))
 have v1 := (Var.new (w.alloc (.cells #[u32 f] 26)) (u32 g) 26).ext ((Ext.refl _).alloc (.cells #[.func (.func sf) #[] #[ptr d]] 151))
 have v2 := Var.new ((w.alloc (.cells #[u32 f] 26)).alloc (.cells #[u32 g] 26)) (.func (.func sf) #[] #[ptr d]) 151
 simp at v1 v2
 generalize (((w.alloc (.cells #[u32 f] 26)).alloc (.cells #[u32 g] 26)).alloc (.cells #[.func (.func sf) #[] #[ptr d]] 151)) = w1 at *
 refine FN.mono (cfind_c (betP f g p) (h.ext hE) hb (fun x hx W hW => cbet1_c (v0.ext hW) (v1.ext hW) (v2.ext hW) x (fun W' hW' => hp x hx W' ((hE.trans hW).trans hW')))) ?_
 rintro _ w2 ⟨rfl,h2⟩
 simp
 exact hE.trans h2
theorem cclone_c {w : World} {v : Value} {l : List Ct} (h : Sl w 5 v l.length (l.flatMap ctC)) (hb : l.length ≤ 1048576) :
  FN Tryz.prog 116 [v] w fun e w' => ∃ v',e = .returned v' ∧ w'.ownsRow w.heap.size 64 5 v' l.length (l.flatMap ctC) ∧ Ext w w' := by
 refine FN_enter Tryz.func116 rfl rfl (by kernel_rfl) ?_
 have hnl := h.isNil (P := Tryz.prog) (t := 137) (by simp) w
 cases hn : slN v with
 | true =>
  rw [hn] at hnl
  have hl : l = [] := by
   rcases h.blk with ⟨-, h0⟩ | ⟨b, o, c, rfl, -⟩
   ·exact List.length_eq_zero_iff.1 h0
   ·simp [slN] at hn
  simp [hnl,hl]
  exact ⟨World.ownsRow_nil _ _ _ _,Ext.refl _⟩
 | false =>
  rw [hn] at hnl
  simp [hnl]
  have hE := (Ext.refl w).alloc (.cells #[] 64)
  have hO := own_empty (e := 64) (s := 5) w w.heap.size (Nat.le_refl _)
  obtain ⟨v',w2,hr,ho,hM,-⟩ := append_own (P := Tryz.prog) (t := 137) (ty := 137) (e := 64) (s := 5) (by simp) (by simp) (by kernel_rfl) hO (h.ext hE) (by intro u hu; obtain ⟨x,-,hx⟩ := List.mem_flatMap.1 hu; simp at hx; rcases hx with rfl | rfl | rfl | rfl | rfl <;> rfl) (by omega) (by simp)
  simp [hr]
  simp at ho
  refine ⟨ho,?_⟩
  exact ((hE.mod (S := fun k => w.heap.size ≤ k)).trans (hM.weaken fun i hi => by have := hi.2; simp only [slB] at this; omega)).ext fun _ h => h
theorem ccopy_c {w : World} {p : Nat} {v : Value} {l : List Ct} (h : PlanAt w p v l) (hb : l.length ≤ 1048576) :
  FN Tryz.prog 87 [ptr p] w fun e w' => ∃ q u,e = .returned (ptr q) ∧ PlanAt w' q u l ∧ Ext w w' ∧ w.heap.size ≤ q ∧ (l ≠ [] → w.heap.size ≤ slB u) := by
 refine FN_enter Tryz.func87 rfl rfl (by kernel_rfl) ?_
 simp
 refine FN.mono (cnone_c h) ?_
 rintro _ _ ⟨rfl,rfl⟩
 simp [h.blk.cell 0 _ rfl]
 rename_i w
 refine FN.mono (cclone_c h.row hb) ?_
 rintro _ w1 ⟨u,rfl,ho,h1⟩
 obtain ⟨a,c,rfl⟩ := own_val ho
 simp
 have hE := (Ext.refl w1).alloc (.cells #[.slice a l.length c,.bool true] 139)
 refine ⟨_,⟨Blk.new w1 [.slice a l.length c,.bool true] 139,(sl_of_own ho).ext hE⟩,h1.trans hE,h1.size,fun hl => own_ge ho (own_nil ho (List.length_pos_iff.2 hl))⟩
end Go.Proofs