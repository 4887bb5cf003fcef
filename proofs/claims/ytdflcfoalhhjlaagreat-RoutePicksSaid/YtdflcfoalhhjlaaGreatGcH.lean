/-
 Contracts of the functions that the law reaches,step by step.
-/
import Derived.Test.YtdflcfoalhhjlaaGreatGcF
import Derived.Test.YtdflcfoalhhjlaaGreatSpC
import Derived.Test.YtdflcfoalhhjlaaGreatEngV
namespace Go.Proofs
open Pk
set_option maxRecDepth 10000
theorem CV_isFunc {P : Program} {v : Value} {args : List Value} {w : World} {R : Ending → World → Prop} (h : CV P v args w R) : ∃ f a b, v = .func f a b := by
 unfold CV at h
 split at h
 ·exact ⟨_,_,_,rfl⟩
 ·exact ⟨_,_,_,rfl⟩
 ·exact h.elim
theorem sl_agr {w w' : World} {v : Value} {k n : Nat} {cs : List Value} {S : Nat → Prop} (h : Sl w k v n cs) (hA : Agr S w w') (hS : cs ≠ [] → S (slB v)) : Sl w' k v n cs :=
 ⟨h.len,h.val,fun j u hj => hA.cell (h.at_ j u hj) (hS fun e => by rw [e] at hj; simp at hj)⟩
theorem flat_ne {l : List Ct} (h : l.flatMap ctC ≠ []) : l ≠ [] := fun e => h (by rw [e]; rfl)
theorem call_c {w : World} {p : Nat} {v : Value} {l : List Ct} (h : PlanAt w p v l) : FN Tryz.prog 145 [ptr p] w fun e w' => ∃ b, e = .returned (.func (.func 164) #[] #[ptr b]) ∧ Var w' b v ∧ Ext w w' ∧ w.heap.size ≤ b := by
 refine FN_enter Tryz.func145 rfl rfl (by kernel_rfl) ?_
 simp
 refine FN.mono (cown_c h) ?_
 rintro _ _ ⟨rfl,rfl⟩
 rename_i w
 obtain ⟨a,c,rfl⟩ := h.row.isSlice
 simp
 exact ⟨Var.new w _ 137,(Ext.refl w).alloc _⟩
theorem zix_at {l : List Ct} {i : Nat} (h : i < l.length) : (l.zipIdx)[i]? = some (l[i],i) := by simp [h]
theorem call_it {w : World} {b : Nat} {v : Value} {l : List Ct} (v1 : Var w b v) (hs : Sl w 5 v l.length (l.flatMap ctC)) (hl : l.length ≤ 1000000) :
  Iter Tryz.prog (.func (.func 164) #[] #[ptr b]) (fun x : Ct × Nat => [i64 x.2,ctV x.1]) (· = l.zipIdx) (seg l.zipIdx) (fun k => k = b ∨ (l ≠ [] ∧ k = slB v)) w := by
 intro y C0 J Jx W hA hcap hC0 hJ hJx hyl h0
 have k1 := hcap b (.inl rfl)
 have k2 := fun hne => hcap (slB v) (.inr ⟨hne,rfl⟩)
 have v1W := v1.agr hA k1.1
 have hsW : Sl W 5 v l.length (l.flatMap ctC) := sl_agr hs hA fun hne => (k2 (flat_ne hne)).1
 refine FN_enter Tryz.func164 rfl rfl (by kernel_rfl) ?_
 have hlen := fun ty W' => hs.isLen (P := Tryz.prog) (t := 137) (by simp) ty W'
 simp
 refine WC_scope 0 _ rfl ?_
 simp [v1W.cell,hlen]
 have hzl : l.zipIdx.length = l.length := by simp
 refine WC_loop (fun k ρ ds w' => ∃ (i : Nat) (C : Nat → Prop), k = l.length - i ∧ i ≤ l.length ∧ ρ 0 = y ∧ ρ 5 = v ∧ ρ 6 = i64 l.length ∧ ρ 7 = i64 i ∧ ds = [] ∧ J C (l.zipIdx.take i) w' ∧
  (∀ k,C k → C0 k ∨ W.heap.size ≤ k) ∧ Agr (fun k => k < W.heap.size ∧ ¬ C0 k) W w') l.length ⟨0,C0,by simp,by simp,by simp,by simp,by simp,by simp,rfl,h0,fun k h => .inl h,Agr.refl _ _⟩ ?_
 rintro k ρ ds w3 ⟨i,C,rfl,hi,e0,e5,e6,e7,rfl,hj,hC,hAg⟩
 by_cases hlt : i < l.length
 ·have hs3 : Sl w3 5 v l.length (l.flatMap ctC) := sl_agr hsW hAg fun hne => by
   have h1 := k2 (flat_ne hne)
   have h2 := hA.size
   exact ⟨by omega,h1.2⟩
  have g := ctRow hs3 hlt
  have ix := hs3.index (P := Tryz.prog) (t := 137) (by simp) .i64 i (by omega) (by omega) w3
  simp at ix
  have htk : l.zipIdx.take (i + 1) = l.zipIdx.take i ++ [(l[i],i)] := by rw [List.take_add_one,zix_at hlt]; rfl
  have hsp : seg l.zipIdx (l.zipIdx.take i ++ [(l[i],i)]) := ⟨List.append_ne_nil_of_right_ne_nil _ (by simp),l.zipIdx.drop (i + 1),by rw [← htk,List.take_append_drop]⟩
  simp [e0,e5,e6,e7,hlt,ix,g.c0,g.c1,g.c2,g.c3,g.c4]
  have hE4 := (Ext.refl w3).alloc (.cells #[u32 l[i].fr,u32 l[i].to',u64 l[i].sf,u64 l[i].su,u64 l[i].rate] 64)
  have hj4 := hJ C _ _ _ hj hE4.agr
  generalize (w3.alloc (.cells #[u32 l[i].fr,u32 l[i].to',u64 l[i].sf,u64 l[i].su,u64 l[i].rate] 64)) = w4 at *
  refine CV.mono (hyl C (l.zipIdx.take i) (l[i],i) w4 hsp hj4) ?_
  rintro _ w5 (⟨rfl, C', hj', hown⟩ | ⟨rfl, C', hj', hown⟩)
  ·have hAg' : Agr (fun k => k < W.heap.size ∧ ¬ C0 k) w3 w5 := hE4.agr.trans (hown.mod.agr (fun k hk hc => by rcases hC k hc with h | h; exact hk.2 h; omega))
   simp [e0,e5,e6,e7]
   refine ⟨l.length - (i + 1),by omega,i + 1,rfl,by omega,by rw [wrap64 _ (by omega) (by omega)]; rfl,C',by rw [htk]; exact hj',?_,hAg.trans hAg'⟩
   intro k hk
   rcases hown.own k hk with h | h
   ·exact hC k h
   ·have := hAg.size; have := hE4.size; exact .inr (by omega)
  ·simp
   exact ⟨C',.inr ⟨_,hsp,hj'⟩⟩
 ·have : i = l.length := by omega
  subst this
  simp [e6,e7]
  rw [← hzl,List.take_length] at hj
  exact ⟨C,.inl hj⟩
def fromL (l : List Ct) (n : Int) : List Ct := l.filter fun c => decide (c.fr = n)
def flt (n : Int) (xs : List (Ct × Nat)) : List Ct := (xs.filter fun x => decide (x.1.fr = n)).map (·.1)
theorem flt_all (l : List Ct) (n : Int) : flt n l.zipIdx = fromL l n := by
 have e : l = l.zipIdx.map (·.1) := by simp
 unfold flt fromL
 conv => rhs; rw [e]
 rw [List.filter_map]
 rfl
theorem flt_app (n : Int) (a b : List (Ct × Nat)) : flt n (a ++ b) = flt n a ++ flt n b := by simp [flt]
theorem flt_one (n : Int) (x : Ct × Nat) : flt n [x] = if x.1.fr = n then [x.1] else [] := by
 unfold flt
 by_cases h : x.1.fr = n <;> simp [h]
theorem cfrom_c {w : World} {p : Nat} {v : Value} {l : List Ct} (h : PlanAt w p v l) (n : Int) : FN Tryz.prog 124 [ptr p, u32 n] w fun e w' => ∃ b5 b6 b, e = .returned (.func (.func 146) #[] #[ptr b5, ptr b6]) ∧ Var w' b5 (.func (.func 164) #[] #[ptr b]) ∧ Var w' b6 (u32 n) ∧ Var w' b v ∧ Ext w w' ∧ w.heap.size ≤ b5 ∧ w.heap.size ≤ b6 ∧ w.heap.size ≤ b := by
 refine FN_enter Tryz.func124 rfl rfl (by kernel_rfl) ?_
 simp
 have hE := (Ext.refl w).alloc (.cells #[u32 n] 26)
 have hv := Var.new w (u32 n) 26
 have h1 := h.ext hE
 have hsz : (w.alloc (.cells #[u32 n] 26)).heap.size = w.heap.size + 1 := by simp
 generalize (w.alloc (.cells #[u32 n] 26)) = w1 at *
 refine FN.mono (call_c h1) ?_
 rintro _ w2 ⟨b,rfl,hb,hE2,hge⟩
 simp
 have hE3 := (Ext.refl w2).alloc (.cells #[.func (.func 164) #[] #[ptr b]] 242)
 have s2 := hE2.size
 exact ⟨w2.heap.size,w.heap.size,⟨rfl,rfl⟩,b,Var.new w2 _ 242,(hv.ext hE2).ext hE3,hb.ext hE3,(hE.trans hE2).trans hE3,by omega,by omega,by omega⟩
theorem cfrom_it {w : World} {b5 b6 b : Nat} {v : Value} {l : List Ct} {n : Int} (v5 : Var w b5 (.func (.func 164) #[] #[ptr b])) (v6 : Var w b6 (u32 n)) (v1 : Var w b v) (hs : Sl w 5 v l.length (l.flatMap ctC)) (hl : l.length ≤ 1000000) :
  Iter Tryz.prog (.func (.func 146) #[] #[ptr b5,ptr b6]) (fun c : Ct => [ctV c]) (· = fromL l n) (seg (fromL l n)) (fun k => k = b5 ∨ k = b6 ∨ k = b ∨ (l ≠ [] ∧ k = slB v)) w := by
 intro y C0 J Jx W hA hcap hC0 hJ hJx hyl h0
 have k5 := hcap b5 (.inl rfl)
 have k6 := hcap b6 (.inr (.inl rfl))
 have k1 := hcap b (.inr (.inr (.inl rfl)))
 have k2 := fun hne => hcap (slB v) (.inr (.inr (.inr ⟨hne,rfl⟩)))
 have v5W := v5.agr hA k5.1
 have v6W := v6.agr hA k6.1
 have v1W := v1.agr hA k1.1
 have hsW : Sl W 5 v l.length (l.flatMap ctC) := sl_agr hs hA fun hne => (k2 (flat_ne hne)).1
 have hAs := hA.size
 refine FN_enter Tryz.func146 rfl rfl (by kernel_rfl) ?_
 have hE1 := (Ext.refl W).alloc (.cells y.cells 122)
 have hob : (W.alloc (.cells y.cells 122)).heap[W.heap.size]? = some (.cells y.cells 122 (0,0)) := World.alloc_heap_new W _
 have hsz : (W.alloc (.cells y.cells 122)).heap.size = W.heap.size + 1 := by simp
 simp [-Value.cells]
 refine WC_scope 0 _ rfl ?_
 simp [-Value.cells,(v5W.ext hE1).cell]
 have h01 := hJ C0 [] W _ h0 hE1.agr
 generalize (W.alloc (.cells y.cells 122)) = w1 at *
 have v6' := v6W.ext hE1
 refine WC_rangeFuncA (gf := 164) (first := #[]) (caps := #[ptr b]) (enc := fun x : Ct × Nat => [i64 x.2, ctV x.1]) (by simp) (fun _ _ => callFunc_enter Tryz.func164 rfl rfl _ _) (call_it (v1W.ext hE1) (hsW.ext hE1) hl) (fun x => rfl) C0
  (fun C pre W' => J C (flt n pre) W' ∧ (∀ k,C k → C0 k ∨ w1.heap.size < k) ∧ Agr (fun k => k < w1.heap.size ∧ ¬ C0 k) w1 W')
  (fun c C pre W' => c = .exit 0 ∧ Jx C (flt n pre) W' ∧ seg (fromL l n) (flt n pre) ∧ (∀ k,C k → C0 k ∨ w1.heap.size < k))
  (fun k hk => ?_) (fun k hk => by have := hC0 k hk; omega) ?_ ?_ ⟨h01,fun k h => .inl h,Agr.refl _ _⟩ (fun x B ρ' W' => ∃ q,ρ' 5 = ptr q ∧ B ≤ q ∧ Blk W' q (ctC x.1) ∧ ρ' 2 = ptr b6 ∧ ρ' 3 = ptr W.heap.size)
  ?_ ?_ ?_ ?_ ?_
 ·rcases hk with rfl | ⟨hne, rfl⟩
  ·exact ⟨by omega,k1.2⟩
  ·have := k2 hne; exact ⟨by omega,this.2⟩
 ·rintro C pre W1 W2 ⟨a1,a2,a3⟩ hag
  refine ⟨hJ C _ _ _ a1 ⟨hag.os,hag.tape,hag.out,hag.size,fun k hk h => hag.blk k hk (h.imp (fun h => by omega) id)⟩,a2,a3.trans ⟨hag.os,hag.tape,hag.out,hag.size,fun k hk h => hag.blk k hk (.inl h.1)⟩⟩
 ·rintro c C pre W1 W2 ⟨a0,a1,a2,a3⟩ hag
  exact ⟨a0,hJx C _ _ _ a1 ⟨hag.os,hag.tape,hag.out,hag.size,fun k hk h => hag.blk k hk (h.imp (fun h => by omega) id)⟩,a2,a3⟩
 ·rintro x B ρ' W1 W2 ⟨q,h1,h2,h3,h4⟩ hag
  exact ⟨q,h1,h2,h3.agr hag h2,h4⟩
 ·intro lp x W1
  simp
  exact ⟨(Ext.refl W1).alloc _,Blk.new W1 (ctC x.1) 64⟩
 ·rintro lp C pre x B ρ' W1 hsp ⟨a1,a2,a3⟩ hl1 hl2 - hBW ⟨q,e5,hB,hx,e2,e3⟩
  obtain ⟨_,suf,hsuf⟩ := hsp
  have v6'' := v6'.agr a3 ⟨v6'.lt,k6.2⟩
  have hfa : fromL l n = flt n (pre ++ [x]) ++ flt n suf := by rw [← flt_all,hsuf,flt_app]
  by_cases hn : x.1.fr = n
  ·have hdn : decide (x.1.fr = n) = true := decide_eq_true hn
   have hf1 : flt n (pre ++ [x]) = flt n pre ++ [x.1] := by rw [flt_app,flt_one,if_pos hn]
   have hsp' : seg (fromL l n) (flt n pre ++ [x.1]) := ⟨List.append_ne_nil_of_right_ne_nil _ (by simp),flt n suf,by rw [hfa,hf1]⟩
   have hcv := hyl C (flt n pre) x.1 W1 hsp' a1
   obtain ⟨fy,ay,by',rfl⟩ := CV_isFunc hcv
   have hoy : Var w1 W.heap.size (.func fy ay by') := Var.of_obj hob
   have hoy1 := hoy.agr a3 ⟨by omega,fun hc => by have := hC0 _ hc; omega⟩
   simp [beq_dec,e2,e3,e5,hx.cell 0 _ rfl,hx.cell 1 _ rfl,hx.cell 2 _ rfl,hx.cell 3 _ rfl,hx.cell 4 _ rfl,v6''.cell,hdn,hoy1.cell]
   refine CV.mono hcv ?_
   rintro _ W2 (⟨rfl, C', hj', hown⟩ | ⟨rfl, C', hj', hown⟩)
   ·simp
    refine ⟨C', ⟨by rw [hf1]; exact hj', fun k hk => ?_, a3.trans (hown.mod.agr fun k hk hc => ?_)⟩, hown⟩
    ·rcases hown.own k hk with h | h
     ·exact a2 k h
     ·exact .inr (by omega)
    ·rcases a2 k hc with h | h
     ·exact hk.2 h
     ·omega
   ·simp
    refine ⟨C',⟨by rw [hf1]; exact hj',by rw [hf1]; exact hsp',fun k hk => ?_⟩,hown⟩
    rcases hown.own k hk with h | h
    ·exact a2 k h
    ·exact .inr (by omega)
  ·have hf1 : flt n (pre ++ [x]) = flt n pre := by rw [flt_app,flt_one,if_neg hn,List.append_nil]
   simp [beq_dec,e2,e5,hx.cell 0 _ rfl,v6''.cell,hn]
   exact ⟨C,⟨by rw [hf1]; exact a1,a2,a3⟩,Own.refl _ _⟩
 ·rintro C xs W1 rfl ⟨a1,a2,a3⟩ hD
  simp
  refine LV_mark hD (by simp) ?_
  simp
  refine ⟨C,.inl ?_⟩
  rw [flt_all] at a1
  refine hJ C _ _ _ a1 ((Mod.putObj w1.heap.size (.deferred none)).agr fun k hk e => ?_)
  subst e
  rcases hk with h | h
  ·omega
  ·rcases a2 _ h with h | h
   ·have := hC0 _ h; omega
   ·omega
 ·rintro c C pre W1 hsp ⟨rfl,a1,a2,a3⟩ hD
  simp
  refine LV_mark hD (by simp) ?_
  simp
  refine ⟨C,.inr ⟨_,a2,?_⟩⟩
  refine hJx C _ _ _ a1 ((Mod.putObj w1.heap.size (.deferred none)).agr fun k hk e => ?_)
  subst e
  rcases hk with h | h
  ·omega
  ·rcases a3 _ h with h | h
   ·have := hC0 _ h; omega
   ·omega
end Go.Proofs
namespace Go.Proofs
open Pk
set_option maxRecDepth 10000
theorem asked_c {w : World} {v : Value} (qs : List Qn) (hs : Sl w 2 v qs.length (askCells qs)) (hb : qs.length ≤ 1000) (hf : ∀ q ∈ qs, ∃ f x y, q.f = .func f x y)
  (hq : ∀ (i : Nat) (q : Qn),qs[i]? = some q → (∀ (j : Nat) (p : Qn),j < i → qs[j]? = some p → p.b = false) → ∀ w',Ext w w' → CV Tryz.prog q.f [] w' fun e w'' => e = .returned (.bool q.b) ∧ Ext w' w'') :
  FN Tryz.prog 79 [v] w fun e w' => e = .returned (.int .i64 (askE qs)) ∧ Ext w w' := by
 refine FN_enter Tryz.func79 rfl rfl (by kernel_rfl) ?_
 simp
 refine WC_scope 0 _ rfl ?_
 simp [hs.isLen]
 refine WC_loop (fun k ρ ds w' => ∃ i : Nat,k = qs.length - i ∧ i ≤ qs.length ∧ ρ 5 = v ∧ ρ 6 = .int .i64 qs.length ∧ ρ 7 = .int .i64 i ∧ ds = [] ∧ Ext w w' ∧ ∀ (j : Nat) (q : Qn),j < i → qs[j]? = some q → q.b = false) qs.length ⟨0,by simp [Ext.refl]⟩ ?_
 rintro k ρ ds w1 ⟨i,rfl,hi,e5,e6,e7,rfl,hE,hno⟩
 by_cases hlt : i < qs.length
 ·have hq0 : qs[i]? = some qs[i] := by simp [hlt]
  obtain ⟨c1,c2⟩ := askCells_at qs i _ hq0
  have hs1 := hs.ext hE
  have d1 := hs1.at_ _ _ c1
  have d2 := hs1.at_ _ _ c2
  rw [← Nat.add_assoc] at d2
  have hix := hs1.index (P := Tryz.prog) (t := 200) (by simp) .i64 i (by omega) (by omega) w1
  obtain ⟨f,x,y,hfv⟩ := hf qs[i] (by simp)
  have hcall := hq i _ hq0 hno
  rw [hfv] at d1 hcall
  simp [e5,e6,e7,hlt,hix,d1,d2]
  have hE1 := (Ext.refl w1).alloc (.cells #[.func f x y,.int .i64 qs[i].e] 161)
  refine CV.mono (hcall _ (hE.trans hE1)) ?_
  rintro _ w2 ⟨rfl,hE2⟩
  cases hqb : qs[i].b with
  | true =>
   simp
   exact ⟨(askE_at qs i _ hq0 hqb hno).symm,(hE.trans hE1).trans hE2⟩
  | false =>
   simp [e5,e6,e7]
   refine ⟨qs.length - (i + 1), by omega, i + 1, rfl, by omega, ?_, (hE.trans hE1).trans hE2, ?_⟩
   ·rw [wrap64 _ (by omega) (by omega)]; rfl
   ·intro j q hj hjq
    rcases Nat.lt_succ_iff_lt_or_eq.1 hj with h1 | rfl
    ·exact hno j q h1 hjq
    ·rw [hq0] at hjq; cases hjq; exact hqb
 ·simp [e6,e7,hlt]
  exact ⟨(askE_none qs fun j q hj => hno j q (by have := (List.getElem?_eq_some_iff.1 hj).1; omega) hj).symm,hE⟩
structure St where
 f : Int
 t : Int
 a : Int
 k : Int
def stCells (s : St) : List Value := [u32 s.f,u32 s.t,u64 s.a,u64 s.k]
abbrev stV (s : St) : Value := .agg #[u32 s.f,u32 s.t,u64 s.a,u64 s.k]
def badS (s : St) : Bool := decide (min s.f s.t = 0) || decide (s.f = s.t) || decide (4611686018427387903 ≤ s.a) || decide (1099511627776 < s.k)
structure StAt (w : World) (b : Nat) (s : St) : Prop where
 c0 : w.cell? ⟨b,0,none⟩ = some (u32 s.f)
 c1 : w.cell? ⟨b,1,none⟩ = some (u32 s.t)
 c2 : w.cell? ⟨b,2,none⟩ = some (u64 s.a)
 c3 : w.cell? ⟨b,3,none⟩ = some (u64 s.k)
theorem StAt.ext {w w' : World} {b : Nat} {s : St} (h : StAt w b s) (hE : Ext w w') : StAt w' b s := ⟨hE.cell_eq h.c0,hE.cell_eq h.c1,hE.cell_eq h.c2,hE.cell_eq h.c3⟩
theorem StAt.new (w : World) (s : St) (t : TypeId) : StAt (w.alloc (.cells #[u32 s.f, u32 s.t, u64 s.a, u64 s.k] t)) w.heap.size s :=
 ⟨cells_new w _ t 0,cells_new w _ t 1,cells_new w _ t 2,cells_new w _ t 3⟩
theorem set1_c {w : World} {b : Nat} {s : St} (h : StAt w b s) : FN Tryz.prog 81 [ptr b] w fun e w' => e = .returned (.bool (badS s)) ∧ w' = w := by
 refine FN_enter Tryz.func81 rfl rfl (by kernel_rfl) ?_
 simp [h.c0,h.c1]
 cases h1 : (min s.f s.t == 0) with
 | true =>
  have : min s.f s.t = 0 := by simpa using h1
  simp [badS,this]
 | false =>
  have h1' : ¬ min s.f s.t = 0 := by simpa using h1
  simp [h.c0,h.c1]
  cases h2 : (s.f == s.t) with
  | true =>
   have : s.f = s.t := by simpa using h2
   simp [badS,this]
  | false =>
   have h2' : ¬ s.f = s.t := by simpa using h2
   simp [h.c2]
   by_cases h3 : 4611686018427387903 ≤ s.a
   ·simp [badS,h3]
   ·simp [badS,h3,h1',h2',h.c3]
theorem set2_c {w : World} {b0 b1 b2 t R : Nat} {M : ME} {s : St} (v0 : Var w b0 (ptr t)) (c0 : w.cell? ⟨b1, 0, none⟩ = some (u32 s.f)) (c1 : w.cell? ⟨b1, 1, none⟩ = some (u32 s.t)) (hs : StAt w b2 s) (ht : TabAt w t R M) :
  FN Tryz.prog 82 [ptr b0,ptr b1,ptr b2] w fun e w' => e = .returned (.bool ((mget (sps M (s.f,s.t)) s.a).isNone && decide (512 ≤ total M))) ∧ Ext w w' := by
 refine FN_enter Tryz.func82 rfl rfl (by kernel_rfl) ?_
 simp [v0.cell,c0,c1,hs.c2]
 refine FN.mono (has_c ht s.f s.t s.a) ?_
 rintro _ w1 ⟨rfl,hE⟩
 cases hg : mget (sps M (s.f,s.t)) s.a with
 | some u =>
  simp
  exact hE
 | none =>
  simp [(v0.ext hE).cell]
  refine FN.mono (full_c (ht.ext hE)) ?_
  rintro _ _ ⟨rfl,hw⟩
  subst hw
  simp
  exact hE
def setE (M : ME) (s : St) : Int := if badS s then 2 else if (mget (sps M (s.f,s.t)) s.a).isNone && decide (512 ≤ total M) then 280 else 0
def wasS (M : ME) (s : St) : Bool := decide (setE M s = 0) && (mget (sps M (s.f,s.t)) s.a).isSome
structure PreS (w : World) (t R : Nat) (M : ME) (s : St) (W : World) (M1 : ME) (r : Nat) : Prop where
 cnt : W.cell? ⟨t,0,none⟩ = some (.int .i64 (total M))
 thaw : W.frozen? ⟨t,0,none⟩ = false
 cell : W.cell? ⟨t,1,none⟩ = some (.map (some R))
 map : MapAt ekP ewN W R M1
 inner : ∀ x ∈ M1,MA W x.2.1 x.2.2
 refs : (M1.map (·.2.1)).Nodup
 notR : ∀ x ∈ M1,x.2.1 ≠ R
 full : ∀ x ∈ M1,x.1 ≠ (s.f,s.t) → x.2.2 ≠ []
 get : mget M1 (s.f,s.t) = some (r,sps M (s.f,s.t))
 oth : ∀ q,q ≠ (s.f,s.t) → mget M1 q = mget M q
 tot : total M1 = total M
 foot : ∀ k,Foot t R M1 k → Foot t R M k ∨ w.heap.size ≤ k
 mod : Mod (Foot t R M) w W
 v0 : Var W w.heap.size (ptr t)
 st : StAt W (w.heap.size + 1) s
 p0 : W.cell? ⟨w.heap.size + 1 + 1,0,none⟩ = some (u32 s.f)
 p1 : W.cell? ⟨w.heap.size + 1 + 1,1,none⟩ = some (u32 s.t)
theorem total_eq (M : ME) : total M = tot (fun x : Nat × ML => x.2.length) M := rfl
theorem PreS.some' {w W : World} {t R r : Nat} {l : ML} {M : ME} {s : St} (ht : TabAt W t R M) (hg : mget M (s.f, s.t) = some (r, l)) (hM : Mod (Foot t R M) w W) (v0 : Var W w.heap.size (ptr t)) (st : StAt W (w.heap.size + 1) s)
  (p0 : W.cell? ⟨w.heap.size + 1 + 1,0,none⟩ = some (u32 s.f)) (p1 : W.cell? ⟨w.heap.size + 1 + 1,1,none⟩ = some (u32 s.t)) : PreS w t R M s W M r :=
 ⟨ht.cnt,ht.thaw,ht.cell,ht.map,ht.inner,ht.refs,ht.notR,fun x hx _ => ht.full x hx,by rw [hg]; simp [sps,hg],fun _ _ => rfl,rfl,fun k h => .inl h,hM,v0,st,p0,p1⟩
theorem map_off {κ ν : Type} {ek : κ → Value} {ew : ν → Value} {w w' : World} {r : Nat} {m : List (κ × ν)} (h : MapAt ek ew w r m) (hM : Mod (· = r) w w') {a : Addr} {v : Value} (ha : w.cell? a = some v) : w'.cell? a = some v :=
 (h.cells hM a (by rw [ha]; rfl)).trans ha
theorem var_off {κ ν : Type} {ek : κ → Value} {ew : ν → Value} {w w' : World} {r b : Nat} {v : Value} {m : List (κ × ν)} (h : MapAt ek ew w r m) (hM : Mod (· = r) w w') (hv : Var w b v) : Var w' b v := by
 refine hv.mod hM fun e => ?_
 subst e
 obtain ⟨⟨es,c,h1,_⟩,_⟩ := h
 have := hv.cell
 unfold World.cell? at this
 simp only [h1] at this
 cases this
theorem st_off {κ ν : Type} {ek : κ → Value} {ew : ν → Value} {w w' : World} {r b : Nat} {s : St} {m : List (κ × ν)} (h : MapAt ek ew w r m) (hM : Mod (· = r) w w') (hs : StAt w b s) : StAt w' b s :=
 ⟨map_off h hM hs.c0,map_off h hM hs.c1,map_off h hM hs.c2,map_off h hM hs.c3⟩
theorem thaw_off {κ ν : Type} {ek : κ → Value} {ew : ν → Value} {w w' : World} {r : Nat} {m : List (κ × ν)} (h : MapAt ek ew w r m) (hM : Mod (· = r) w w') {a : Addr} {v : Value} (ha : w.cell? a = some v) (hf : w.frozen? a = false) : w'.frozen? a = false := by
 have hne : a.block ≠ r := fun e => by
  obtain ⟨⟨es,c,h1,_⟩,_⟩ := h
  obtain ⟨c',t',fr',h2⟩ := cell_blk ha
  rw [e,h1] at h2; cases h2
 have hb := hM.blk a.block (World.block_lt_of_cell? _ _ ha) hne
 rw [← hf]; unfold World.frozen?; rw [hb]
theorem PreS.none' {w W W' : World} {t R r : Nat} {M : ME} {s : St} (ht : TabAt W t R M) (hg : mget M (s.f, s.t) = none) (hM : Mod (Foot t R M) w W) (v0 : Var W w.heap.size (ptr t)) (st : StAt W (w.heap.size + 1) s)
  (p0 : W.cell? ⟨w.heap.size + 1 + 1,0,none⟩ = some (u32 s.f)) (p1 : W.cell? ⟨w.heap.size + 1 + 1,1,none⟩ = some (u32 s.t)) (hr : MA W r []) (hfr : w.heap.size ≤ r) (hnf : ¬ Foot t R M r) (hm : MapAt ekP ewN W' R (mset M (s.f,s.t) (r,[]))) (hM' : Mod (· = R) W W') :
  PreS w t R M s W' (mset M (s.f,s.t) (r,[])) r := by
 have hmem : ∀ x ∈ mset M (s.f, s.t) (r, ([] : ML)), x = ((s.f, s.t), (r, [])) ∨ x ∈ M := fun x hx => by
  rcases kset_mem hx with h | h
  ·exact .inl h
  ·exact .inr h.1
 refine ⟨map_off ht.map hM' ht.cnt, thaw_off ht.map hM' ht.cnt ht.thaw, map_off ht.map hM' ht.cell, hm, ?_, ?_, ?_, ?_, ?_, ?_, ?_, ?_, ?_, var_off ht.map hM' v0, st_off ht.map hM' st, map_off ht.map hM' p0, map_off ht.map hM' p1⟩
 ·intro x hx
  rcases hmem x hx with rfl | hx
  ·exact hr.mod hM' (fun e => hnf (.inr (.inl e)))
  ·exact (ht.inner x hx).mod hM' (ht.notR x hx)
 ·unfold mset
  rw [hg]
  simp only [Option.isSome_none,Bool.false_eq_true,if_false,List.map_append,List.map_cons,List.map_nil]
  rw [List.nodup_append]
  refine ⟨ht.refs,by simp,fun a ha b hb => ?_⟩
  simp at hb
  subst hb
  rintro rfl
  obtain ⟨x,hx,e⟩ := List.mem_map.1 ha
  exact hnf (.inr (.inr ⟨x,hx,e.symm⟩))
 ·intro x hx
  rcases hmem x hx with rfl | hx
  ·exact fun e => hnf (.inr (.inl e))
  ·exact ht.notR x hx
 ·intro x hx hne
  rcases hmem x hx with rfl | hx
  ·exact (hne rfl).elim
  ·exact ht.full x hx
 ·rw [kget_mset,if_pos rfl]
  simp [sps,hg]
 ·intro q hq
  rw [kget_mset,if_neg hq]
 ·have := tot_set (fun x : Nat × ML => x.2.length) ht.map.nodup (s.f,s.t) (r,([] : ML))
  rw [hg] at this
  simpa [total_eq] using this
 ·rintro k (h | h | ⟨x, hx, h⟩)
  ·exact .inl (.inl h)
  ·exact .inl (.inr (.inl h))
  ·rcases hmem x hx with rfl | hx
   ·right; rw [h]; exact hfr
   ·exact .inl (.inr (.inr ⟨x,hx,h⟩))
 ·exact hM.trans (hM'.weaken fun i hi => .inr (.inl hi))
theorem refs_off {M : ME} (hn : (M.map (·.1)).Nodup) (hr : (M.map (·.2.1)).Nodup) {p : PK} {r : Nat} {l : ML} (hg : mget M p = some (r, l)) : ∀ x ∈ M, x.1 ≠ p → x.2.1 ≠ r := by
 intro x hx hne e
 have hm := kget_mem hg
 obtain ⟨i,hi,rfl⟩ := List.mem_iff_getElem.1 hx
 obtain ⟨j,hj,e2⟩ := List.mem_iff_getElem.1 hm
 have h1 : (M.map (·.2.1))[i]'(by simpa using hi) = (M.map (·.2.1))[j]'(by simpa using hj) := by simp [e,e2]
 have := (List.getElem_inj hr).1 h1
 subst this
 rw [e2] at hne
 exact hne rfl
theorem PreS.done {w W W' : World} {t R r : Nat} {M M1 : ME} {s : St} (h : PreS w t R M s W M1 r) (n : Nat) (hn : n = (if (mget (sps M (s.f, s.t)) s.a).isSome then total M else total M + 1))
  (hi : MA W' r (mset (sps M (s.f,s.t)) s.a s.k)) (hM' : Mod (fun k => k = t ∨ k = r) W W') (hc : W'.cell? ⟨t,0,none⟩ = some (.int .i64 n)) (hf : W'.frozen? ⟨t,0,none⟩ = false) (hs : W'.cell? ⟨t,1,none⟩ = some (.map (some R))) :
  ∃ M',TabAt W' t R M' ∧ Mod (Foot t R M) w W' ∧ (∀ k,Foot t R M' k → Foot t R M k ∨ w.heap.size ≤ k) ∧ (∀ q,sps M' q = if q = (s.f,s.t) then mset (sps M q) s.a s.k else sps M q) ∧ total M' = n := by
 have ht0 := cell_blk h.cnt
 have notT : ∀ {κ ν : Type} {ek : κ → Value} {ew : ν → Value} {r' : Nat} {m : List (κ × ν)}, MapAt ek ew W r' m → r' ≠ t := by
  rintro κ ν ek ew r' m ⟨⟨es,c,h1,_⟩,_⟩ e
  obtain ⟨c',t',fr',h2⟩ := ht0
  simp only at h2
  rw [← e,h1] at h2; cases h2
 have hro := refs_off h.map.nodup h.refs h.get
 have hmm := kget_mem h.get
 have hrR : R ≠ r := fun e => h.notR _ hmm e.symm
 have htt := tot_set (fun x : Nat × ML => x.2.length) h.map.nodup (s.f,s.t) (r,mset (sps M (s.f,s.t)) s.a s.k)
 rw [h.get] at htt
 simp only [← total_eq,h.tot,kset_len] at htt
 have hn' : total (mset M1 (s.f, s.t) (r, mset (sps M (s.f, s.t)) s.a s.k)) = n := by
  cases hh : (mget (sps M (s.f,s.t)) s.a).isSome <;> simp only [hh,if_true,if_false,Bool.false_eq_true] at htt hn <;> omega
 have hmem : ∀ x ∈ mset M1 (s.f,s.t) (r,mset (sps M (s.f,s.t)) s.a s.k),x = ((s.f,s.t),(r,mset (sps M (s.f,s.t)) s.a s.k)) ∨ x ∈ M1 ∧ x.1 ≠ (s.f,s.t) := fun x hx => kset_mem hx
 refine ⟨_, ⟨by rw [hn']; exact hc, hf, hs, ?_, ?_, ?_, ?_, ?_⟩, ?_, ?_, ?_, hn'⟩
 ·have hk := h.map.mod hM' (fun e => by rcases e with e | e; exact notT h.map e; exact hrR e)
  obtain ⟨⟨es,c,h1,h2,h3⟩,h4⟩ := hk
  refine ⟨⟨es,c,h1,?_,h3⟩,kset_nodup h4 _ _⟩
  rw [h2]
  exact (kset_map (v := (r,mset (sps M (s.f,s.t)) s.a s.k)) h4 h.get (fun p => (ekP p.1,ewN p.2)) rfl).symm
 ·intro x hx
  rcases hmem x hx with rfl | ⟨hx, hne⟩
  ·exact hi
  ·exact (h.inner x hx).mod hM' (fun e => by rcases e with e | e; exact notT (h.inner x hx) e; exact hro x hx hne e)
 ·rw [kset_map (v := (r,mset (sps M (s.f,s.t)) s.a s.k)) h.map.nodup h.get (fun p => p.2.1) rfl]
  exact h.refs
 ·intro x hx
  rcases hmem x hx with rfl | ⟨hx, hne⟩
  ·exact fun e => hrR e.symm
  ·exact h.notR x hx
 ·intro x hx
  rcases hmem x hx with rfl | ⟨hx, hne⟩
  ·intro e
   have := kget_mset (sps M (s.f,s.t)) s.a s.k s.a
   simp only at e
   rw [e] at this
   simp [kget_nil] at this
  ·exact h.full x hx hne
 ·refine h.mod.trans' hM' fun i hi => ?_
  rcases hi with rfl | rfl
  ·exact .inl (.inl rfl)
  ·rcases h.foot i (.inr (.inr ⟨_, hmm, rfl⟩)) with h' | h'
   ·exact .inl h'
   ·exact .inr h'
 ·rintro k (h' | h' | ⟨x, hx, h'⟩)
  ·exact .inl (.inl h')
  ·exact .inl (.inr (.inl h'))
  ·rcases hmem x hx with rfl | ⟨hx, hne⟩
   ·exact h.foot k (.inr (.inr ⟨_,hmm,h'⟩))
   ·exact h.foot k (.inr (.inr ⟨x,hx,h'⟩))
 ·intro q
  by_cases hq : q = (s.f, s.t)
  ·subst hq
   rw [if_pos rfl]
   simp [sps,kget_mset]
  ·rw [if_neg hq]
   simp only [sps,kget_mset,hq,if_false]
   rw [h.oth q hq]
structure PreC (w : World) (t R : Nat) (s : St) (W : World) (M1 : ME) (r : Nat) (l : ML) : Prop where
 cell : W.cell? ⟨t,1,none⟩ = some (.map (some R))
 map : MapAt ekP ewN W R M1
 inn : MA W r l
 v0 : Var W w.heap.size (ptr t)
 st : StAt W (w.heap.size + 1) s
 p0 : W.cell? ⟨w.heap.size + 1 + 1,0,none⟩ = some (u32 s.f)
 p1 : W.cell? ⟨w.heap.size + 1 + 1,1,none⟩ = some (u32 s.t)
theorem PreC.ext {w W W' : World} {t R r : Nat} {s : St} {M1 : ME} {l : ML} (h : PreC w t R s W M1 r l) (hE : Ext W W') : PreC w t R s W' M1 r l :=
 ⟨hE.cell_eq h.cell,h.map.ext hE,h.inn.ext hE,h.v0.ext hE,h.st.ext hE,hE.cell_eq h.p0,hE.cell_eq h.p1⟩
theorem not_cells {κ ν : Type} {ek : κ → Value} {ew : ν → Value} {W : World} {r : Nat} {m : List (κ × ν)} {a : Addr} {v : Value} (hm : MapAt ek ew W r m) (hc : W.cell? a = some v) : r ≠ a.block := by
 obtain ⟨⟨es,c,h1,_⟩,_⟩ := hm
 obtain ⟨c',t',fr',h2⟩ := cell_blk hc
 rintro rfl
 rw [h1] at h2; cases h2
theorem PreC.set {w W : World} {t R r : Nat} {s : St} {M1 : ME} {l : ML} (h : PreC w t R s W M1 r l) (ht : t < w.heap.size) (u : Value) : PreC w t R s (W.setCell ⟨t, 0, none⟩ u) M1 r l := by
 have hM := Mod.setCell (S := (· = t)) (Mod.refl _ W) ⟨t,0,none⟩ u (.inl rfl)
 refine ⟨?_,h.map.mod hM (not_cells h.map h.cell),h.inn.mod hM (not_cells h.inn h.cell),h.v0.mod hM (by omega),⟨hM.cell h.st.c0 (by simp only; omega),hM.cell h.st.c1 (by simp only; omega),hM.cell h.st.c2 (by simp only; omega),hM.cell h.st.c3 (by simp only; omega)⟩,hM.cell h.p0 (by simp only; omega),hM.cell h.p1 (by simp only; omega)⟩
 rw [World.cell?_setCell_other _ _ _ _ (by simp)]
 exact h.cell
theorem PreS.pc {w W : World} {t R r : Nat} {M M1 : ME} {s : St} (h : PreS w t R M s W M1 r) : PreC w t R s W M1 r (sps M (s.f, s.t)) :=
 ⟨h.cell,h.map,h.inner _ (kget_mem h.get),h.v0,h.st,h.p0,h.p1⟩
set_option maxHeartbeats 2000000 in
theorem set_c {w : World} {t R : Nat} {M : ME} (ht : TabAt w t R M) (hfew : total M ≤ 1048576) (s : St) : FN Tryz.prog 33 [ptr t, stV s] w fun e w' => e = .returned (.tuple #[.bool (wasS M s), .int .i64 (setE M s)]) ∧ ∃ M', TabAt w' t R M' ∧ Mod (Foot t R M) w w' ∧ (∀ k, Foot t R M' k → Foot t R M k ∨ w.heap.size ≤ k) ∧
  (∀ q,sps M' q = if setE M s = 0 ∧ q = (s.f,s.t) then mset (sps M q) s.a s.k else sps M q) ∧ total M' = (if setE M s = 0 ∧ wasS M s = false then total M + 1 else total M) := by
 refine FN_enter Tryz.func33 rfl rfl (by kernel_rfl) ?_
 simp
 have he : Ext w (((w.alloc (.cells #[ptr t] 86)).alloc (.cells #[u32 s.f,u32 s.t,u64 s.a,u64 s.k] 94)).alloc (.cells #[u32 s.f,u32 s.t] 158)) := (((Ext.refl w).alloc _).alloc _).alloc _
 have v0 : Var (((w.alloc (.cells #[ptr t] 86)).alloc (.cells #[u32 s.f,u32 s.t,u64 s.a,u64 s.k] 94)).alloc (.cells #[u32 s.f,u32 s.t] 158)) w.heap.size (ptr t) := (Var.new w _ _).ext (((Ext.refl _).alloc _).alloc _)
 have hs : StAt (((w.alloc (.cells #[ptr t] 86)).alloc (.cells #[u32 s.f, u32 s.t, u64 s.a, u64 s.k] 94)).alloc (.cells #[u32 s.f, u32 s.t] 158)) (w.heap.size + 1) s := by
  have := (StAt.new (w.alloc (.cells #[ptr t] 86)) s 94).ext ((Ext.refl _).alloc (.cells #[u32 s.f,u32 s.t] 158))
  simpa using this
 have p0 : (((w.alloc (.cells #[ptr t] 86)).alloc (.cells #[u32 s.f, u32 s.t, u64 s.a, u64 s.k] 94)).alloc (.cells #[u32 s.f, u32 s.t] 158)).cell? ⟨w.heap.size + 1 + 1, 0, none⟩ = some (u32 s.f) := by
  simp
 have p1 : (((w.alloc (.cells #[ptr t] 86)).alloc (.cells #[u32 s.f, u32 s.t, u64 s.a, u64 s.k] 94)).alloc (.cells #[u32 s.f, u32 s.t] 158)).cell? ⟨w.heap.size + 1 + 1, 1, none⟩ = some (u32 s.t) := by
  simp
 have hsz : (((w.alloc (.cells #[ptr t] 86)).alloc (.cells #[u32 s.f,u32 s.t,u64 s.a,u64 s.k] 94)).alloc (.cells #[u32 s.f,u32 s.t] 158)).heap.size = w.heap.size + 1 + 1 + 1 := by simp
 generalize (((w.alloc (.cells #[ptr t] 86)).alloc (.cells #[u32 s.f,u32 s.t,u64 s.a,u64 s.k] 94)).alloc (.cells #[u32 s.f,u32 s.t] 158)) = w1 at *
 have ht1 := ht.ext he
 let qs : List Qn := [⟨.func (.func 80) #[ptr t] #[], 1, false⟩, ⟨.func (.func 81) #[] #[ptr (w.heap.size + 1)], 2, badS s⟩,
  ⟨.func (.func 82) #[] #[ptr w.heap.size,ptr (w.heap.size + 1 + 1),ptr (w.heap.size + 1)],280,(mget (sps M (s.f,s.t)) s.a).isNone && decide (512 ≤ total M)⟩]
 have hsl := Sl.made w1 (askCells qs) 161 2 3 rfl
 rw [hsz] at hsl
 have he3 := (Ext.refl w1).alloc (.cells (askCells qs).toArray 161)
 refine FN.mono (asked_c qs hsl (by simp [qs]) ?_ ?_) ?_
 ·intro q hq
  simp [qs] at hq
  rcases hq with rfl | rfl | rfl <;> exact ⟨_,_,_,rfl⟩
 ·intro i q hq hno w' hw'
  have hx := he3.trans hw'
  match i,hq with
  | 0, hq =>
   simp [qs] at hq; subst hq
   exact FN.mono (none_c (ht1.ext hx)) fun _ _ h => ⟨h.1,h.2 ▸ Ext.refl _⟩
  | 1, hq =>
   simp [qs] at hq; subst hq
   exact FN.mono (set1_c (hs.ext hx)) fun _ _ h => ⟨h.1,h.2 ▸ Ext.refl _⟩
  | 2, hq =>
   simp [qs] at hq; subst hq
   exact set2_c (v0.ext hx) (hx.cell_eq p0) (hx.cell_eq p1) (hs.ext hx) (ht1.ext hx)
  | i + 3,hq => simp [qs] at hq
 ·rintro _ w3 ⟨rfl,h2⟩
  have hE : askE qs = setE M s := by
   simp [qs,askE,setE]
  rw [hE]
  have hx := he3.trans h2
  have hX := he.trans hx
  have ht3 := ht1.ext hx
  have v03 := v0.ext hx
  have hs3 := hs.ext hx
  have p03 := hx.cell_eq p0
  have p13 := hx.cell_eq p1
  by_cases h0 : setE M s = 0
  ·simp [h0]
   refine WC_drawQ 5 rfl (by kernel_rfl) ?_
   have hd := Ext.drew w3
   have ht4 := ht3.ext hd
   have hnF : ∀ k,Foot t R M k → k < w.heap.size := ht.lt
   refine with_tail (T := ∀ (σ : Env) (W : World),(σ 2 = ptr w.heap.size ∧ σ 3 = ptr (w.heap.size + 1) ∧ σ 6 = ptr (w.heap.size + 1 + 1)) ∧ (∃ M1 r,PreS w t R M s W M1 r) → FN Tryz.prog 83 [ptr t,.agg #[u32 s.f,u32 s.t],u64 s.a] W (RC (some 41) ?K ?Q σ [])) (fun tail => ?_) ?_
   rotate_left 2
   ·cases hg : mget M (s.f,s.t) with
    | none =>
     have hmv : mv M (s.f,s.t) = .map none := by simp [mv,hg]
     simp [(v03.ext hd).cell,hd.cell_eq p03,hd.cell_eq p13,ht4.cell,ht4.find,hmv]
     refine WC_drawC 6 (.F 0 <| .F 1 <| .F 2 <| .F 3 <| .F 4 <| .C 5 <| .Z) (fun _ => false) rfl (by kernel_rfl) fun W hW => ?_
     have hWE : Ext w3.drew W := hW ▸ Ext.drew _
     have hx5 := hd.trans hWE
     simp [(v03.ext hx5).cell,hx5.cell_eq p03,hx5.cell_eq p13,(ht4.ext hWE).cell]
     have hm0 := MapAt.alloc0 (Value.int .u64) (Value.int .u64) W
     have hWA := (Ext.refl W).alloc (.map #[] 0)
     have hsW := (hX.trans hx5).size
     refine KR_ext hWA ?_
     obtain ⟨r,hr⟩ : ∃ r,r = W.heap.size := ⟨_,rfl⟩
     obtain ⟨W5,hW5⟩ : ∃ W5,W5 = W.alloc (.map #[] 0) := ⟨_,rfl⟩
     rw [← hr,← hW5] at hm0 ⊢
     rw [← hW5] at hWA
     have hx6 := hx5.trans hWA
     have ht6 := ht3.ext hx6
     obtain ⟨W6,hu,hm,hM,hsz6⟩ := ht6.map.update (P := Tryz.prog) k67 tm61 (s.f,s.t) (r,[])
     have hP := PreS.none' (w := w) ht6 hg (hX.trans hx6).mod (v03.ext hx6) (hs3.ext hx6) (hx6.cell_eq p03) (hx6.cell_eq p13) hm0 (by omega) (fun h => by have := hnF _ h; omega) hm hM
     simp [ekP,pkc,ewN] at hu
     simp [hu,hP.v0.cell,hP.st.c2,hP.p0,hP.p1]
     refine tail _ _ ⟨?_,_,_,hP⟩
     simp
    | some x =>
     obtain ⟨r,l⟩ := x
     have hmv : mv M (s.f,s.t) = .map (some r) := by simp [mv,hg,ewN]
     simp [(v03.ext hd).cell,hd.cell_eq p03,hd.cell_eq p13,ht4.cell,ht4.find,hmv,(hs3.ext hd).c2]
     refine tail _ _ ⟨?_,_,_,PreS.some' ht4 hg (hX.trans hd).mod (v03.ext hd) (hs3.ext hd) (hd.cell_eq p03) (hd.cell_eq p13)⟩
     simp
   ·rintro σ W ⟨⟨e2,e3,e6⟩,M1,r,hP⟩
    have hmv : mv M1 (s.f,s.t) = .map (some r) := by simp [mv,hP.get,ewN]
    have hsp : sps M1 (s.f,s.t) = sps M (s.f,s.t) := by simp [sps,hP.get]
    have hir := hP.inner _ (kget_mem hP.get)
    have hh := has_c' (f := s.f) (g := s.t) hP.cell hP.map (by rw [hmv,hsp]; exact hir.val) s.a
    rw [hsp] at hh
    refine FN.mono hh ?_
    rintro _ W1 ⟨rfl,hE1⟩
    have htl := hnF t (.inl rfl)
    cases hh : mget (sps M (s.f,s.t)) s.a with
    | none =>
     have hC1 := hP.pc.ext hE1
     have c1 := hE1.cell_eq hP.cnt
     have f1 : W1.frozen? ⟨t, 0, none⟩ = false := by
      have hb := hE1.blk t (World.block_lt_of_cell? _ _ hP.cell)
      rw [← hP.thaw]; unfold World.frozen?; simp only [hb]
     simp [e2,hC1.v0.cell,c1,f1]
     rw [wrap64 _ (by omega) (by omega)]
     have hC2 := (hC1.set htl (.int .i64 ((total M : Int) + 1))).ext (Ext.drew _)
     have c2 : (W1.setCell ⟨t,0,none⟩ (.int .i64 ((total M : Int) + 1))).cell? ⟨t,0,none⟩ = some (.int .i64 ((total M : Int) + 1)) := World.cell?_setCell_same _ _ _ c1
     have f2 : (W1.setCell ⟨t,0,none⟩ (.int .i64 ((total M : Int) + 1))).frozen? ⟨t,0,none⟩ = false := by rw [World.frozen?_setCell]; exact f1
     have hM2 : Mod (fun k => k = t ∨ k = r) W (W1.setCell ⟨t,0,none⟩ (.int .i64 ((total M : Int) + 1))) := hE1.mod.trans (Mod.setCell (Mod.refl _ W1) ⟨t,0,none⟩ _ (.inl (.inl rfl)))
     generalize (W1.setCell ⟨t,0,none⟩ (.int .i64 ((total M : Int) + 1))) = W2 at *
     refine WC_drawQ 10 rfl (by kernel_rfl) ?_
     obtain ⟨W3,hu,hm3,hM3,hsz3⟩ := hC2.inn.update (P := Tryz.prog) k23 tm72 s.a s.k
     simp [e2,e3,e6,hC2.v0.cell,hC2.p0,hC2.p1,hC2.cell,find' hC2.map,hmv,hC2.st.c2,hC2.st.c3,hu]
     have hwas : wasS M s = false := by simp [wasS,hh]
     have hd2 := Ext.drew W2
     obtain ⟨M', g1, g2, g3, g4, g5⟩ := hP.done (total M + 1) (by simp [hh]) hm3 (hM2.trans (hd2.mod.trans (hM3.weaken fun i hi => .inr hi))) (by push_cast; exact map_off hC2.inn hM3 (hd2.cell_eq c2))
      (thaw_off hC2.inn hM3 (hd2.cell_eq c2) (by simpa using f2)) (map_off hC2.inn hM3 hC2.cell)
     exact ⟨by simp [hwas],M',g1,g2,g3,fun a b => by simpa using g4 (a,b),by simp [hwas,g5]⟩
    | some u =>
     simp
     refine WC_drawQ 10 rfl (by kernel_rfl) ?_
     have hE2 := hE1.trans (Ext.drew W1)
     have hC2 := hP.pc.ext hE2
     have c2 := hE2.cell_eq hP.cnt
     have f2 : W1.drew.frozen? ⟨t, 0, none⟩ = false := by
      have hb := hE2.blk t (World.block_lt_of_cell? _ _ hP.cell)
      rw [← hP.thaw]; unfold World.frozen?; simp only [hb]
     obtain ⟨W3,hu,hm3,hM3,hsz3⟩ := hC2.inn.update (P := Tryz.prog) k23 tm72 s.a s.k
     simp [e2,e3,e6,hC2.v0.cell,hC2.p0,hC2.p1,hC2.cell,find' hC2.map,hmv,hC2.st.c2,hC2.st.c3,hu]
     have hwas : wasS M s = true := by simp [wasS,h0,hh]
     obtain ⟨M', g1, g2, g3, g4, g5⟩ := hP.done (total M) (by simp [hh]) hm3 (hE2.mod.trans (hM3.weaken fun i hi => .inr hi)) (map_off hC2.inn hM3 c2)
      (thaw_off hC2.inn hM3 c2 f2) (map_off hC2.inn hM3 hC2.cell)
     exact ⟨by simp [hwas],M',g1,g2,g3,fun a b => by simpa using g4 (a,b),by simp [hwas,g5]⟩
  ·have hb : (setE M s != 0) = true := by simpa using h0
   have hw : wasS M s = false := by simp [wasS,h0]
   simp [h0,hb,hw]
   exact ⟨M,ht3,hX.mod,fun k h => .inl h,fun _ _ => rfl,rfl⟩
end Go.Proofs