/-
 Contracts of the functions that the law reaches,step by step.
-/
import Derived.Test.YtdflcfoalhhjlaaGreatGdL
namespace Go.Proofs
open Pk
set_option maxRecDepth 10000
theorem askedG_c {w : World} {v : Value} (qs : List Qn) (hs : Sl w 2 v qs.length (askCells qs)) (hb : qs.length ≤ 1000) (hf : ∀ q ∈ qs, ∃ f x y, q.f = .func f x y)
  (hq : ∀ (i : Nat) (q : Qn),qs[i]? = some q → (∀ (j : Nat) (p : Qn),j < i → qs[j]? = some p → p.b = false) → ∀ w',Ext w w' → CV Tryz.prog q.f [] w' fun e w'' => e = .returned (.bool q.b) ∧ Ext w' w'') :
  FN Tryz.prog 90 [v] w fun e w' => e = .returned (.int .i64 (askE qs)) ∧ Ext w w' := by
 refine FN_enter Tryz.func90 rfl rfl (by kernel_rfl) ?_
 simp
 refine WC_scope 0 _ rfl ?_
 simp [hs.isLen]
 refine WC_loop (fun k ρ ds w' => ∃ i : Nat,k = qs.length - i ∧ i ≤ qs.length ∧ ρ 5 = v ∧ ρ 6 = .int .i64 qs.length ∧ ρ 7 = .int .i64 i ∧ ds = [] ∧ Ext w w' ∧ ∀ (j : Nat) (q : Qn),j < i → qs[j]? = some q → q.b = false) qs.length ⟨0,by simp [Ext.refl]⟩ ?_
 rintro k ρ ds w1 ⟨i,rfl,hi,e5,e6,e7,rfl,hE,hno⟩
 by_cases hlt : i < qs.length
 ·have hq0 : qs[i]? = some qs[i] := by simp [hlt]
  obtain ⟨c1,c2⟩ := askCells_at qs i _ hq0
  have hs1 := hs.ext hE
  have d1 := hs1.at_ _ _ c1
  have d2 := hs1.at_ _ _ c2
  rw [← Nat.add_assoc] at d2
  have hix := hs1.index (P := Tryz.prog) (t := 206) (by simp) .i64 i (by omega) (by omega) w1
  obtain ⟨f,x,y,hfv⟩ := hf qs[i] (by simp)
  have hcall := hq i _ hq0 hno
  rw [hfv] at d1 hcall
  simp [e5,e6,e7,hlt,hix,d1,d2]
  have hE1 := (Ext.refl w1).alloc (.cells #[.func f x y,.int .i64 qs[i].e] 170)
  refine CV.mono (hcall _ (hE.trans hE1)) ?_
  rintro _ w2 ⟨rfl,hE2⟩
  cases hqb : qs[i].b with
  | true =>
   simp
   exact ⟨(askE_at qs i _ hq0 hqb hno).symm,(hE.trans hE1).trans hE2⟩
  | false =>
   simp [e5,e6,e7]
   refine ⟨qs.length - (i + 1), by omega, i + 1, rfl, by omega, ?_, (hE.trans hE1).trans hE2, ?_⟩
   ·rw [wrap64 _ (by omega) (by omega)]; rfl
   ·intro j q hj hjq
    rcases Nat.lt_succ_iff_lt_or_eq.1 hj with h1 | rfl
    ·exact hno j q h1 hjq
    ·rw [hq0] at hjq; cases hjq; exact hqb
 ·simp [e6,e7,hlt]
  exact ⟨(askE_none qs fun j q hj => hno j q (by have := (List.getElem?_eq_some_iff.1 hj).1; omega) hj).symm,hE⟩
abbrev quV (q : Qu) (nv : Value) : Value := .agg #[u32 q.fr,u32 q.to',u64 q.at_,u64 q.size,i64 q.most,nv]
theorem ways_c (w : World) (g : Value) (q : Qu) (nv : Value) (hn : ∃ a n c, nv = .slice a n c) (h : ∃ o, g = .pointer o) : FN Tryz.prog 95 [g, quV q nv] w fun e w' => ∃ bg bq, e = .returned (.func (.func 120) #[] #[ptr bg, ptr bq]) ∧ Var w' bg g ∧ Blk w' bq (quC q nv) ∧ Ext w w' ∧ w.heap.size ≤ bg ∧ w.heap.size ≤ bq := by
 obtain ⟨o,rfl⟩ := h
 refine FN_enter Tryz.func95 rfl rfl (by kernel_rfl) ?_
 have h1 := (Var.new w (.pointer o) 34).ext ((Ext.refl _).alloc (.cells #[u32 q.fr,u32 q.to',u64 q.at_,u64 q.size,i64 q.most,nv] 29))
 have h2 := Blk.new (w.alloc (.cells #[.pointer o] 34)) (quC q nv) 29
 have hE : Ext w ((w.alloc (.cells #[.pointer o] 34)).alloc (.cells #[u32 q.fr,u32 q.to',u64 q.at_,u64 q.size,i64 q.most,nv] 29)) := ((Ext.refl w).alloc _).alloc _
 simp at h2
 obtain ⟨a,n,c,rfl⟩ := hn
 simp
 exact ⟨_,_,⟨rfl,rfl⟩,h1,h2,hE,by omega,by omega⟩
def badQ (q : Qu) : Bool := decide (q.fr = 0) || (decide (q.size = 0) || (decide (4611686018427387903 ≤ q.at_) || decide (q.most < 1)))
theorem gright1_c {w : World} {b : Nat} {q : Qu} {nv : Value} (h : Blk w b (quC q nv)) : FN Tryz.prog 119 [ptr b] w fun e w' => e = .returned (.bool (badQ q)) ∧ w' = w := by
 refine FN_enter Tryz.func119 rfl rfl (by kernel_rfl) ?_
 by_cases h1 : q.fr = 0
 ·simp [(h).cell 0 _ rfl,badQ,h1]
 by_cases h2 : q.size = 0
 ·simp [(h).cell 0 _ rfl,(h).cell 3 _ rfl,beq_dec,badQ,h1,h2]
 by_cases h3 : 4611686018427387903 ≤ q.at_
 ·simp [(h).cell 0 _ rfl,(h).cell 2 _ rfl,(h).cell 3 _ rfl,beq_dec,badQ,h1,h2,h3]
 simp [(h).cell 0 _ rfl,(h).cell 2 _ rfl,(h).cell 3 _ rfl,(h).cell 4 _ rfl,beq_dec,badQ,h1,h2,h3]
theorem gright_c (w : World) (q : Qu) (nv : Value) (hn : ∃ a n c, nv = .slice a n c) : FN Tryz.prog 92 [quV q nv] w fun e w' => ∃ b, e = .returned (.agg #[.func (.func 119) #[] #[ptr b], i64 2]) ∧ Blk w' b (quC q nv) ∧ Ext w w' := by
 obtain ⟨a,n,c,rfl⟩ := hn
 refine FN_enter Tryz.func92 rfl rfl (by kernel_rfl) ?_
 simp
 exact ⟨(Blk.new w (quC q (.slice a n c)) 29).ext ((Ext.refl _).alloc _),((Ext.refl w).alloc _).alloc _⟩
def badE (q : Qu) : Bool := decide (q.to' = 0) || decide (q.fr = q.to')
theorem best1_c {w : World} {b : Nat} {q : Qu} (h : Blk w b [u32 q.fr, u32 q.to']) : FN Tryz.prog 93 [ptr b] w fun e w' => e = .returned (.bool (badE q)) ∧ w' = w := by
 refine FN_enter Tryz.func93 rfl rfl (by kernel_rfl) ?_
 by_cases h1 : q.to' = 0
 ·simp [h.cell 1 _ rfl,badE,h1]
 simp [h.cell 0 _ rfl,h.cell 1 _ rfl,beq_dec,badE,h1]
theorem best2_c {w : World} {b : Nat} {q : Qu} {nv : Value} (h : Blk w b (quC q nv)) (x : Tl) : FN Tryz.prog 96 [tlV x, ptr b] w fun e w' => e = .returned (.bool (decide (x.n = q.to'))) ∧ Ext w w' := by
 refine FN_enter Tryz.func96 rfl rfl (by kernel_rfl) ?_
 have hE := (Ext.refl w).alloc (.cells #[u64 x.a,i64 x.h,u32 x.f.to',u32 x.f.fr,u32 x.f.to',u64 x.f.sf,u64 x.f.su,u64 x.f.rate,u32 x.n] 173)
 have hB : Blk (w.alloc (.cells #[u64 x.a,i64 x.h,u32 x.f.to',u32 x.f.fr,u32 x.f.to',u64 x.f.sf,u64 x.f.su,u64 x.f.rate,u32 x.n] 173)) w.heap.size (tlC x) := Blk.new w (tlC x) 173
 simp [h.cell 1 _ rfl,beq_dec]
 exact hE
def tlZ : Tl := ⟨0,0,⟨0,0,0,0,0⟩,0⟩
def FoundT (S Sp : List Tl → Prop) (n : Int) (e : Ending) : Prop := (∃ xs,S xs ∧ (∀ x ∈ xs,x.n ≠ n) ∧ e = .returned (.tuple #[tlV tlZ,.bool false])) ∨ ∃ pre x,Sp (pre ++ [x]) ∧ (∀ y ∈ pre,y.n ≠ n) ∧ x.n = n ∧ e = .returned (.tuple #[tlV x,.bool true])
theorem put9_blk {w : World} {c : Nat} {l : List Value} (h : Blk w c l) (hl : l.length = 9) (a0 a1 a2 a3 a4 a5 a6 a7 a8 : Value) : Blk (((((((((w.setCell ⟨c, 0, none⟩ a0).setCell ⟨c, 1, none⟩ a1).setCell ⟨c, 2, none⟩ a2).setCell ⟨c, 3, none⟩ a3).setCell ⟨c, 4, none⟩ a4).setCell ⟨c, 5, none⟩ a5).setCell ⟨c, 6, none⟩ a6).setCell ⟨c, 7, none⟩ a7).setCell ⟨c, 8, none⟩ a8) c [a0, a1, a2, a3, a4, a5, a6, a7, a8] :=
 match l,hl with
 | [_,_,_,_,_,_,_,_,_],_ => ((((((((h.set 0 a0).set 1 a1).set 2 a2).set 3 a3).set 4 a4).set 5 a5).set 6 a6).set 7 a7).set 8 a8
set_option maxHeartbeats 1000000 in
theorem first_c {w : World} {gf : FuncId} {fi ca : Array Value} {S Sp : List Tl → Prop} {Cap : Nat → Prop} {bq : Nat} {q : Qu} {nv : Value} (hit : Iter Tryz.prog (.func (.func gf) fi ca) (fun x : Tl => [tlV x]) S Sp Cap w) (hent : ∀ l w, (callFunc gf l).run Tryz.prog w = .ok (.enter gf l) w) (hcap : ∀ k, Cap k → k < w.heap.size) (hq : Blk w bq (quC q nv)) :
  FN Tryz.prog 94 [.func (.func gf) fi ca,.func (.func 96) #[] #[ptr bq]] w fun e w' => FoundT S Sp q.to' e ∧ Ext w w' := by
 refine FN_enter Tryz.func94 rfl rfl (by kernel_rfl) ?_
 have hE : Ext w (((w.alloc (.cells #[.func (.func 96) #[] #[ptr bq]] 179)).alloc (.cells #[u64 0,i64 0,u32 0,u32 0,u32 0,u64 0,u64 0,u64 0,u32 0] 173)).alloc (.cells #[.bool false] 4)) := (((Ext.refl w).alloc _).alloc _).alloc _
 have h3 : Var (((w.alloc (.cells #[.func (.func 96) #[] #[ptr bq]] 179)).alloc (.cells #[u64 0,i64 0,u32 0,u32 0,u32 0,u64 0,u64 0,u64 0,u32 0] 173)).alloc (.cells #[.bool false] 4)) w.heap.size (.func (.func 96) #[] #[ptr bq]) := (Var.new w (.func (.func 96) #[] #[ptr bq]) 179).ext (((Ext.refl _).alloc _).alloc _)
 have h4 : Blk (((w.alloc (.cells #[.func (.func 96) #[] #[ptr bq]] 179)).alloc (.cells #[u64 0, i64 0, u32 0, u32 0, u32 0, u64 0, u64 0, u64 0, u32 0] 173)).alloc (.cells #[.bool false] 4)) (w.heap.size + 1) (tlC tlZ) := by
  have := (Blk.new (w.alloc (.cells #[.func (.func 96) #[] #[ptr bq]] 179)) [u64 0,i64 0,u32 0,u32 0,u32 0,u64 0,u64 0,u64 0,u32 0] 173).ext ((Ext.refl _).alloc (.cells #[.bool false] 4))
  simp at this
  exact this
 have h5 : Var (((w.alloc (.cells #[.func (.func 96) #[] #[ptr bq]] 179)).alloc (.cells #[u64 0, i64 0, u32 0, u32 0, u32 0, u64 0, u64 0, u64 0, u32 0] 173)).alloc (.cells #[.bool false] 4)) (w.heap.size + 2) (.bool false) := by
  have := Var.new ((w.alloc (.cells #[.func (.func 96) #[] #[ptr bq]] 179)).alloc (.cells #[u64 tlZ.a,i64 tlZ.h,u32 tlZ.f.to',u32 tlZ.f.fr,u32 tlZ.f.to',u64 tlZ.f.sf,u64 tlZ.f.su,u64 tlZ.f.rate,u32 tlZ.n] 173)) (.bool false) 4
  simpa [tlZ] using this
 have hsz : (((w.alloc (.cells #[.func (.func 96) #[] #[ptr bq]] 179)).alloc (.cells #[u64 0,i64 0,u32 0,u32 0,u32 0,u64 0,u64 0,u64 0,u32 0] 173)).alloc (.cells #[.bool false] 4)).heap.size = w.heap.size + 3 := by simp
 simp
 generalize (((w.alloc (.cells #[.func (.func 96) #[] #[ptr bq]] 179)).alloc (.cells #[u64 0,i64 0,u32 0,u32 0,u32 0,u64 0,u64 0,u64 0,u32 0] 173)).alloc (.cells #[.bool false] 4)) = w3 at *
 have hq3 := hq.ext hE
 have hql := hq.lt
 refine WC_rangeFuncA (gf := gf) (first := fi) (caps := ca) (enc := fun x : Tl => [tlV x]) (by simp) hent (hit.ext hE hcap) (fun x => rfl) (fun k => k = w.heap.size + 1 ∨ k = w.heap.size + 2)
  (fun C pre W' => (∀ y ∈ pre,y.n ≠ q.to') ∧ (∀ k,C k ↔ k = w.heap.size + 1 ∨ k = w.heap.size + 2) ∧ Ext w3 W')
  (fun c C pre W' => c = .ret ∧ ∃ pre' x,pre = pre' ++ [x] ∧ (∀ y ∈ pre',y.n ≠ q.to') ∧ x.n = q.to' ∧ Blk W' (w.heap.size + 1) (tlC x) ∧ Var W' (w.heap.size + 2) (.bool true) ∧ Ext w W')
  (fun k hk => by have := hcap k hk; omega) (fun k hk => by omega) ?_ ?_ ⟨by simp,fun k => Iff.rfl,Ext.refl _⟩ (fun x B ρ' W' => ∃ q6,ρ' 6 = ptr q6 ∧ B ≤ q6 ∧ Blk W' q6 (tlC x) ∧ ρ' 3 = ptr w.heap.size ∧ ρ' 4 = ptr (w.heap.size + 1) ∧ ρ' 5 = ptr (w.heap.size + 2)) ?_ ?_ ?_ ?_ ?_
 ·rintro C pre W1 W2 ⟨a1,a2,a3⟩ hag
  exact ⟨a1,a2,⟨hag.os.trans a3.os,hag.tape.trans a3.tape,hag.out.trans a3.out,Nat.le_trans a3.size hag.size,fun i hi => (hag.blk i (Nat.lt_of_lt_of_le hi a3.size) (.inl hi)).trans (a3.blk i hi)⟩⟩
 ·rintro c C pre W1 W2 ⟨rfl,pre',x,rfl,a1,a2,a3,a4,a5⟩ hag
  exact ⟨rfl,pre',x,rfl,a1,a2,a3.agr hag (.inl (by omega)),a4.agr hag (.inl (by omega)),⟨hag.os.trans a5.os,hag.tape.trans a5.tape,hag.out.trans a5.out,Nat.le_trans a5.size hag.size,fun i hi => (hag.blk i (Nat.lt_of_lt_of_le hi a5.size) (.inl (by omega))).trans (a5.blk i hi)⟩⟩
 ·rintro x B ρ' W1 W2 ⟨q6,h1,h2,h3,h4⟩ hag
  exact ⟨q6,h1,h2,h3.agr hag h2,h4⟩
 ·intro lp x W1
  simp
  exact ⟨(Ext.refl W1).alloc _,Blk.new W1 (tlC x) 173⟩
 ·rintro lp C pre x B ρ' W1 hsp ⟨a1,a2,a3⟩ hl1 hl2 - hBW ⟨q6,e6,hB,hx,e3,e4,e5⟩
  simp [e3,e6,(h3.ext a3).cell,(hx).cell 0 _ rfl,(hx).cell 1 _ rfl,(hx).cell 2 _ rfl,(hx).cell 3 _ rfl,(hx).cell 4 _ rfl,(hx).cell 5 _ rfl,(hx).cell 6 _ rfl,(hx).cell 7 _ rfl,(hx).cell 8 _ rfl]
  refine FN.mono (best2_c (hq3.ext a3) x) ?_
  rintro _ W2 ⟨rfl,hE2⟩
  have hx2 := hx.ext hE2
  by_cases hn : x.n = q.to'
  ·have b4 := (h4.ext a3).ext hE2
   have b5 := (h5.ext a3).ext hE2
   rw [show decide (x.n = q.to') = true from decide_eq_true hn]
   simp [e4,e6,(hx2).cell 0 _ rfl,(hx2).cell 1 _ rfl,(hx2).cell 2 _ rfl,(hx2).cell 3 _ rfl,(hx2).cell 4 _ rfl,(hx2).cell 5 _ rfl,(hx2).cell 6 _ rfl,(hx2).cell 7 _ rfl,(hx2).cell 8 _ rfl]
   have hM9 := put9_mod W2 (w.heap.size + 1) (u64 x.a) (i64 x.h) (u32 x.f.to') (u32 x.f.fr) (u32 x.f.to') (u64 x.f.sf) (u64 x.f.su) (u64 x.f.rate) (u32 x.n)
   have c4 := put9_blk b4 rfl (u64 x.a) (i64 x.h) (u32 x.f.to') (u32 x.f.fr) (u32 x.f.to') (u64 x.f.sf) (u64 x.f.su) (u64 x.f.rate) (u32 x.n)
   have c5 := b5.mod hM9 (by omega)
   simp [(b4).cell 0 _ rfl,(b4).cell 1 _ rfl,(b4).cell 2 _ rfl,(b4).cell 3 _ rfl,(b4).cell 4 _ rfl,(b4).cell 5 _ rfl,(b4).cell 6 _ rfl,(b4).cell 7 _ rfl,(b4).cell 8 _ rfl,b4.thaw,cell_setCell,e5,b5.cell,b5.thaw]
   generalize World.setCell _ ⟨w.heap.size + 1,8,none⟩ _ = W9 at *
   have hMb := Mod.setCell (S := (· = w.heap.size + 2)) (Mod.refl _ W9) ⟨w.heap.size + 2,0,none⟩ (.bool true) (.inl rfl)
   have hMC : Mod C W1 (W9.setCell ⟨w.heap.size + 2,0,none⟩ (.bool true)) := (hE2.mod.trans (hM9.weaken fun k hk => (a2 k).2 (.inl hk))).trans (hMb.weaken fun k hk => (a2 k).2 (.inr hk))
   have hEW : Ext w (W9.setCell ⟨w.heap.size + 2,0,none⟩ (.bool true)) := ((hE.trans a3).mod (S := fun k => w.heap.size ≤ k)).trans (hMC.weaken fun k hk => by have := (a2 k).1 hk; omega) |>.ext fun _ h => h
   exact ⟨⟨pre,x,⟨rfl,rfl⟩,a1,hn,c4.mod hMb (by omega),c5.set _,hEW⟩,C,Own.of_mod hMC⟩
  ·simp [hn]
   refine ⟨C,⟨?_,a2,a3.trans hE2⟩,Own.of_mod hE2.mod⟩
   rintro y (hy | rfl)
   ·exact a1 y hy
   ·exact hn
 ·rintro C xs W1 hS ⟨a1,a2,a3⟩ hD
  have b4 := h4.ext a3
  have b5 := h5.ext a3
  have hM9 := put9_mod W1 (w.heap.size + 1) (u64 tlZ.a) (i64 tlZ.h) (u32 tlZ.f.to') (u32 tlZ.f.fr) (u32 tlZ.f.to') (u64 tlZ.f.sf) (u64 tlZ.f.su) (u64 tlZ.f.rate) (u32 tlZ.n)
  have c4 := put9_blk b4 rfl (u64 tlZ.a) (i64 tlZ.h) (u32 tlZ.f.to') (u32 tlZ.f.fr) (u32 tlZ.f.to') (u64 tlZ.f.sf) (u64 tlZ.f.su) (u64 tlZ.f.rate) (u32 tlZ.n)
  have c5 : Var _ (w.heap.size + 1 + 1) _ := b5.mod hM9 (by omega)
  have b5' : Var W1 (w.heap.size + 1 + 1) (.bool false) := b5
  simp [(b4).cell 0 _ rfl,(b4).cell 1 _ rfl,(b4).cell 2 _ rfl,(b4).cell 3 _ rfl,(b4).cell 4 _ rfl,(b4).cell 5 _ rfl,(b4).cell 6 _ rfl,(b4).cell 7 _ rfl,(b4).cell 8 _ rfl,b4.thaw,cell_setCell,b5'.cell,b5'.thaw]
  generalize World.setCell _ ⟨w.heap.size + 1,8,none⟩ _ = W9 at *
  have hMb := Mod.setCell (S := (· = w.heap.size + 1 + 1)) (Mod.refl _ W9) ⟨w.heap.size + 1 + 1,0,none⟩ (.bool false) (.inl rfl)
  have d4 := c4.mod hMb (by omega)
  have d5 := c5.set (.bool false)
  have hX : Mod (fun k => w.heap.size ≤ k) w (W9.setCell ⟨w.heap.size + 1 + 1,0,none⟩ (.bool false)) := ((hE.trans a3).mod.trans (hM9.weaken fun k hk => by omega)).trans (hMb.weaken fun k hk => by omega)
  have hDx : (W9.setCell ⟨w.heap.size + 1 + 1,0,none⟩ (.bool false)).heap[w3.heap.size]? = some (.deferred (some [])) := hMb.obj (hM9.obj hD (by omega)) (by omega)
  generalize W9.setCell ⟨w.heap.size + 1 + 1,0,none⟩ (.bool false) = Wx at *
  refine LV_mark hDx (by simp) ?_
  have hMp := Mod.putObj (w := Wx) w3.heap.size (.deferred none)
  have k4 := d4.mod hMp (by omega)
  have k5 := d5.mod hMp (by omega)
  simp [(k4).cell 0 _ rfl,(k4).cell 1 _ rfl,(k4).cell 2 _ rfl,(k4).cell 3 _ rfl,(k4).cell 4 _ rfl,(k4).cell 5 _ rfl,(k4).cell 6 _ rfl,(k4).cell 7 _ rfl,(k4).cell 8 _ rfl,k5.cell]
  exact ⟨.inl ⟨xs,hS,a1,rfl⟩,(hX.trans (hMp.weaken fun k hk => by have := hE.size; omega)).ext fun _ h => h⟩
 ·rintro c C pre W1 hsp ⟨rfl,pre',x,rfl,a1,a2,a3,a4,a5⟩ hD
  simp
  refine LV_mark hD (by simp) ?_
  have hMp := Mod.putObj (w := W1) w3.heap.size (.deferred none)
  have k4 := a3.mod hMp (by omega)
  have k5 : Var _ (w.heap.size + 1 + 1) _ := a4.mod hMp (by omega)
  simp [(k4).cell 0 _ rfl,(k4).cell 1 _ rfl,(k4).cell 2 _ rfl,(k4).cell 3 _ rfl,(k4).cell 4 _ rfl,(k4).cell 5 _ rfl,(k4).cell 6 _ rfl,(k4).cell 7 _ rfl,(k4).cell 8 _ rfl,k5.cell]
  exact ⟨.inr ⟨pre',x,hsp,a1,a2,rfl⟩,((a5.mod (S := fun k => w.heap.size ≤ k)).trans (hMp.weaken fun k hk => by have := hE.size; omega)).ext fun _ h => h⟩
end Go.Proofs