/-
 Contracts of the functions that the law reaches,step by step.
-/
import Derived.Test.YtdflcfoalhhjlaaGreatRuG
namespace Go.Proofs
open Pk
set_option maxRecDepth 10000
set_option maxHeartbeats 1000000 in
theorem vasked_n {w : World} {v : Value} {c : Ct} {n : Int} (qs : List Qn) (hs : Sl w 2 v qs.length (askCells qs)) (hb : qs.length ≤ 1000) (hf : ∀ q ∈ qs, ∃ f x y, q.f = .func f x y) :
  FN Tryz.prog 41 [.pointer none,ctV c,u64 n,v] w fun e w' => e = .returned (i64 1) ∧ Ext w w' := by
 refine FN_enter Tryz.func41 rfl rfl (by kernel_rfl) ?_
 have hE2 : Ext w ((w.alloc (.cells #[u32 c.fr,u32 c.to',u64 c.sf,u64 c.su,u64 c.rate] 64)).alloc (.cells #[u64 n] 27)) := ((Ext.refl w).alloc _).alloc _
 have hsz : ((w.alloc (.cells #[u32 c.fr,u32 c.to',u64 c.sf,u64 c.su,u64 c.rate] 64)).alloc (.cells #[u64 n] 27)).heap.size = w.heap.size + 1 + 1 := by simp
 simp
 generalize ((w.alloc (.cells #[u32 c.fr,u32 c.to',u64 c.sf,u64 c.su,u64 c.rate] 64)).alloc (.cells #[u64 n] 27)) = w1 at *
 refine WC_scope 0 _ rfl ?_
 let q2 : List Qn := [⟨.func (.func 51) #[.pointer none] #[],1,true⟩,⟨.func (.func 100) #[] #[ptr w.heap.size,ptr (w.heap.size + 1)],2,true⟩]
 have hE3 := (Ext.refl w1).alloc (.cells (askCells q2).toArray 115)
 have ho := own_made w1 (askCells q2) 115 2 2 rfl (by omega) w1.heap.size (Nat.le_refl _)
 have hs3 := (hs.ext hE2).ext hE3
 obtain ⟨v',w4,hr,ho4,hM4,-⟩ := append_own (P := Tryz.prog) (t := 185) (ty := 185) (e := 115) (s := 2) (by simp) (by simp) (by kernel_rfl) ho hs3 (ask_one hf) (by omega) (by simp)
 rw [← askCells_app] at ho4
 have hE14 : Ext w1 w4 := ((hE3.mod (S := fun k => w1.heap.size ≤ k)).trans (hM4.weaken fun i hi => by have := hi.2; simp only [slB] at this; omega)).ext fun _ h => h
 rw [show (askCells q2).toArray = #[.func (.func 51) #[.pointer none] #[],i64 1,.func (.func 100) #[] #[ptr w.heap.size,ptr (w.heap.size + 1)],i64 2] from rfl] at hr
 simp [hr]
 obtain ⟨Q,hQ⟩ : ∃ Q,Q = q2 ++ qs := ⟨_,rfl⟩
 rw [← hQ] at ho4
 have hQl : Q.length = 2 + qs.length := by rw [hQ]; simp [q2]; omega
 have hsQ : Sl w4 2 v' Q.length (askCells Q) := by rw [hQl]; exact sl_of_own ho4
 have hX4 := hE2.trans hE14
 have hq0 : Q[0]? = some ⟨.func (.func 51) #[.pointer none] #[],1,true⟩ := by rw [hQ]; rfl
 simp [hsQ.isLen]
 refine WC_loop (fun k ρ ds w' => k = 1 ∧ ρ 18 = v' ∧ ρ 19 = .int .i64 Q.length ∧ ρ 20 = .int .i64 0 ∧ ds = [] ∧ w' = w4) 1 ⟨rfl,by simp,by simp,by simp,rfl,rfl⟩ ?_
 rintro k ρ ds w5 ⟨rfl,e5,e6,e7,rfl,rfl⟩
 obtain ⟨c1,c2⟩ := askCells_at Q 0 _ hq0
 have d1 := hsQ.at_ _ _ c1
 have d2 := hsQ.at_ _ _ c2
 simp only [Nat.zero_mul,Nat.zero_add,Nat.add_zero] at d1 d2
 have hix := hsQ.index (P := Tryz.prog) (t := 185) (by simp) .i64 0 (by omega) (by omega) w5
 simp at hix
 have hlt : 0 < Q.length := by omega
 simp [e5,e6,e7,hlt,hix,d1,d2]
 have hE1 := (Ext.refl w5).alloc (.cells #[.func (.func 51) #[.pointer none] #[],i64 1] 115)
 have hcall : ∀ W,CV Tryz.prog (.func (.func 51) #[.pointer none] #[]) [] W fun e w' => e = .returned (.bool true) ∧ w' = W := fun W => FN.mono (vnone_n W) fun _ _ h => h
 refine CV.mono (hcall _) ?_
 rintro _ w6 ⟨rfl,rfl⟩
 simp
 exact hX4.trans hE1
theorem book_n (w : World) (c : Ct) (n : Int) : FN Tryz.prog 18 [.pointer none, ctV c, u64 n] w fun e w' => e = .returned (i64 1) ∧ Ext w w' := by
 refine FN_enter Tryz.func18 rfl rfl (by kernel_rfl) ?_
 have hE : Ext w (((w.alloc (.cells #[.pointer none] 46)).alloc (.cells #[u32 c.fr,u32 c.to',u64 c.sf,u64 c.su,u64 c.rate] 64)).alloc (.cells #[u64 n] 27)) := (((Ext.refl w).alloc _).alloc _).alloc _
 have v0 : Var (((w.alloc (.cells #[.pointer none] 46)).alloc (.cells #[u32 c.fr,u32 c.to',u64 c.sf,u64 c.su,u64 c.rate] 64)).alloc (.cells #[u64 n] 27)) w.heap.size (.pointer none) := (Var.new w (.pointer none) 46).ext (((Ext.refl _).alloc _).alloc _)
 have hsz : (((w.alloc (.cells #[.pointer none] 46)).alloc (.cells #[u32 c.fr,u32 c.to',u64 c.sf,u64 c.su,u64 c.rate] 64)).alloc (.cells #[u64 n] 27)).heap.size = w.heap.size + 1 + 1 + 1 := by simp
 simp [v0.cell]
 generalize (((w.alloc (.cells #[.pointer none] 46)).alloc (.cells #[u32 c.fr,u32 c.to',u64 c.sf,u64 c.su,u64 c.rate] 64)).alloc (.cells #[u64 n] 27)) = w1 at *
 let qs : List Qn := [⟨.func (.func 42) #[] #[ptr w.heap.size,ptr (w.heap.size + 1),ptr (w.heap.size + 1 + 1)],290,true⟩,⟨.func (.func 44) #[] #[ptr w.heap.size,ptr (w.heap.size + 1)],291,true⟩]
 have hsl := Sl.made w1 (askCells qs) 115 2 2 rfl
 have he3 := (Ext.refl w1).alloc (.cells (askCells qs).toArray 115)
 rw [hsz] at hsl
 refine FN.mono (vasked_n qs hsl (by simp [qs]) ?_) ?_
 ·intro x hx
  simp [qs] at hx
  rcases hx with rfl | rfl <;> exact ⟨_,_,_,rfl⟩
 ·rintro _ w3 ⟨rfl,h3⟩
  simp [beq_dec]
  exact hE.trans (he3.trans h3)
theorem take_c {w : World} {q r : Nat} {m : VM} {x : Wy} {n : Int} (hL : LedAt w q r m) (hm : vmOk m) (hc : CtOk x.f) (hn : 0 ≤ n) :
  FN Tryz.prog 20 [ptr q,wyV x,u64 n] w fun e w' => e = .returned (i64 (bookE m x.f n)) ∧ LedAt w' q r (bookM m x.f n) ∧ Mod (· = r) w w' := by
 refine FN_enter Tryz.func20 rfl rfl (by kernel_rfl) ?_
 have hE : Ext w (w.alloc (.cells #[u64 x.a,i64 x.h,u32 x.n,u32 x.f.fr,u32 x.f.to',u64 x.f.sf,u64 x.f.su,u64 x.f.rate] 66)) := (Ext.refl w).alloc _
 simp
 generalize (w.alloc (.cells #[u64 x.a,i64 x.h,u32 x.n,u32 x.f.fr,u32 x.f.to',u64 x.f.sf,u64 x.f.su,u64 x.f.rate] 66)) = w1 at *
 refine FN.mono (book_c (hL.ext hE) hm hc hn) ?_
 rintro _ w2 ⟨rfl,h1,h2⟩
 simp
 exact ⟨h1,hE.mod.trans h2⟩
theorem take_n (w : World) (x : Wy) (n : Int) : FN Tryz.prog 20 [.pointer none, wyV x, u64 n] w fun e w' => e = .returned (i64 1) ∧ Ext w w' := by
 refine FN_enter Tryz.func20 rfl rfl (by kernel_rfl) ?_
 have hE : Ext w (w.alloc (.cells #[u64 x.a,i64 x.h,u32 x.n,u32 x.f.fr,u32 x.f.to',u64 x.f.sf,u64 x.f.su,u64 x.f.rate] 66)) := (Ext.refl w).alloc _
 simp
 generalize (w.alloc (.cells #[u64 x.a,i64 x.h,u32 x.n,u32 x.f.fr,u32 x.f.to',u64 x.f.sf,u64 x.f.su,u64 x.f.rate] 66)) = w1 at *
 refine FN.mono (book_n w1 x.f n) ?_
 rintro _ w2 ⟨rfl,h1⟩
 simp
 exact hE.trans h1
end Go.Proofs
namespace Go.Proofs
open Pk
set_option maxRecDepth 10000
theorem u32Index {w : World} {v : Value} {l : List Int} (h : Sl w 1 v l.length (l.map u32)) (i : Nat) (hi : i < l.length) (W : World) : (Instr.indexAt 75 v (.int .i64 (i : Int))).run Tryz.prog W = .ok (.pointer (some ⟨slB v, slO v + i, none⟩)) W := by
 have := Sl.index (P := Tryz.prog) (t := 75) h (by simp) .i64 i (by omega) (by omega) W
 simpa using this
theorem u32Row {w : World} {v : Value} {l : List Int} (h : Sl w 1 v l.length (l.map u32)) {i : Nat} (hi : i < l.length) : w.cell? ⟨slB v, slO v + i, none⟩ = some (u32 l[i]) := by
 exact h.at_ i _ (by simp [hi])
theorem pindex_c {w : World} {v : Value} {l : List Int} (h : SlB w 1 v l.length (l.map u32)) (x : Int) (hl : l.length ≤ 1000) : FN Tryz.prog 109 [v, u32 x] w fun e w' => (∃ i : Int, e = .returned (i64 i) ∧ decide (0 ≤ i) = decide (x ∈ l)) ∧ w' = w := by
 refine FN_enter Tryz.func109 rfl rfl (by kernel_rfl) ?_
 have hlen := fun ty W => h.isLen (P := Tryz.prog) (t := 75) (by simp) ty W
 simp [hlen]
 refine WC_loop (fun k ρ ds w' => ∃ i : Nat,(k = l.length - i ∧ i ≤ l.length) ∧ (ρ 0 = v ∧ ρ 1 = u32 x ∧ ρ 7 = i64 l.length ∧ ρ 8 = i64 i) ∧ ds = [] ∧ w' = w ∧ ∀ j (hj : j < l.length),j < i → l[j] ≠ x) l.length ⟨0,⟨by simp,by simp⟩,by simp,rfl,rfl,fun j _ h => by omega⟩ ?_
 rintro k ρ ds w1 ⟨i,⟨rfl,hi⟩,⟨e0,e1,e7,e8⟩,rfl,rfl,hno⟩
 by_cases hlt : i < l.length
 ·have hs := h.toSl (by omega)
  have ix := u32Index hs i hlt
  have d := u32Row hs hlt
  simp [e0,e1,e7,e8,hlt,ix,d,beq_dec]
  by_cases hx : x = l[i]
  ·simp [hx]
  ·have hx' : ¬ l[i] = x := fun e => hx e.symm
   simp [hx,e0,e1,e7,e8]
   refine ⟨l.length - (i + 1),by omega,i + 1,⟨rfl,by omega⟩,by rw [wrap64 _ (by omega) (by omega)]; rfl,fun j hj hji => ?_⟩
   rcases Nat.lt_succ_iff_lt_or_eq.1 hji with h1 | rfl
   ·exact hno j hj h1
   ·exact hx'
 ·have : i = l.length := by omega
  subst this
  simp [e7,e8]
  intro hm
  obtain ⟨j,hj,e⟩ := List.getElem_of_mem hm
  exact hno j hj hj e
theorem pcontains_c {w : World} {v : Value} {l : List Int} (h : SlB w 1 v l.length (l.map u32)) (x : Int) (hl : l.length ≤ 1000) : FN Tryz.prog 59 [v, u32 x] w fun e w' => e = .returned (.bool (decide (x ∈ l))) ∧ w' = w := by
 refine FN_enter Tryz.func59 rfl rfl (by kernel_rfl) ?_
 simp
 refine FN.mono (pindex_c h x hl) ?_
 rintro _ w1 ⟨⟨i,rfl,hi⟩,rfl⟩
 simp [hi]
theorem pick1_c {w : World} {b : Nat} {v : Value} {l : List Int} (hb : Var w b v) (h : SlB w 1 v l.length (l.map u32)) (x : Wy) (hl : l.length ≤ 1000) : FN Tryz.prog 58 [wyV x, ptr b] w fun e w' => e = .returned (.bool (!decide (x.n ∈ l))) ∧ Ext w w' := by
 refine FN_enter Tryz.func58 rfl rfl (by kernel_rfl) ?_
 have hE : Ext w (w.alloc (.cells #[u64 x.a,i64 x.h,u32 x.n,u32 x.f.fr,u32 x.f.to',u64 x.f.sf,u64 x.f.su,u64 x.f.rate] 66)) := (Ext.refl w).alloc _
 obtain ⟨a,c,rfl⟩ := h.isSlice
 simp [hb.cell]
 generalize (w.alloc (.cells #[u64 x.a,i64 x.h,u32 x.n,u32 x.f.fr,u32 x.f.to',u64 x.f.sf,u64 x.f.su,u64 x.f.rate] 66)) = w1 at *
 refine FN.mono (pcontains_c (h.ext hE) x.n hl) ?_
 rintro _ w2 ⟨rfl,rfl⟩
 simp
 exact hE
def PickI (l : List Wy) (but : List Int) (i : Int) : Prop := (i = -1 ∧ ∀ x ∈ l,x.n ∈ but) ∨ ∃ k : Nat,∃ hk : k < l.length,i = k ∧ l[k].n ∉ but ∧ ∀ j (hj : j < l.length),j < k → l[j].n ∈ but
theorem pindexF_c {w : World} {b : Nat} {v vb : Value} {l : List Wy} {but : List Int} (hb : Var w b vb) (h : SlB w 1 vb but.length (but.map u32)) (hs : SlB w 8 v l.length (l.flatMap wyC)) (hl : but.length ≤ 1000) (hll : l.length ≤ 1000) :
  FN Tryz.prog 108 [v,.func (.func 58) #[] #[ptr b]] w fun e w' => (∃ i,e = .returned (i64 i) ∧ PickI l but i) ∧ Ext w w' := by
 refine FN_enter Tryz.func108 rfl rfl (by kernel_rfl) ?_
 have hlen := fun ty W => hs.isLen (P := Tryz.prog) (t := 48) (by simp) ty W
 simp [hlen]
 refine WC_loop (fun k ρ ds w' => ∃ i : Nat,(k = l.length - i ∧ i ≤ l.length) ∧ (ρ 0 = v ∧ ρ 1 = .func (.func 58) #[] #[ptr b] ∧ ρ 7 = i64 l.length ∧ ρ 8 = i64 i) ∧ ds = [] ∧ Ext w w' ∧ ∀ j (hj : j < l.length),j < i → l[j].n ∈ but) l.length ⟨0,⟨by simp,by simp⟩,by simp,rfl,Ext.refl w,fun j _ h => by omega⟩ ?_
 rintro k ρ ds w1 ⟨i,⟨rfl,hi⟩,⟨e0,e1,e7,e8⟩,rfl,hX,hno⟩
 by_cases hlt : i < l.length
 ·have hs1 := (hs.ext hX).toSl (by omega)
  have ix := wyIndex hs1 i hlt
  have r := wyRow hs1 hlt
  simp [e0,e1,e7,e8,hlt,ix,r.c0,r.c1,r.c2,r.c3,r.c4,r.c5,r.c6,r.c7]
  refine FN.mono (pick1_c (hb.ext hX) (h.ext hX) l[i] hl) ?_
  rintro _ w2 ⟨rfl,hE2⟩
  by_cases hx : l[i].n ∈ but
  ·simp [hx,e0,e1,e7,e8]
   refine ⟨l.length - (i + 1),by omega,i + 1,⟨rfl,by omega⟩,by rw [wrap64 _ (by omega) (by omega)]; rfl,hX.trans hE2,fun j hj hji => ?_⟩
   rcases Nat.lt_succ_iff_lt_or_eq.1 hji with h1 | rfl
   ·exact hno j hj h1
   ·exact hx
  ·simp [hx]
   exact ⟨.inr ⟨i,hlt,rfl,hx,hno⟩,hX.trans hE2⟩
 ·have : i = l.length := by omega
  subst this
  simp [e7,e8]
  exact ⟨.inl ⟨rfl,fun x hx => by obtain ⟨j,hj,rfl⟩ := List.getElem_of_mem hx; exact hno j hj hj⟩,hX⟩
def PickT (l : List Wy) (but : List Int) (x : Wy) (n : Int) : Prop := (x = wyZ ∧ n = 310 ∧ ∀ y ∈ l,y.n ∈ but) ∨ ∃ k : Nat,∃ hk : k < l.length,x = l[k] ∧ n = 0 ∧ l[k].n ∉ but ∧ ∀ j (hj : j < l.length),j < k → l[j].n ∈ but
theorem PickT.uniq {l : List Wy} {but : List Int} {x y : Wy} {n k : Int} (h : PickT l but x n) (h' : PickT l but y k) : x = y ∧ n = k := by
 rcases h with ⟨rfl, rfl, h⟩ | ⟨i, hi, rfl, rfl, h1, h2⟩
 ·rcases h' with ⟨rfl, rfl, -⟩ | ⟨j, hj, rfl, rfl, g1, g2⟩
  ·exact ⟨rfl,rfl⟩
  ·exact (g1 (h _ (List.getElem_mem hj))).elim
 ·rcases h' with ⟨rfl, rfl, g⟩ | ⟨j, hj, rfl, rfl, g1, g2⟩
  ·exact (h1 (g _ (List.getElem_mem hi))).elim
  ·rcases Nat.lt_trichotomy i j with e | e | e
   ·exact (h1 (g2 i hi e)).elim
   ·subst e; exact ⟨rfl,rfl⟩
   ·exact (g1 (h2 j hj e)).elim
theorem pfirst_c {w : World} {b : Nat} {v vb : Value} {l : List Wy} {but : List Int} (hb : Var w b vb) (h : SlB w 1 vb but.length (but.map u32)) (hs : SlB w 8 v l.length (l.flatMap wyC)) (hl : but.length ≤ 1000) (hll : l.length ≤ 1000) :
  FN Tryz.prog 57 [v,.func (.func 58) #[] #[ptr b]] w fun e w' => (∃ x n,e = .returned (.tuple #[wyV x,.bool (decide (n = (0 : Int)))]) ∧ PickT l but x n) ∧ Ext w w' := by
 refine FN_enter Tryz.func57 rfl rfl (by kernel_rfl) ?_
 have hE : Ext w (w.alloc (.cells #[u64 0,i64 0,u32 0,u32 0,u32 0,u64 0,u64 0,u64 0] 66)) := (Ext.refl w).alloc _
 have k1 : Blk (w.alloc (.cells #[u64 0, i64 0, u32 0, u32 0, u32 0, u64 0, u64 0, u64 0] 66)) w.heap.size (wyC wyZ) := by
  have := Blk.new w (wyC wyZ) 66
  simp [wyZ] at this
  exact this
 simp
 generalize (w.alloc (.cells #[u64 0,i64 0,u32 0,u32 0,u32 0,u64 0,u64 0,u64 0] 66)) = w1 at *
 refine FN.mono (pindexF_c (hb.ext hE) (h.ext hE) (hs.ext hE) hl hll) ?_
 rintro _ w2 ⟨⟨i,rfl,hi⟩,hE2⟩
 have k2 := k1.ext hE2
 have hX := hE.trans hE2
 rcases hi with ⟨rfl, hi⟩ | ⟨k, hk, rfl, h1, h2⟩
 ·have hM8 := put8_mod w2 w.heap.size (u64 0) (i64 0) (u32 0) (u32 0) (u32 0) (u64 0) (u64 0) (u64 0)
  have kZ := put8_blk k2 rfl (u64 0) (i64 0) (u32 0) (u32 0) (u32 0) (u64 0) (u64 0) (u64 0)
  have k2' := k2
  simp only [wyZ] at k2'
  simp [(k2').cell 0 _ rfl,(k2').cell 1 _ rfl,(k2').cell 2 _ rfl,(k2').cell 3 _ rfl,(k2').cell 4 _ rfl,(k2').cell 5 _ rfl,(k2').cell 6 _ rfl,(k2').cell 7 _ rfl,k2.thaw,cell_setCell]
  generalize World.setCell _ ⟨w.heap.size,7,none⟩ _ = W8 at *
  refine ⟨⟨wyZ,310,⟨⟨rfl,rfl,rfl,rfl,rfl,rfl,rfl,rfl⟩,by decide⟩,.inl ⟨rfl,rfl,hi⟩⟩,((hX.mod (S := fun k => w.heap.size ≤ k)).trans (hM8.weaken fun k hk => by omega)).ext fun _ h => h⟩
 ·have hs1 := (hs.ext hX).toSl (by omega)
  have ix := wyIndex hs1 k hk
  have r := wyRow hs1 hk
  have hM8 := put8_mod w2 w.heap.size (u64 l[k].a) (i64 l[k].h) (u32 l[k].n) (u32 l[k].f.fr) (u32 l[k].f.to') (u64 l[k].f.sf) (u64 l[k].f.su) (u64 l[k].f.rate)
  simp [ix,r.c0,r.c1,r.c2,r.c3,r.c4,r.c5,r.c6,r.c7,(k2).cell 0 _ rfl,(k2).cell 1 _ rfl,(k2).cell 2 _ rfl,(k2).cell 3 _ rfl,(k2).cell 4 _ rfl,(k2).cell 5 _ rfl,(k2).cell 6 _ rfl,(k2).cell 7 _ rfl,k2.thaw,cell_setCell]
  generalize World.setCell _ ⟨w.heap.size,7,none⟩ _ = W8 at *
  refine ⟨⟨l[k],0,⟨⟨rfl,rfl,rfl,rfl,rfl,rfl,rfl,rfl⟩,by decide⟩,.inr ⟨k,hk,rfl,rfl,h1,h2⟩⟩,((hX.mod (S := fun k => w.heap.size ≤ k)).trans (hM8.weaken fun k hk => by omega)).ext fun _ h => h⟩
end Go.Proofs
namespace Go.Proofs
open Pk
set_option maxRecDepth 10000
theorem rpick_c {w : World} {v vb : Value} {l : List Wy} {but : List Int} (h : SlB w 1 vb but.length (but.map u32)) (hs : SlB w 8 v l.length (l.flatMap wyC)) (hl : but.length ≤ 1000) (hll : l.length ≤ 1000) :
  FN Tryz.prog 24 [v,vb] w fun e w' => (∃ x n,e = .returned (.tuple #[wyV x,i64 n]) ∧ PickT l but x n) ∧ Ext w w' := by
 refine FN_enter Tryz.func24 rfl rfl (by kernel_rfl) ?_
 obtain ⟨ba,bc,rfl⟩ := h.isSlice
 have hE : Ext w ((w.alloc (.cells #[.slice ba but.length bc] 75)).alloc (.cells #[u64 0,i64 0,u32 0,u32 0,u32 0,u64 0,u64 0,u64 0] 66)) := ((Ext.refl w).alloc _).alloc _
 have hb : Var ((w.alloc (.cells #[.slice ba but.length bc] 75)).alloc (.cells #[u64 0,i64 0,u32 0,u32 0,u32 0,u64 0,u64 0,u64 0] 66)) w.heap.size (.slice ba but.length bc) := (Var.new w _ 75).ext ((Ext.refl _).alloc _)
 have k1 : Blk ((w.alloc (.cells #[.slice ba but.length bc] 75)).alloc (.cells #[u64 0, i64 0, u32 0, u32 0, u32 0, u64 0, u64 0, u64 0] 66)) (w.heap.size + 1) (wyC wyZ) := by
  have := Blk.new (w.alloc (.cells #[.slice ba but.length bc] 75)) (wyC wyZ) 66
  simp [wyZ] at this
  exact this
 have hsz : ((w.alloc (.cells #[.slice ba but.length bc] 75)).alloc (.cells #[u64 0,i64 0,u32 0,u32 0,u32 0,u64 0,u64 0,u64 0] 66)).heap.size = w.heap.size + 1 + 1 := by simp
 simp
 generalize ((w.alloc (.cells #[.slice ba but.length bc] 75)).alloc (.cells #[u64 0,i64 0,u32 0,u32 0,u32 0,u64 0,u64 0,u64 0] 66)) = w1 at *
 refine FN.mono (pfirst_c hb (h.ext hE) (hs.ext hE) hl hll) ?_
 rintro _ w2 ⟨⟨x,n,rfl,hT⟩,hE2⟩
 have hE3 : Ext w2 (w2.alloc (.cells #[u64 x.a,i64 x.h,u32 x.n,u32 x.f.fr,u32 x.f.to',u64 x.f.sf,u64 x.f.su,u64 x.f.rate] 66)) := (Ext.refl w2).alloc _
 have kx : Blk (w2.alloc (.cells #[u64 x.a,i64 x.h,u32 x.n,u32 x.f.fr,u32 x.f.to',u64 x.f.sf,u64 x.f.su,u64 x.f.rate] 66)) w2.heap.size (wyC x) := Blk.new w2 (wyC x) 66
 have hX := (hE.trans hE2).trans hE3
 simp
 have k3 := (k1.ext hE2).ext hE3
 generalize (w2.alloc (.cells #[u64 x.a,i64 x.h,u32 x.n,u32 x.f.fr,u32 x.f.to',u64 x.f.sf,u64 x.f.su,u64 x.f.rate] 66)) = w3 at *
 have hn : n = 0 ∨ (x = wyZ ∧ n = 310) := by
  rcases hT with ⟨h1, h2, -⟩ | ⟨k, hk, -, h2, -⟩
  ·exact .inr ⟨h1,h2⟩
  ·exact .inl h2
 rcases hn with rfl | ⟨rfl, rfl⟩
 ·have hM8 := put8_mod w3 (w.heap.size + 1) (u64 x.a) (i64 x.h) (u32 x.n) (u32 x.f.fr) (u32 x.f.to') (u64 x.f.sf) (u64 x.f.su) (u64 x.f.rate)
  simp [(kx).cell 0 _ rfl,(kx).cell 1 _ rfl,(kx).cell 2 _ rfl,(kx).cell 3 _ rfl,(kx).cell 4 _ rfl,(kx).cell 5 _ rfl,(kx).cell 6 _ rfl,(kx).cell 7 _ rfl,(k3).cell 0 _ rfl,(k3).cell 1 _ rfl,(k3).cell 2 _ rfl,(k3).cell 3 _ rfl,(k3).cell 4 _ rfl,(k3).cell 5 _ rfl,(k3).cell 6 _ rfl,(k3).cell 7 _ rfl,k3.thaw,cell_setCell]
  generalize World.setCell _ ⟨w.heap.size + 1,7,none⟩ _ = W8 at *
  exact ⟨⟨x,0,⟨⟨rfl,rfl,rfl,rfl,rfl,rfl,rfl,rfl⟩,rfl⟩,hT⟩,((hX.mod (S := fun k => w.heap.size ≤ k)).trans (hM8.weaken fun k hk => by omega)).ext fun _ h => h⟩
 ·have hM8 := put8_mod w3 (w.heap.size + 1) (u64 0) (i64 0) (u32 0) (u32 0) (u32 0) (u64 0) (u64 0) (u64 0)
  simp [(k3).cell 0 _ rfl,(k3).cell 1 _ rfl,(k3).cell 2 _ rfl,(k3).cell 3 _ rfl,(k3).cell 4 _ rfl,(k3).cell 5 _ rfl,(k3).cell 6 _ rfl,(k3).cell 7 _ rfl,k3.thaw,cell_setCell]
  generalize World.setCell _ ⟨w.heap.size + 1,7,none⟩ _ = W8 at *
  exact ⟨⟨wyZ,310,⟨⟨rfl,rfl,rfl,rfl,rfl,rfl,rfl,rfl⟩,rfl⟩,hT⟩,((hX.mod (S := fun k => w.heap.size ≤ k)).trans (hM8.weaken fun k hk => by omega)).ext fun _ h => h⟩
end Go.Proofs