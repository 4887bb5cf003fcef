/-
 Contracts of the functions that the law reaches,step by step.
-/
import Derived.Test.YtdflcfoalhhjlaaGreatRuG
namespace Go.Proofs
open Pk
set_option maxRecDepth 10000
theorem take_c {w : World} {q r : Nat} {m : VM} {x : Wy} {n : Int} (hL : LedAt w q r m) (hm : vmOk m) (hc : CtOk x.f) (hn : 0 ≤ n) :
  FN Tryz.prog 20 [ptr q,wyV x,u64 n] w fun e w' => e = .returned (i64 (bookE m x.f n)) ∧ LedAt w' q r (bookM m x.f n) ∧ Mod (· = r) w w' := by
 refine FN_enter Tryz.func20 rfl rfl (by kernel_rfl) ?_
 have hE : Ext w (w.alloc (.cells #[u64 x.a,i64 x.h,u32 x.n,u32 x.f.fr,u32 x.f.to',u64 x.f.sf,u64 x.f.su,u64 x.f.rate] 66)) := (Ext.refl w).alloc _
 simp
 generalize (w.alloc (.cells #[u64 x.a,i64 x.h,u32 x.n,u32 x.f.fr,u32 x.f.to',u64 x.f.sf,u64 x.f.su,u64 x.f.rate] 66)) = w1 at *
 refine FN.mono (book_c (hL.ext hE) hm hc hn) ?_
 rintro _ w2 ⟨rfl,h1,h2⟩
 simp
 exact ⟨h1,hE.mod.trans h2⟩
end Go.Proofs
namespace Go.Proofs
open Pk
set_option maxRecDepth 10000
theorem u32Index {w : World} {v : Value} {l : List Int} (h : Sl w 1 v l.length (l.map u32)) (i : Nat) (hi : i < l.length) (W : World) : (Instr.indexAt 75 v (.int .i64 (i : Int))).run Tryz.prog W = .ok (.pointer (some ⟨slB v, slO v + i, none⟩)) W := by
 have := Sl.index (P := Tryz.prog) (t := 75) h (by simp) .i64 i (by omega) (by omega) W
 simpa using this
theorem u32Row {w : World} {v : Value} {l : List Int} (h : Sl w 1 v l.length (l.map u32)) {i : Nat} (hi : i < l.length) : w.cell? ⟨slB v, slO v + i, none⟩ = some (u32 l[i]) := by
 exact h.at_ i _ (by simp [hi])
theorem pindex_c {w : World} {v : Value} {l : List Int} (h : SlB w 1 v l.length (l.map u32)) (x : Int) (hl : l.length ≤ 1000) : FN Tryz.prog 109 [v, u32 x] w fun e w' => (∃ i : Int, e = .returned (i64 i) ∧ decide (0 ≤ i) = decide (x ∈ l)) ∧ w' = w := by
 refine FN_enter Tryz.func109 rfl rfl (by kernel_rfl) ?_
 have hlen := fun ty W => h.isLen (P := Tryz.prog) (t := 75) (by simp) ty W
 simp [hlen]
 refine WC_loop (fun k ρ ds w' => ∃ i : Nat,(k = l.length - i ∧ i ≤ l.length) ∧ (ρ 0 = v ∧ ρ 1 = u32 x ∧ ρ 7 = i64 l.length ∧ ρ 8 = i64 i) ∧ ds = [] ∧ w' = w ∧ ∀ j (hj : j < l.length),j < i → l[j] ≠ x) l.length ⟨0,⟨by simp,by simp⟩,by simp,rfl,rfl,fun j _ h => by omega⟩ ?_
 rintro k ρ ds w1 ⟨i,⟨rfl,hi⟩,⟨e0,e1,e7,e8⟩,rfl,rfl,hno⟩
 by_cases hlt : i < l.length
 ·have hs := h.toSl (by omega)
  have ix := u32Index hs i hlt
  have d := u32Row hs hlt
  simp [e0,e1,e7,e8,hlt,ix,d,beq_dec]
  by_cases hx : x = l[i]
  ·simp [hx]
  ·have hx' : ¬ l[i] = x := fun e => hx e.symm
   simp [hx,e0,e1,e7,e8]
   refine ⟨l.length - (i + 1),by omega,i + 1,⟨rfl,by omega⟩,by rw [wrap64 _ (by omega) (by omega)]; rfl,fun j hj hji => ?_⟩
   rcases Nat.lt_succ_iff_lt_or_eq.1 hji with h1 | rfl
   ·exact hno j hj h1
   ·exact hx'
 ·have : i = l.length := by omega
  subst this
  simp [e7,e8]
  intro hm
  obtain ⟨j,hj,e⟩ := List.getElem_of_mem hm
  exact hno j hj hj e
theorem pcontains_c {w : World} {v : Value} {l : List Int} (h : SlB w 1 v l.length (l.map u32)) (x : Int) (hl : l.length ≤ 1000) : FN Tryz.prog 59 [v, u32 x] w fun e w' => e = .returned (.bool (decide (x ∈ l))) ∧ w' = w := by
 refine FN_enter Tryz.func59 rfl rfl (by kernel_rfl) ?_
 simp
 refine FN.mono (pindex_c h x hl) ?_
 rintro _ w1 ⟨⟨i,rfl,hi⟩,rfl⟩
 simp [hi]
theorem pick1_c {w : World} {b : Nat} {v : Value} {l : List Int} (hb : Var w b v) (h : SlB w 1 v l.length (l.map u32)) (x : Wy) (hl : l.length ≤ 1000) : FN Tryz.prog 58 [wyV x, ptr b] w fun e w' => e = .returned (.bool (!decide (x.n ∈ l))) ∧ Ext w w' := by
 refine FN_enter Tryz.func58 rfl rfl (by kernel_rfl) ?_
 have hE : Ext w (w.alloc (.cells #[u64 x.a,i64 x.h,u32 x.n,u32 x.f.fr,u32 x.f.to',u64 x.f.sf,u64 x.f.su,u64 x.f.rate] 66)) := (Ext.refl w).alloc _
 obtain ⟨a,c,rfl⟩ := h.isSlice
 simp [hb.cell]
 generalize (w.alloc (.cells #[u64 x.a,i64 x.h,u32 x.n,u32 x.f.fr,u32 x.f.to',u64 x.f.sf,u64 x.f.su,u64 x.f.rate] 66)) = w1 at *
 refine FN.mono (pcontains_c (h.ext hE) x.n hl) ?_
 rintro _ w2 ⟨rfl,rfl⟩
 simp
 exact hE
def PickI (l : List Wy) (but : List Int) (i : Int) : Prop := (i = -1 ∧ ∀ x ∈ l,x.n ∈ but) ∨ ∃ k : Nat,∃ hk : k < l.length,i = k ∧ l[k].n ∉ but ∧ ∀ j (hj : j < l.length),j < k → l[j].n ∈ but
theorem pindexF_c {w : World} {b : Nat} {v vb : Value} {l : List Wy} {but : List Int} (hb : Var w b vb) (h : SlB w 1 vb but.length (but.map u32)) (hs : SlB w 8 v l.length (l.flatMap wyC)) (hl : but.length ≤ 1000) (hll : l.length ≤ 1000) :
  FN Tryz.prog 108 [v,.func (.func 58) #[] #[ptr b]] w fun e w' => (∃ i,e = .returned (i64 i) ∧ PickI l but i) ∧ Ext w w' := by
 refine FN_enter Tryz.func108 rfl rfl (by kernel_rfl) ?_
 have hlen := fun ty W => hs.isLen (P := Tryz.prog) (t := 48) (by simp) ty W
 simp [hlen]
 refine WC_loop (fun k ρ ds w' => ∃ i : Nat,(k = l.length - i ∧ i ≤ l.length) ∧ (ρ 0 = v ∧ ρ 1 = .func (.func 58) #[] #[ptr b] ∧ ρ 7 = i64 l.length ∧ ρ 8 = i64 i) ∧ ds = [] ∧ Ext w w' ∧ ∀ j (hj : j < l.length),j < i → l[j].n ∈ but) l.length ⟨0,⟨by simp,by simp⟩,by simp,rfl,Ext.refl w,fun j _ h => by omega⟩ ?_
 rintro k ρ ds w1 ⟨i,⟨rfl,hi⟩,⟨e0,e1,e7,e8⟩,rfl,hX,hno⟩
 by_cases hlt : i < l.length
 ·have hs1 := (hs.ext hX).toSl (by omega)
  have ix := wyIndex hs1 i hlt
  have r := wyRow hs1 hlt
  simp [e0,e1,e7,e8,hlt,ix,r.c0,r.c1,r.c2,r.c3,r.c4,r.c5,r.c6,r.c7]
  refine FN.mono (pick1_c (hb.ext hX) (h.ext hX) l[i] hl) ?_
  rintro _ w2 ⟨rfl,hE2⟩
  by_cases hx : l[i].n ∈ but
  ·simp [hx,e0,e1,e7,e8]
   refine ⟨l.length - (i + 1),by omega,i + 1,⟨rfl,by omega⟩,by rw [wrap64 _ (by omega) (by omega)]; rfl,hX.trans hE2,fun j hj hji => ?_⟩
   rcases Nat.lt_succ_iff_lt_or_eq.1 hji with h1 | rfl
   ·exact hno j hj h1
   ·exact hx
  ·simp [hx]
   exact ⟨.inr ⟨i,hlt,rfl,hx,hno⟩,hX.trans hE2⟩
 ·have : i = l.length := by omega
  subst this
  simp [e7,e8]
  exact ⟨.inl ⟨rfl,fun x hx => by obtain ⟨j,hj,rfl⟩ := List.getElem_of_mem hx; exact hno j hj hj⟩,hX⟩
def PickT (l : List Wy) (but : List Int) (x : Wy) (n : Int) : Prop := (x = wyZ ∧ n = 310 ∧ ∀ y ∈ l,y.n ∈ but) ∨ ∃ k : Nat,∃ hk : k < l.length,x = l[k] ∧ n = 0 ∧ l[k].n ∉ but ∧ ∀ j (hj : j < l.length),j < k → l[j].n ∈ but
theorem PickT.uniq {l : List Wy} {but : List Int} {x y : Wy} {n k : Int} (h : PickT l but x n) (h' : PickT l but y k) : x = y ∧ n = k := by
 rcases h with ⟨rfl, rfl, h⟩ | ⟨i, hi, rfl, rfl, h1, h2⟩
 ·rcases h' with ⟨rfl, rfl, -⟩ | ⟨j, hj, rfl, rfl, g1, g2⟩
  ·exact ⟨rfl,rfl⟩
  ·exact (g1 (h _ (List.getElem_mem hj))).elim
 ·rcases h' with ⟨rfl, rfl, g⟩ | ⟨j, hj, rfl, rfl, g1, g2⟩
  ·exact (h1 (g _ (List.getElem_mem hi))).elim
  ·rcases Nat.lt_trichotomy i j with e | e | e
   ·exact (h1 (g2 i hi e)).elim
   ·subst e; exact ⟨rfl,rfl⟩
   ·exact (g1 (h2 j hj e)).elim
theorem pfirst_c {w : World} {b : Nat} {v vb : Value} {l : List Wy} {but : List Int} (hb : Var w b vb) (h : SlB w 1 vb but.length (but.map u32)) (hs : SlB w 8 v l.length (l.flatMap wyC)) (hl : but.length ≤ 1000) (hll : l.length ≤ 1000) :
  FN Tryz.prog 57 [v,.func (.func 58) #[] #[ptr b]] w fun e w' => (∃ x n,e = .returned (.tuple #[wyV x,.bool (decide (n = (0 : Int)))]) ∧ PickT l but x n) ∧ Ext w w' := by
 refine FN_enter Tryz.func57 rfl rfl (by kernel_rfl) ?_
 have hE : Ext w (w.alloc (.cells #[u64 0,i64 0,u32 0,u32 0,u32 0,u64 0,u64 0,u64 0] 66)) := (Ext.refl w).alloc _
 have k1 : Blk (w.alloc (.cells #[u64 0, i64 0, u32 0, u32 0, u32 0, u64 0, u64 0, u64 0] 66)) w.heap.size (wyC wyZ) := by
  have := Blk.new w (wyC wyZ) 66
  simp [wyZ] at this
  exact this
 simp
 generalize (w.alloc (.cells #[u64 0,i64 0,u32 0,u32 0,u32 0,u64 0,u64 0,u64 0] 66)) = w1 at *
 refine FN.mono (pindexF_c (hb.ext hE) (h.ext hE) (hs.ext hE) hl hll) ?_
 rintro _ w2 ⟨⟨i,rfl,hi⟩,hE2⟩
 have k2 := k1.ext hE2
 have hX := hE.trans hE2
 rcases hi with ⟨rfl, hi⟩ | ⟨k, hk, rfl, h1, h2⟩
 ·have hM8 := put8_mod w2 w.heap.size (u64 0) (i64 0) (u32 0) (u32 0) (u32 0) (u64 0) (u64 0) (u64 0)
  have kZ := put8_blk k2 rfl (u64 0) (i64 0) (u32 0) (u32 0) (u32 0) (u64 0) (u64 0) (u64 0)
  have k2' := k2
  simp only [wyZ] at k2'
  simp [(k2').cell 0 _ rfl,(k2').cell 1 _ rfl,(k2').cell 2 _ rfl,(k2').cell 3 _ rfl,(k2').cell 4 _ rfl,(k2').cell 5 _ rfl,(k2').cell 6 _ rfl,(k2').cell 7 _ rfl,k2.thaw,cell_setCell]
  generalize World.setCell _ ⟨w.heap.size,7,none⟩ _ = W8 at *
  refine ⟨⟨wyZ,310,⟨⟨rfl,rfl,rfl,rfl,rfl,rfl,rfl,rfl⟩,by decide⟩,.inl ⟨rfl,rfl,hi⟩⟩,((hX.mod (S := fun k => w.heap.size ≤ k)).trans (hM8.weaken fun k hk => by omega)).ext fun _ h => h⟩
 ·have hs1 := (hs.ext hX).toSl (by omega)
  have ix := wyIndex hs1 k hk
  have r := wyRow hs1 hk
  have hM8 := put8_mod w2 w.heap.size (u64 l[k].a) (i64 l[k].h) (u32 l[k].n) (u32 l[k].f.fr) (u32 l[k].f.to') (u64 l[k].f.sf) (u64 l[k].f.su) (u64 l[k].f.rate)
  simp [ix,r.c0,r.c1,r.c2,r.c3,r.c4,r.c5,r.c6,r.c7,(k2).cell 0 _ rfl,(k2).cell 1 _ rfl,(k2).cell 2 _ rfl,(k2).cell 3 _ rfl,(k2).cell 4 _ rfl,(k2).cell 5 _ rfl,(k2).cell 6 _ rfl,(k2).cell 7 _ rfl,k2.thaw,cell_setCell]
  generalize World.setCell _ ⟨w.heap.size,7,none⟩ _ = W8 at *
  refine ⟨⟨l[k],0,⟨⟨rfl,rfl,rfl,rfl,rfl,rfl,rfl,rfl⟩,by decide⟩,.inr ⟨k,hk,rfl,rfl,h1,h2⟩⟩,((hX.mod (S := fun k => w.heap.size ≤ k)).trans (hM8.weaken fun k hk => by omega)).ext fun _ h => h⟩
end Go.Proofs
namespace Go.Proofs
open Pk
set_option maxRecDepth 10000
theorem rpick_c {w : World} {v vb : Value} {l : List Wy} {but : List Int} (h : SlB w 1 vb but.length (but.map u32)) (hs : SlB w 8 v l.length (l.flatMap wyC)) (hl : but.length ≤ 1000) (hll : l.length ≤ 1000) :
  FN Tryz.prog 24 [v,vb] w fun e w' => (∃ x n,e = .returned (.tuple #[wyV x,i64 n]) ∧ PickT l but x n) ∧ Ext w w' := by
 refine FN_enter Tryz.func24 rfl rfl (by kernel_rfl) ?_
 obtain ⟨ba,bc,rfl⟩ := h.isSlice
 have hE : Ext w ((w.alloc (.cells #[.slice ba but.length bc] 75)).alloc (.cells #[u64 0,i64 0,u32 0,u32 0,u32 0,u64 0,u64 0,u64 0] 66)) := ((Ext.refl w).alloc _).alloc _
 have hb : Var ((w.alloc (.cells #[.slice ba but.length bc] 75)).alloc (.cells #[u64 0,i64 0,u32 0,u32 0,u32 0,u64 0,u64 0,u64 0] 66)) w.heap.size (.slice ba but.length bc) := (Var.new w _ 75).ext ((Ext.refl _).alloc _)
 have k1 : Blk ((w.alloc (.cells #[.slice ba but.length bc] 75)).alloc (.cells #[u64 0, i64 0, u32 0, u32 0, u32 0, u64 0, u64 0, u64 0] 66)) (w.heap.size + 1) (wyC wyZ) := by
  have := Blk.new (w.alloc (.cells #[.slice ba but.length bc] 75)) (wyC wyZ) 66
  simp [wyZ] at this
  exact this
 have hsz : ((w.alloc (.cells #[.slice ba but.length bc] 75)).alloc (.cells #[u64 0,i64 0,u32 0,u32 0,u32 0,u64 0,u64 0,u64 0] 66)).heap.size = w.heap.size + 1 + 1 := by simp
 simp
 generalize ((w.alloc (.cells #[.slice ba but.length bc] 75)).alloc (.cells #[u64 0,i64 0,u32 0,u32 0,u32 0,u64 0,u64 0,u64 0] 66)) = w1 at *
 refine FN.mono (pfirst_c hb (h.ext hE) (hs.ext hE) hl hll) ?_
 rintro _ w2 ⟨⟨x,n,rfl,hT⟩,hE2⟩
 have hE3 : Ext w2 (w2.alloc (.cells #[u64 x.a,i64 x.h,u32 x.n,u32 x.f.fr,u32 x.f.to',u64 x.f.sf,u64 x.f.su,u64 x.f.rate] 66)) := (Ext.refl w2).alloc _
 have kx : Blk (w2.alloc (.cells #[u64 x.a,i64 x.h,u32 x.n,u32 x.f.fr,u32 x.f.to',u64 x.f.sf,u64 x.f.su,u64 x.f.rate] 66)) w2.heap.size (wyC x) := Blk.new w2 (wyC x) 66
 have hX := (hE.trans hE2).trans hE3
 simp
 have k3 := (k1.ext hE2).ext hE3
 generalize (w2.alloc (.cells #[u64 x.a,i64 x.h,u32 x.n,u32 x.f.fr,u32 x.f.to',u64 x.f.sf,u64 x.f.su,u64 x.f.rate] 66)) = w3 at *
 have hn : n = 0 ∨ (x = wyZ ∧ n = 310) := by
  rcases hT with ⟨h1, h2, -⟩ | ⟨k, hk, -, h2, -⟩
  ·exact .inr ⟨h1,h2⟩
  ·exact .inl h2
 rcases hn with rfl | ⟨rfl, rfl⟩
 ·have hM8 := put8_mod w3 (w.heap.size + 1) (u64 x.a) (i64 x.h) (u32 x.n) (u32 x.f.fr) (u32 x.f.to') (u64 x.f.sf) (u64 x.f.su) (u64 x.f.rate)
  simp [(kx).cell 0 _ rfl,(kx).cell 1 _ rfl,(kx).cell 2 _ rfl,(kx).cell 3 _ rfl,(kx).cell 4 _ rfl,(kx).cell 5 _ rfl,(kx).cell 6 _ rfl,(kx).cell 7 _ rfl,(k3).cell 0 _ rfl,(k3).cell 1 _ rfl,(k3).cell 2 _ rfl,(k3).cell 3 _ rfl,(k3).cell 4 _ rfl,(k3).cell 5 _ rfl,(k3).cell 6 _ rfl,(k3).cell 7 _ rfl,k3.thaw,cell_setCell]
  generalize World.setCell _ ⟨w.heap.size + 1,7,none⟩ _ = W8 at *
  exact ⟨⟨x,0,⟨⟨rfl,rfl,rfl,rfl,rfl,rfl,rfl,rfl⟩,rfl⟩,hT⟩,((hX.mod (S := fun k => w.heap.size ≤ k)).trans (hM8.weaken fun k hk => by omega)).ext fun _ h => h⟩
 ·have hM8 := put8_mod w3 (w.heap.size + 1) (u64 0) (i64 0) (u32 0) (u32 0) (u32 0) (u64 0) (u64 0) (u64 0)
  simp [(k3).cell 0 _ rfl,(k3).cell 1 _ rfl,(k3).cell 2 _ rfl,(k3).cell 3 _ rfl,(k3).cell 4 _ rfl,(k3).cell 5 _ rfl,(k3).cell 6 _ rfl,(k3).cell 7 _ rfl,k3.thaw,cell_setCell]
  generalize World.setCell _ ⟨w.heap.size + 1,7,none⟩ _ = W8 at *
  exact ⟨⟨wyZ,310,⟨⟨rfl,rfl,rfl,rfl,rfl,rfl,rfl,rfl⟩,rfl⟩,hT⟩,((hX.mod (S := fun k => w.heap.size ≤ k)).trans (hM8.weaken fun k hk => by omega)).ext fun _ h => h⟩
def PInv (w : World) (A : Nat) (v vb : Value) (l : List Wy) (but : List Int) (k : Nat) (ρ : Env) (ds : List Deferred) (W : World) : Prop :=
 ∃ i : Nat,(k = l.length - i ∧ i ≤ l.length) ∧ (ρ 0 = v ∧ ρ 1 = vb ∧ ρ 4 = ptr A ∧ ρ 6 = i64 i) ∧ ds = [] ∧ Ext w W ∧ ∀ j (hj : j < l.length),j < i → l[j].n ∈ but
def PInv2 (w : World) (A : Nat) (v vb : Value) (but : List Int) (x i : Int) (k : Nat) (ρ : Env) (ds : List Deferred) (W : World) : Prop :=
 ∃ (j : Nat) (b : Bool),(k = but.length - j ∧ j ≤ but.length) ∧ (ρ 0 = v ∧ ρ 1 = vb ∧ ρ 4 = ptr A ∧ ρ 6 = i64 i ∧ ρ 7 = .bool b ∧ ρ 8 = i64 j) ∧ ds = [] ∧ Ext w W ∧ (b = true ↔ ∀ (y : Nat) (hy : y < but.length),y < j → but[y] ≠ x)
set_option maxHeartbeats 1000000 in
theorem dpick_c {w : World} {v vb : Value} {l : List Wy} {but : List Int} (h : SlB w 1 vb but.length (but.map u32)) (hs : SlB w 8 v l.length (l.flatMap wyC)) (hl : but.length ≤ 1000) (hll : l.length ≤ 1000) :
  FN Tryz.prog 25 [v,vb] w fun e w' => (∃ x n,e = .returned (.tuple #[wyV x,i64 n]) ∧ PickT l but x n) ∧ Ext w w' := by
 refine FN_enter Tryz.func25 rfl rfl (by kernel_rfl) ?_
 have hE : Ext w (w.alloc (.cells #[u64 0,i64 0,u32 0,u32 0,u32 0,u64 0,u64 0,u64 0] 66)) := (Ext.refl w).alloc _
 have k1 : Blk (w.alloc (.cells #[u64 0, i64 0, u32 0, u32 0, u32 0, u64 0, u64 0, u64 0] 66)) w.heap.size (wyC wyZ) := by
  have := Blk.new w (wyC wyZ) 66
  simp [wyZ] at this
  exact this
 simp
 generalize (w.alloc (.cells #[u64 0,i64 0,u32 0,u32 0,u32 0,u64 0,u64 0,u64 0] 66)) = w1 at *
 have hlen := fun ty W => hs.isLen (P := Tryz.prog) (t := 48) (by simp) ty W
 have hlenB := fun ty W => h.isLen (P := Tryz.prog) (t := 75) (by simp) ty W
 refine WC_loop (PInv w1 w.heap.size v vb l but) l.length ⟨0,⟨by simp,by simp⟩,by simp,rfl,Ext.refl _,fun j _ h => by omega⟩ ?_
 rintro k ρ ds W ⟨i,⟨rfl,hi⟩,⟨e0,e1,e4,e6⟩,rfl,hX,hno⟩
 have hXw := hE.trans hX
 by_cases hlt : i < l.length
 ·simp [e0,e6,hlen,hlt]
  refine WC_loop (PInv2 W w.heap.size v vb but l[i].n i) but.length ⟨0,true,⟨by simp,by simp⟩,by simp [e0,e1,e4,e6],rfl,Ext.refl _,by simp⟩ ?_
  rintro k2 ρ2 ds2 W2 ⟨j,b,⟨rfl,hj⟩,⟨f0,f1,f4,f6,f7,f8⟩,rfl,hX2,hb⟩
  have hs2 := (hs.ext (hXw.trans hX2)).toSl (by omega)
  by_cases hltj : j < but.length
  ·simp [f1,f8,hlenB,hltj]
   refine WC_drawC 13 (.F 0 <| .F 1 <| .F 2 <| .F 3 <| .F 4 <| .F 5 <| .F 6 <| .F 7 <| .F 8 <| .F 9 <| .F 10 <| .F 11 <| .F 12 <| .Z) (fun _ => false) rfl (by kernel_rfl) fun W3 hW3 => ?_
   have hE3 : Ext W2 W3 := hW3 ▸ Ext.drew W2
   have hs3 := hs2.ext hE3
   have hb3 := (h.ext ((hXw.trans hX2).trans hE3)).toSl (by omega)
   have ix := wyIndex hs3 i hlt W3
   have r := wyRow hs3 hlt
   have ix2 := u32Index hb3 j hltj W3
   have r2 := u32Row hb3 hltj
   have nw : IntKind.i64.wrap ((j : Int) + 1) = ((j + 1 : Nat) : Int) := by rw [wrap64 _ (by omega) (by omega)]; rfl
   have step : ∀ b' : Bool, (b' = (b && !decide (but[j] = l[i].n))) → (b' = true ↔ ∀ (y : Nat) (hy : y < but.length), y < j + 1 → but[y] ≠ l[i].n) := by
    rintro b' rfl
    constructor
    ·intro hb' y hy hyj
     simp at hb'
     rcases Nat.lt_succ_iff_lt_or_eq.1 hyj with h1 | rfl
     ·exact hb.1 hb'.1 y hy h1
     ·exact hb'.2
    ·intro hall
     simp only [Bool.and_eq_true,Bool.not_eq_true',decide_eq_false_iff_not]
     exact ⟨hb.2 fun y hy h1 => hall y hy (by omega),hall j hltj (by omega)⟩
   have sym : decide (l[i].n = but[j]) = decide (but[j] = l[i].n) := decide_eq_decide.2 ⟨Eq.symm,Eq.symm⟩
   cases b with
   | false =>
    simp [f7,f8,nw]
    refine ⟨but.length - (j + 1),by omega,j + 1,false,⟨rfl,by omega⟩,by simp [f0,f1,f4,f6],rfl,hX2.trans hE3,step _ (by simp)⟩
   | true =>
    simp [f0,f1,f6,f7,f8,ix,r.c2,ix2,r2,nw]
    refine ⟨but.length - (j + 1),by omega,j + 1,(l[i].n != but[j]),⟨rfl,by omega⟩,by simp [f0,f1,f4,f6],rfl,hX2.trans hE3,step _ ?_⟩
    rw [← sym]
    by_cases e : l[i].n = but[j] <;> simp [e]
  ·have : j = but.length := by omega
   subst this
   have hX3 := hX.trans hX2
   have k3 := k1.ext hX3
   have nw : IntKind.i64.wrap ((i : Int) + 1) = ((i + 1 : Nat) : Int) := by rw [wrap64 _ (by omega) (by omega)]; rfl
   cases b with
   | true =>
    have ix := wyIndex hs2 i hlt
    have r := wyRow hs2 hlt
    have hM8 := put8_mod W2 w.heap.size (u64 l[i].a) (i64 l[i].h) (u32 l[i].n) (u32 l[i].f.fr) (u32 l[i].f.to') (u64 l[i].f.sf) (u64 l[i].f.su) (u64 l[i].f.rate)
    have kZ := put8_blk k3 rfl (u64 l[i].a) (i64 l[i].h) (u32 l[i].n) (u32 l[i].f.fr) (u32 l[i].f.to') (u64 l[i].f.sf) (u64 l[i].f.su) (u64 l[i].f.rate)
    simp [f0,f1,f4,f6,f7,f8,hlenB,ix,r.c0,r.c1,r.c2,r.c3,r.c4,r.c5,r.c6,r.c7,(k3).cell 0 _ rfl,(k3).cell 1 _ rfl,(k3).cell 2 _ rfl,(k3).cell 3 _ rfl,(k3).cell 4 _ rfl,(k3).cell 5 _ rfl,(k3).cell 6 _ rfl,(k3).cell 7 _ rfl,k3.thaw,cell_setCell]
    generalize World.setCell _ ⟨w.heap.size,7,none⟩ _ = W8 at *
    refine ⟨⟨l[i],0,⟨⟨rfl,rfl,rfl,rfl,rfl,rfl,rfl,rfl⟩,rfl⟩,.inr ⟨i,hlt,rfl,rfl,fun hm => ?_,hno⟩⟩,(((hXw.trans hX2).mod (S := fun k => w.heap.size ≤ k)).trans (hM8.weaken fun k hk => by omega)).ext fun _ h => h⟩
    obtain ⟨y,hy,e⟩ := List.getElem_of_mem hm
    exact hb.1 rfl y hy hy e
   | false =>
    simp [f1,f6,f7,f8,hlenB,nw]
    refine ⟨l.length - (i + 1),by omega,i + 1,⟨rfl,by omega⟩,by simp [f0,f1,f4],rfl,hX3,fun j hj hji => ?_⟩
    rcases Nat.lt_succ_iff_lt_or_eq.1 hji with h1 | rfl
    ·exact hno j hj h1
    ·refine Decidable.byContradiction fun hm => ?_
     have := hb.2 fun y hy _ e => hm (e ▸ List.getElem_mem hy)
     cases this
 ·have : i = l.length := by omega
  subst this
  have k3 := k1.ext hX
  have hM8 := put8_mod W w.heap.size (u64 0) (i64 0) (u32 0) (u32 0) (u32 0) (u64 0) (u64 0) (u64 0)
  simp [e0,e4,e6,hlen,(k3).cell 0 _ rfl,(k3).cell 1 _ rfl,(k3).cell 2 _ rfl,(k3).cell 3 _ rfl,(k3).cell 4 _ rfl,(k3).cell 5 _ rfl,(k3).cell 6 _ rfl,(k3).cell 7 _ rfl,k3.thaw,cell_setCell]
  generalize World.setCell _ ⟨w.heap.size,7,none⟩ _ = W8 at *
  exact ⟨⟨wyZ,310,⟨⟨rfl,rfl,rfl,rfl,rfl,rfl,rfl,rfl⟩,rfl⟩,.inl ⟨rfl,rfl,fun x hx => by obtain ⟨j,hj,rfl⟩ := List.getElem_of_mem hx; exact hno j hj hj⟩⟩,((hXw.mod (S := fun k => w.heap.size ≤ k)).trans (hM8.weaken fun k hk => by omega)).ext fun _ h => h⟩
end Go.Proofs