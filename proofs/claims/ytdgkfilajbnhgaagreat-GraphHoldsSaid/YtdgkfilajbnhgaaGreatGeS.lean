/-
 Contracts of the functions that the law reaches,step by step.
-/
import Derived.Test.YtdgkfilajbnhgaaGreatGeR
namespace Go.Proofs
open Pk
set_option maxRecDepth 10000
def k1 : Ct := ⟨1,2,0,10,10⟩
def k2 : Ct := ⟨2,3,5,20,10⟩
def k3 : Ct := ⟨1,3,30,40,10⟩
def s0 : List St := [⟨1,2,0,2⟩]
theorem rows_L : [k1,k2,k3].foldl nxL [] = [k1,k3,k2] := by decide
theorem rows_S : s0.foldl rsetL [] = s0 := by
 simp [s0,rsetL,badS]
 decide
def sentBf (lf : Int → Int) (o u : Int) : Int → List Int → Int
 | b,[] => b
 | b,s :: ks => sentBf lf o u (if o < s ∧ s ≤ u then min b (lf s) else b) ks
theorem sentB_f (m : ML) (o u : Int) : ∀ (ks : List Int) (b : Int), sentB m o u b ks = sentBf (lnd m) o u b ks
 | [],b => rfl
 | s :: ks,b => by unfold sentB sentBf; exact sentB_f m o u ks _
def g0 (sl : List St) (n : Int) (c : Ct) (a : Int) : Option Int :=
 if 0 ≤ c.sf ∧ 1 ≤ n then
  (if sentN [] c a n = true then none else if c.su < overL [] c a n then none
  else if 4611686018427387903 ≤ sentBf (rlnd sl c.fr c.to') (overL [] c a n) c.su (rlnd sl c.fr c.to' (overL [] c a n)) ((sl.filter (ofFG c.fr c.to')).map (·.a)) then none
  else some (sentBf (rlnd sl c.fr c.to') (overL [] c a n) c.su (rlnd sl c.fr c.to' (overL [] c a n)) ((sl.filter (ofFG c.fr c.to')).map (·.a))))
 else none
theorem gSnt_0 {M : ME} (h : RelT M s0) (hn : ∀ q, ((sps M q).map (·.1)).Nodup) (n : Int) : gSnt M [] n = g0 s0 n := by
 funext c a
 unfold gSnt g0 sentO
 have hl : lnd (sps M (c.fr,c.to')) = rlnd s0 c.fr c.to' := by funext x; exact h.lnd _ _ _
 have hk : kys (sps M (c.fr, c.to')) = (s0.filter (ofFG c.fr c.to')).map (·.a) := by
  refine (h.steps hn (kys_ok _) ⟨?_,List.Perm.refl _⟩).1.symm
  unfold s0
  by_cases e : ofFG c.fr c.to' ⟨1, 2, 0, 2⟩ = true
  ·simp [e]
  ·simp [e]
 rw [sentB_f,hl,hk]
theorem wk_closed {L : List Ct} {snt : Ct → Int → Option Int} {F : List Ct} {at0 : Int} (T : List Tl) (h1 : ∀ f ∈ F, ∀ a, snt f at0 = some a → ⟨a, 1, f, f.to'⟩ ∈ T) (h2 : ∀ x ∈ T, ∀ c ∈ L, c.fr = x.n → ∀ b, snt c x.a = some b → ⟨b, x.h + 1, x.f, c.to'⟩ ∈ T) {y : Tl} (hy : Gr.Wk L snt F at0 y) : y ∈ T := by
 induction hy with
 | one f a hf hs => exact h1 f hf a hs
 | step x c b hx hc hn hs ih => exact h2 x ih c hc hn b hs
theorem v1 : g0 s0 20 k1 0 = some 4 := by decide
theorem v2 : g0 s0 20 k3 0 = some 32 := by decide
theorem v3 : g0 s0 20 k2 4 = some 7 := by decide
theorem v4 : g0 s0 200 k1 0 = none := by decide
theorem v5 : g0 s0 200 k3 0 = none := by decide
theorem v6 : g0 s0 10 k1 9 = some 12 := by decide
theorem v7 : g0 s0 10 k3 9 = some 31 := by decide
theorem v8 : g0 s0 10 k2 12 = some 13 := by decide
def quA : Qu := ⟨1,3,0,20,9,[]⟩
def quB : Qu := ⟨1,3,0,20,1,[]⟩
def quC' : Qu := ⟨1,3,0,200,9,[]⟩
def quD : Qu := ⟨1,0,0,20,9,[]⟩
def quE : Qu := ⟨1,3,9,10,9,[]⟩
def tA : Tl := ⟨4,1,k1,2⟩
def tB : Tl := ⟨32,1,k3,3⟩
def tC : Tl := ⟨7,2,k1,3⟩
theorem firsts_0 (q : Qu) (h1 : q.fr = 1) (h2 : q.no = []) : firsts [k1, k3, k2] q = [k1, k3] := by
 simp [firsts,fromL,h1,h2,k1,k2,k3]
theorem walks_A {y : Tl} (hy : Gr.Wk [k1, k3, k2] (g0 s0 20) [k1, k3] 0 y) : y = tA ∨ y = tB ∨ y = tC := by
 have := wk_closed [tA, tB, tC] (fun f hf a ha => ?_) (fun x hx c hc hn b hb => ?_) hy
 ·simpa using this
 ·simp at hf
  rcases hf with rfl | rfl
  ·rw [v1] at ha; cases ha; simp [tA,k1]
  ·rw [v2] at ha; cases ha; simp [tB,k3]
 ·simp at hx
  rcases hx with rfl | rfl | rfl
  ·simp at hc
   rcases hc with rfl | rfl | rfl
   ·cases hn
   ·cases hn
   ·have e : g0 s0 20 k2 tA.a = some 7 := v3
    rw [e] at hb; cases hb; simp [tC,tA,k2]
  ·simp at hc
   rcases hc with rfl | rfl | rfl <;> cases hn
  ·simp at hc
   rcases hc with rfl | rfl | rfl <;> cases hn
theorem walk_A1 : Gr.Wk [k1,k3,k2] (g0 s0 20) [k1,k3] 0 tA := .one k1 4 (by simp) v1
theorem walk_A2 : Gr.Wk [k1,k3,k2] (g0 s0 20) [k1,k3] 0 tB := .one k3 32 (by simp) v2
theorem walk_A3 : Gr.Wk [k1,k3,k2] (g0 s0 20) [k1,k3] 0 tC := .step tA k2 7 walk_A1 (by simp) rfl v3
theorem best_A : Gr.BestOf [k1, k3, k2] (g0 s0 20) [k1, k3] 0 9 3 tC := ⟨walk_A3, rfl, by decide, fun y hy hn _ => by
 rcases walks_A hy with rfl | rfl | rfl
 ·cases hn
 ·decide
 ·decide⟩
theorem best_A2 : Gr.BestOf [k1, k3, k2] (g0 s0 20) [k1, k3] 0 9 2 tA := ⟨walk_A1, rfl, by decide, fun y hy hn _ => by
 rcases walks_A hy with rfl | rfl | rfl
 ·decide
 ·cases hn
 ·cases hn⟩
theorem best_B : Gr.BestOf [k1, k3, k2] (g0 s0 20) [k1, k3] 0 1 3 tB := ⟨walk_A2, rfl, by decide, fun y hy hn hk => by
 rcases walks_A hy with rfl | rfl | rfl
 ·cases hn
 ·decide
 ·have : (2 : Nat) ≤ 1 := hk
  omega⟩
theorem walks_C {y : Tl} (hy : Gr.Wk [k1, k3, k2] (g0 s0 200) [k1, k3] 0 y) : False := by
 have := wk_closed [] (fun f hf a ha => ?_) (fun x hx => ?_) hy
 ·cases this
 ·simp at hf
  rcases hf with rfl | rfl
  ·rw [v4] at ha; cases ha
  ·rw [v5] at ha; cases ha
 ·cases hx
def tE : Tl := ⟨12,1,k1,2⟩
def tF : Tl := ⟨31,1,k3,3⟩
def tG : Tl := ⟨13,2,k1,3⟩
theorem walks_E {y : Tl} (hy : Gr.Wk [k1, k3, k2] (g0 s0 10) [k1, k3] 9 y) : y = tE ∨ y = tF ∨ y = tG := by
 have := wk_closed [tE, tF, tG] (fun f hf a ha => ?_) (fun x hx c hc hn b hb => ?_) hy
 ·simpa using this
 ·simp at hf
  rcases hf with rfl | rfl
  ·rw [v6] at ha; cases ha; simp [tE,k1]
  ·rw [v7] at ha; cases ha; simp [tF,k3]
 ·simp at hx
  rcases hx with rfl | rfl | rfl
  ·simp at hc
   rcases hc with rfl | rfl | rfl
   ·cases hn
   ·cases hn
   ·have e : g0 s0 10 k2 tE.a = some 13 := v8
    rw [e] at hb; cases hb; simp [tG,tE,k2]
  ·simp at hc
   rcases hc with rfl | rfl | rfl <;> cases hn
  ·simp at hc
   rcases hc with rfl | rfl | rfl <;> cases hn
theorem best_E : Gr.BestOf [k1, k3, k2] (g0 s0 10) [k1, k3] 9 9 3 tG :=
 ⟨.step tE k2 13 (.one k1 12 (by simp) v6) (by simp) rfl v8,rfl,by decide,fun y hy hn _ => by
 rcases walks_E hy with rfl | rfl | rfl
 ·cases hn
 ·decide
 ·decide⟩
theorem apart_0 : Gr.FApart [k1, k3] := by
 intro f hf g hg e1 e2
 simp at hf hg
 rcases hf with rfl | rfl <;> rcases hg with rfl | rfl
 ·rfl
 ·cases e1
 ·cases e1
 ·rfl
theorem bestT_is {q : Qu} {L F : List Ct} {snt : Ct → Int → Option Int} {x : Wy} {n : Int} {t : Tl} (h : BestT L snt F q x n) (hA : Gr.FApart F) (hb : (badQ q || badE q) = false) {K : Nat} (hK : q.most.toNat = K) (ht : Gr.BestOf L snt F q.at_ K q.to' t) : x = tlWy t ∧ n = 0 := by
 rcases h.ok hb with ⟨t', h1, rfl, rfl⟩ | ⟨h1, -⟩
 ·rw [hK] at h1
  rw [h1.uniq hA ht]
  exact ⟨rfl,rfl⟩
 ·rw [hK] at h1
  exact (h1 t ht.wk ht.h ht.at_).elim
theorem bestT_no {q : Qu} {L F : List Ct} {snt : Ct → Int → Option Int} {x : Wy} {n : Int} (h : BestT L snt F q x n) (hb : (badQ q || badE q) = false) (hno : ∀ y, Gr.Wk L snt F q.at_ y → False) : n = 310 := by
 rcases h.ok hb with ⟨t', h1, -⟩ | ⟨h1, -, h2⟩
 ·exact (hno t' h1.wk).elim
 ·exact h2
theorem reach_D {mm : KWML} (h : ReachT [k1, k3, k2] (g0 s0 20) [k1, k3] quD mm) {ys : List Int} (hn : (mm.map (·.1)).Nodup) (hy : kWisKeys mm ys) : ys = [2, 3] ∧ mget mm 2 = some (tlWy tA) ∧ mget mm 3 = some (tlWy tC) := by
 have e2 : mget mm 2 = some (tlWy tA) := by
  have := h.has rfl tA walk_A1 (by decide) (by decide)
  obtain ⟨x,hx⟩ := Option.isSome_iff_exists.1 this
  obtain ⟨-,t,h1,rfl⟩ := h.is _ _ hx
  rw [h1.uniq apart_0 best_A2] at hx
  exact hx
 have e3 : mget mm 3 = some (tlWy tC) := by
  have := h.has rfl tC walk_A3 (by decide) (by decide)
  obtain ⟨x,hx⟩ := Option.isSome_iff_exists.1 this
  obtain ⟨-,t,h1,rfl⟩ := h.is _ _ hx
  rw [h1.uniq apart_0 best_A] at hx
  exact hx
 refine ⟨?_,e2,e3⟩
 have hp : (mm.map (·.1)).Perm [2, 3] := by
  rw [List.perm_ext_iff_of_nodup hn (by decide)]
  intro n
  constructor
  ·intro hm
   obtain ⟨x,hx,rfl⟩ := List.mem_map.1 hm
   obtain ⟨-,t,h1,-⟩ := h.is x.1 x.2 (mget_of_mem hn hx)
   have := h1.at_
   rcases walks_A h1.wk with rfl | rfl | rfl
   ·rw [← this]; simp [tA]
   ·rw [← this]; simp [tB]
   ·rw [← this]; simp [tC]
  ·intro hm
   simp at hm
   rcases hm with rfl | rfl
   ·exact List.mem_map.2 ⟨_,mget_mem e2,rfl⟩
   ·exact List.mem_map.2 ⟨_,mget_mem e3,rfl⟩
 exact List.Perm.eq_of_pairwise (le := (· ≤ ·)) (fun _ _ _ _ h1 h2 => Int.le_antisymm h1 h2) hy.2 (by decide) (hy.1.trans hp)
end Go.Proofs
namespace Go.Proofs
open Pk
set_option maxRecDepth 10000
theorem met_c (a b c d : Int) (w : World) : FN Tryz.prog 14 [u32 a, u32 b, u64 c, u64 d] w fun e w' => e = .returned (ctV ⟨a, b, c, d, 10⟩) ∧ Ext w w' := by
 refine FN_enter Tryz.func14 rfl rfl (by kernel_rfl) ?_
 simp
 exact (Ext.refl w).alloc _
theorem ctOk_k : CtOk k1 ∧ CtOk k2 ∧ CtOk k3 := ⟨⟨by decide,by decide,by decide,by decide,by decide⟩,⟨by decide,by decide,by decide,by decide,by decide⟩,⟨by decide,by decide,by decide,by decide,by decide⟩⟩
theorem quOk_k : QuOk quA ∧ QuOk quB ∧ QuOk quC' ∧ QuOk quD ∧ QuOk quE := by
 refine ⟨?_,?_,?_,?_,?_⟩ <;> exact ⟨by decide,by decide,by decide,by decide,by decide⟩
set_option maxHeartbeats 4000000 in
theorem works_c (w : World) : FN Tryz.prog 8 [] w fun e w' => e = .returned (.bool true) ∧ Ext w w' := by
 refine FN_enter Tryz.func8 rfl rfl (by kernel_rfl) ?_
 simp
 refine FN.mono (met_c 1 2 0 10 w) ?_
 rintro _ w1 ⟨rfl,hE1⟩
 simp
 refine FN.mono (met_c 2 3 5 20 w1) ?_
 rintro _ w2 ⟨rfl,hE2⟩
 simp
 refine FN.mono (met_c 1 3 30 40 w2) ?_
 rintro _ w3 ⟨rfl,hE3⟩
 have e4 : Ext w3 ((w3.alloc (.cells #[u32 1,u32 2,u64 0,u64 10,u64 10,u32 2,u32 3,u64 5,u64 20,u64 10,u32 1,u32 3,u64 30,u64 40,u64 10] 48)).alloc (.cells #[u32 1,u32 2,u64 0,u64 2] 85)) := ((Ext.refl w3).alloc _).alloc _
 have hp : Sl ((w3.alloc (.cells #[u32 1, u32 2, u64 0, u64 10, u64 10, u32 2, u32 3, u64 5, u64 20, u64 10, u32 1, u32 3, u64 30, u64 40, u64 10] 48)).alloc (.cells #[u32 1, u32 2, u64 0, u64 2] 85)) 5 (.slice (some ⟨w3.heap.size, 0, none⟩) 3 3) 3 ([k1, k2, k3].flatMap ctC) :=
  (Sl.made w3 ([k1,k2,k3].flatMap ctC) 48 5 3 rfl).ext ((Ext.refl _).alloc _)
 have hs : Sl ((w3.alloc (.cells #[u32 1, u32 2, u64 0, u64 10, u64 10, u32 2, u32 3, u64 5, u64 20, u64 10, u32 1, u32 3, u64 30, u64 40, u64 10] 48)).alloc (.cells #[u32 1, u32 2, u64 0, u64 2] 85)) 4 (.slice (some ⟨w3.heap.size + 1, 0, none⟩) 1 1) 1 (s0.flatMap stCells) := by
  have := Sl.made (w3.alloc (.cells #[u32 1,u32 2,u64 0,u64 10,u64 10,u32 2,u32 3,u64 5,u64 20,u64 10,u32 1,u32 3,u64 30,u64 40,u64 10] 48)) (s0.flatMap stCells) 85 4 1 rfl
  simpa [s0,stCells] using this
 simp
 have hso : SetOk ((w3.alloc (.cells #[u32 1, u32 2, u64 0, u64 10, u64 10, u32 2, u32 3, u64 5, u64 20, u64 10, u32 1, u32 3, u64 30, u64 40, u64 10] 48)).alloc (.cells #[u32 1, u32 2, u64 0, u64 2] 85)) (.slice (some ⟨w3.heap.size, 0, none⟩) 3 3) (.slice (some ⟨w3.heap.size + 1, 0, none⟩) 1 1) (.slice none 0 0) [k1, k2, k3] s0 [] :=
  ⟨hp.toB, hs.toB, SlB.nil _ _ _, fun c hc => by
   simp at hc
   rcases hc with rfl | rfl | rfl
   ·exact ctOk_k.1
   ·exact ctOk_k.2.1
   ·exact ctOk_k.2.2,fun s hs => by
   simp [s0] at hs
   subst hs
   exact ⟨by decide,by decide,by decide,by decide⟩,fun x hx => (by cases hx),by decide,by decide,by decide⟩
 generalize ((w3.alloc (.cells #[u32 1,u32 2,u64 0,u64 10,u64 10,u32 2,u32 3,u64 5,u64 20,u64 10,u32 1,u32 3,u64 30,u64 40,u64 10] 48)).alloc (.cells #[u32 1,u32 2,u64 0,u64 2] 85)) = w4 at *
 have hX4 := ((hE1.trans hE2).trans hE3).trans e4
 refine FN.mono (made_c hso) ?_
 rintro _ w5 ⟨⟨g,vp,vt,vl,L,M,m,rfl,hMd,-⟩,hE5⟩
 have hX5 := hX4.trans hE5
 obtain ⟨ll,hdg⟩ := hMd.d
 rw [rows_S] at hdg
 obtain ⟨p,v,t,R,q,r,hGr⟩ := hMd.g
 have heL : L = [k1,k3,k2] := hMd.eL.trans rows_L
 have heM : m = [] := hMd.eM
 subst heL heM
 have hsn : ∀ n,gSnt M [] n = g0 s0 n := fun n => gSnt_0 hdg.rt hdg.nd n
 obtain ⟨a1,d1,hp1⟩ : ∃ a c,vp = .slice a 3 c := hdg.pl.isSlice
 obtain ⟨a2,d2,hp2⟩ := hdg.tb.isSlice
 obtain ⟨a3,d3,hp3⟩ := hdg.lg.isSlice
 have hE6 : Ext w5 (w5.alloc (.cells #[vp,vt,vl] 42)) := (Ext.refl w5).alloc _
 rw [hp1,hp2,hp3] at hE6 ⊢
 simp
 rw [← hp1,← hp2,← hp3] at hE6 ⊢
 have hG6 := hGr.ext hE6
 have hX6 := hX5.trans hE6
 generalize (w5.alloc (.cells #[vp,vt,vl] 42)) = w6 at *
 have best := fun (W : World) (hX : Ext w6 W) (q : Qu) (hq : QuOk q) (hno : q.no = []) => gbest_c (q := q) (nv := .slice none 0 0) (hG6.ext hX) (by rw [hno]; exact SlB.nil _ _ _) hMd.gd hdg.vm hMd.sl hq hdg.ok (by decide) (by rw [hno]; decide)
 have fst := fun (q : Qu) (h1 : q.fr = 1) (h2 : q.no = []) => firsts_0 q h1 h2
 refine FN.mono (best w6 (Ext.refl _) quA quOk_k.1 rfl) ?_
 rintro _ w7 ⟨⟨xa,na,rfl,hTa⟩,hE7⟩
 rw [hsn,fst quA rfl rfl] at hTa
 obtain ⟨hxa,hna⟩ := bestT_is hTa apart_0 (by decide) (K := 9) rfl best_A
 subst hxa hna
 have hE8 : Ext w7 (w7.alloc (.cells #[u64 (tlWy tC).a,i64 (tlWy tC).h,u32 (tlWy tC).n,u32 (tlWy tC).f.fr,u32 (tlWy tC).f.to',u64 (tlWy tC).f.sf,u64 (tlWy tC).f.su,u64 (tlWy tC).f.rate] 50)) := (Ext.refl w7).alloc _
 have hBa : Blk (w7.alloc (.cells #[u64 (tlWy tC).a,i64 (tlWy tC).h,u32 (tlWy tC).n,u32 (tlWy tC).f.fr,u32 (tlWy tC).f.to',u64 (tlWy tC).f.sf,u64 (tlWy tC).f.su,u64 (tlWy tC).f.rate] 50)) w7.heap.size (wyC (tlWy tC)) := Blk.new w7 (wyC (tlWy tC)) 50
 simp
 generalize (w7.alloc (.cells #[u64 (tlWy tC).a,i64 (tlWy tC).h,u32 (tlWy tC).n,u32 (tlWy tC).f.fr,u32 (tlWy tC).f.to',u64 (tlWy tC).f.sf,u64 (tlWy tC).f.su,u64 (tlWy tC).f.rate] 50)) = w8 at *
 have hX68 := hE7.trans hE8
 refine FN.mono (best w8 hX68 quB quOk_k.2.1 rfl) ?_
 rintro _ w9 ⟨⟨xb,nb,rfl,hTb⟩,hE9⟩
 rw [hsn,fst quB rfl rfl] at hTb
 obtain ⟨hxb,hnb⟩ := bestT_is hTb apart_0 (by decide) (K := 1) rfl best_B
 subst hxb hnb
 have hE10 : Ext w9 (w9.alloc (.cells #[u64 (tlWy tB).a,i64 (tlWy tB).h,u32 (tlWy tB).n,u32 (tlWy tB).f.fr,u32 (tlWy tB).f.to',u64 (tlWy tB).f.sf,u64 (tlWy tB).f.su,u64 (tlWy tB).f.rate] 50)) := (Ext.refl w9).alloc _
 have hBb : Blk (w9.alloc (.cells #[u64 (tlWy tB).a,i64 (tlWy tB).h,u32 (tlWy tB).n,u32 (tlWy tB).f.fr,u32 (tlWy tB).f.to',u64 (tlWy tB).f.sf,u64 (tlWy tB).f.su,u64 (tlWy tB).f.rate] 50)) w9.heap.size (wyC (tlWy tB)) := Blk.new w9 (wyC (tlWy tB)) 50
 simp
 generalize (w9.alloc (.cells #[u64 (tlWy tB).a,i64 (tlWy tB).h,u32 (tlWy tB).n,u32 (tlWy tB).f.fr,u32 (tlWy tB).f.to',u64 (tlWy tB).f.sf,u64 (tlWy tB).f.su,u64 (tlWy tB).f.rate] 50)) = w10 at *
 have hX8_10 := hE9.trans hE10
 have hX610 := hX68.trans hX8_10
 refine FN.mono (best w10 hX610 quC' quOk_k.2.2.1 rfl) ?_
 rintro _ w11 ⟨⟨xc,nc,rfl,hTc⟩,hE11⟩
 rw [hsn,fst quC' rfl rfl] at hTc
 have hnc := bestT_no hTc (by decide) (fun y hy => walks_C hy)
 subst hnc
 have hE12 : Ext w11 (w11.alloc (.cells #[u64 xc.a,i64 xc.h,u32 xc.n,u32 xc.f.fr,u32 xc.f.to',u64 xc.f.sf,u64 xc.f.su,u64 xc.f.rate] 50)) := (Ext.refl w11).alloc _
 have z12 : (w11.alloc (.cells #[u64 xc.a,i64 xc.h,u32 xc.n,u32 xc.f.fr,u32 xc.f.to',u64 xc.f.sf,u64 xc.f.su,u64 xc.f.rate] 50)).heap.size = w11.heap.size + 1 := by simp
 simp
 generalize (w11.alloc (.cells #[u64 xc.a,i64 xc.h,u32 xc.n,u32 xc.f.fr,u32 xc.f.to',u64 xc.f.sf,u64 xc.f.su,u64 xc.f.rate] 50)) = w12 at *
 have hE13 : Ext w12 (w12.alloc (.cells #[u64 0] 28)) := (Ext.refl w12).alloc _
 have hN : Var (w12.alloc (.cells #[u64 0] 28)) w12.heap.size (u64 0) := Var.new w12 _ 28
 obtain ⟨nb',hnb'⟩ : ∃ x,x = w11.heap.size + 1 := ⟨_,rfl⟩
 rw [z12,← hnb'] at hN
 rw [← hnb']
 generalize (w12.alloc (.cells #[u64 0] 28)) = w13 at *
 have hX10_13 := (hE11.trans hE12).trans hE13
 have hX613 := hX610.trans hX10_13
 have reach := fun (W : World) (hX : Ext w6 W) => greach_c (q := quD) (nv := .slice none 0 0) (hG6.ext hX) (SlB.nil _ _ _) hMd.gd hdg.vm hMd.sl quOk_k.2.2.2.1 hdg.ok (by decide) (by decide)
 refine FN.mono (reach w13 hX613) ?_
 rintro _ w14 ⟨⟨b14,mm14,rm14,rfl,-⟩,hE14⟩
 simp
 refine FN.mono (reach w14 (hX613.trans hE14)) ?_
 rintro _ w15 ⟨⟨b,mm,rm,rfl,hRT,hml,hv,hmm,hbge,hrge⟩,hE15⟩
 rw [hsn,fst quD rfl rfl] at hRT
 obtain ⟨ys,hys⟩ := kWex mm
 obtain ⟨hys2,hm2,hm3⟩ := reach_D hRT hmm.nodup hys
 have hit := kWsteps kU32 zWay hv hmm.val (by omega) hys
 simp
 have hN15 := (hN.ext hE14).ext hE15
 have z14 := hE14.size
 have z15 := hE15.size
 have hNl := hN.lt
 refine WC_rangeFuncA (gf := 45) (first := #[]) (caps := #[ptr b]) (enc := kWst mm) (by simp) (fun _ _ => callFunc_enter Tryz.func45 rfl rfl _ _) hit (fun x => rfl) (fun k => k = nb')
  (fun C pre W' => (∃ n,Var W' nb' (u64 n) ∧ (pre = [] ∧ n = 0 ∨ pre = [2] ∧ n = 204 ∨ pre = [2,3] ∧ n = 204307)) ∧ (∀ k,C k ↔ k = nb') ∧ Mod (fun k => k = nb') w15 W')
  (fun _ _ _ _ => False) (fun k hk => ?_) (fun k hk => by omega) ?_ (fun _ _ _ _ _ h _ => h.elim) ⟨⟨0,hN15,.inl ⟨rfl,rfl⟩⟩,fun k => Iff.rfl,Mod.refl _ _⟩
  (fun x B ρ' W' => ∃ q12,ρ' 12 = ptr q12 ∧ B ≤ q12 ∧ (∀ y,mget mm x = some y → Blk W' q12 (wyC y)) ∧ ρ' 11 = u32 x ∧ ρ' 10 = ptr nb') ?_ ?_ ?_ ?_ (fun _ _ _ _ _ h _ => h.elim)
 ·rcases hk with rfl | hk
  ·exact ⟨hv.lt,by omega⟩
  ·cases hk
   exact ⟨hmm.lt,by omega⟩
 ·rintro C pre W1 W2 ⟨⟨n,h1,h2⟩,h3,h4⟩ hag
  exact ⟨⟨n,h1.agr hag (.inl (by omega)),h2⟩,h3,h4.agr_old hag⟩
 ·rintro x B ρ' W1 W2 ⟨q12,h1,h2,h3,h4⟩ hag
  exact ⟨q12,h1,h2,fun y hy => (h3 y hy).agr hag h2,h4⟩
 ·intro lp x W1
  unfold kWst kWval
  cases hx : mget mm x with
  | none =>
   simp
   exact (Ext.refl W1).alloc _
  | some y =>
   simp
   exact ⟨(Ext.refl W1).alloc _,Blk.new W1 (wyC y) 50⟩
 ·rintro lp C pre x B ρ' W1 hsp ⟨⟨n,h1,h2⟩,h3,h4⟩ hl1 hl2 - hBW ⟨q12,e12,hB,hx,e11,e10⟩
  obtain ⟨_,suf,hsuf⟩ := hsp
  rw [hys2] at hsuf
  have fin : ∀ (W : World) (n' : Int), W = W1.setCell ⟨nb', 0, none⟩ (u64 n') → (pre ++ [x] = [] ∧ n' = 0 ∨ pre ++ [x] = [2] ∧ n' = 204 ∨ pre ++ [x] = [2, 3] ∧ n' = 204307) →
    ∃ C',((∃ n,Var W nb' (u64 n) ∧ (pre ++ [x] = [] ∧ n = 0 ∨ pre ++ [x] = [2] ∧ n = 204 ∨ pre ++ [x] = [2,3] ∧ n = 204307)) ∧ (∀ k,C' k ↔ k = nb') ∧ Mod (fun k => k = nb') w15 W) ∧ Own C C' W1 W := fun W n' hW hn' => by
   subst hW
   have hMs := Mod.setCell (S := fun k => k = nb') (Mod.refl _ W1) ⟨nb',0,none⟩ (u64 n') (.inl rfl)
   exact ⟨C,⟨⟨n',h1.set _,hn'⟩,h3,h4.trans hMs⟩,Own.of_mod (hMs.weaken fun k hk => (h3 k).2 hk)⟩
  rcases h2 with ⟨rfl, rfl⟩ | ⟨rfl, rfl⟩ | ⟨rfl, rfl⟩
  ·simp at hsuf
   obtain ⟨rfl,-⟩ := hsuf
   have hb := hx _ hm2
   have fx := fin _ 204 rfl (.inr (.inl ⟨rfl,rfl⟩))
   have ea : (tlWy tA).a = 4 := rfl
   simp [e10,e11,e12,h1.cell,hb.cell 0 _ rfl,h1.thaw,ea]
   rw [show IntKind.u64.wrap (IntKind.u64.wrap (IntKind.u64.wrap 0 + IntKind.u64.wrap (100 * IntKind.u64.wrap 2)) + 4) = 204 from by decide]
   simpa using fx
  ·simp at hsuf
   obtain ⟨rfl,-⟩ := hsuf
   have hb := hx _ hm3
   have fx := fin _ 204307 rfl (.inr (.inr ⟨rfl,rfl⟩))
   have ea : (tlWy tC).a = 7 := rfl
   simp [e10,e11,e12,h1.cell,hb.cell 0 _ rfl,h1.thaw,ea]
   rw [show IntKind.u64.wrap (IntKind.u64.wrap (IntKind.u64.wrap 204000 + IntKind.u64.wrap (100 * IntKind.u64.wrap 3)) + 7) = 204307 from by decide]
   simpa using fx
  ·simp at hsuf
 ·rintro C xs W1 rfl ⟨⟨n,h1,h2⟩,h3,h4⟩ hD
  have hn : n = 204307 := by
   rw [hys2] at h2
   rcases h2 with ⟨h, -⟩ | ⟨h, -⟩ | ⟨-, h⟩
   ·cases h
   ·cases h
   ·exact h
  subst hn
  simp
  have y68 := hX68.size
  have y610 := hX610.size
  have y613 := hX613.size
  have hX6W : Ext w6 W1 := (((hX613.trans hE14).trans hE15).mod (S := fun k => w6.heap.size ≤ k)).trans (h4.weaken fun k hk => by have := hE11.size; have := hX8_10.size; omega) |>.ext fun _ h => h
  refine FN.mono (best W1 hX6W quE quOk_k.2.2.2.2 rfl) ?_
  rintro _ w16 ⟨⟨xe,ne,rfl,hTe⟩,hE16⟩
  rw [hsn,fst quE rfl rfl] at hTe
  obtain ⟨hxe,hne⟩ := bestT_is hTe apart_0 (by decide) (K := 9) rfl best_E
  subst hxe hne
  have hE17 : Ext w16 (w16.alloc (.cells #[u64 (tlWy tG).a,i64 (tlWy tG).h,u32 (tlWy tG).n,u32 (tlWy tG).f.fr,u32 (tlWy tG).f.to',u64 (tlWy tG).f.sf,u64 (tlWy tG).f.su,u64 (tlWy tG).f.rate] 50)) := (Ext.refl w16).alloc _
  have hBe : Blk (w16.alloc (.cells #[u64 (tlWy tG).a,i64 (tlWy tG).h,u32 (tlWy tG).n,u32 (tlWy tG).f.fr,u32 (tlWy tG).f.to',u64 (tlWy tG).f.sf,u64 (tlWy tG).f.su,u64 (tlWy tG).f.rate] 50)) w16.heap.size (wyC (tlWy tG)) := Blk.new w16 (wyC (tlWy tG)) 50
  simp
  generalize (w16.alloc (.cells #[u64 (tlWy tG).a,i64 (tlWy tG).h,u32 (tlWy tG).n,u32 (tlWy tG).f.fr,u32 (tlWy tG).f.to',u64 (tlWy tG).f.sf,u64 (tlWy tG).f.su,u64 (tlWy tG).f.rate] 50)) = w17 at *
  have hX117 := hE16.trans hE17
  refine FN.mono (knum_c 0 w17) ?_
  rintro _ _ ⟨rfl,rfl⟩
  rename_i w17
  simp
  refine FN.mono (knum_c 0 w17) ?_
  rintro _ _ ⟨rfl,rfl⟩
  rename_i w17
  simp
  refine FN.mono (knum_c 0 w17) ?_
  rintro _ _ ⟨rfl,rfl⟩
  rename_i w17
  have la := hBa.lt
  have lb := hBb.lt
  have q8 := hX8_10.size
  have q10 := hX10_13.size
  have q9 := hE9.size
  have q11 := hE11.size
  have q7 := hE8.size
  have dA := ((((hBa.ext hX8_10).ext hX10_13).ext hE14).ext hE15).mod h4 (by omega) |>.ext hX117
  have dB := (((hBb.ext hX10_13).ext hE14).ext hE15).mod h4 (by omega) |>.ext hX117
  have dN := (h1.ext hX117).cell
  simp [dA.cell 0 _ rfl,dA.cell 1 _ rfl,dA.cell 2 _ rfl,dB.cell 0 _ rfl,dB.cell 1 _ rfl,dB.cell 2 _ rfl,show (tlWy tC).a = 7 from rfl,show (tlWy tC).h = 2 from rfl,show (tlWy tC).n = 2 from rfl,show (tlWy tB).a = 32 from rfl,show (tlWy tB).h = 1 from rfl,show (tlWy tB).n = 3 from rfl,show (IntKind.i64.wrap (IntKind.i64.wrap 0) == 0) = true from by decide]
  refine FN.mono (knum_c 310 w17) ?_
  rintro _ _ ⟨rfl,rfl⟩
  rename_i w17
  simp [dN,hBe.cell 0 _ rfl,hBe.cell 2 _ rfl,show (tlWy tG).a = 13 from rfl,show (tlWy tG).n = 2 from rfl]
  refine LV_mark ?_ (by simp) ?_
  ·exact hX117.obj hD
  simp
  have y6 := hX6.size
  exact (hX6.trans (hX6W.trans hX117)).putObj _ _ (by omega)
end Go.Proofs