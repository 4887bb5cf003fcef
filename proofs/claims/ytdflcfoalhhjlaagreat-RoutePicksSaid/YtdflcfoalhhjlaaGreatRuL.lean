/-
 Contracts of the functions that the law reaches,step by step.
-/
import Derived.Test.YtdflcfoalhhjlaaGreatRuI
namespace Go.Proofs
open Pk
set_option maxRecDepth 10000
def k1 : Ct := ⟨1,2,0,10,10⟩
def k2 : Ct := ⟨2,3,5,20,10⟩
def k3 : Ct := ⟨1,3,30,40,10⟩
def s0 : List St := [⟨1,2,0,2⟩]
theorem rows_L : [k1,k2,k3].foldl nxL [] = [k1,k3,k2] := by decide
theorem rows_S : s0.foldl rsetL [] = s0 := by
 simp [s0,rsetL,badS]
 decide
def sentBf (lf : Int → Int) (o u : Int) : Int → List Int → Int
 | b,[] => b
 | b,s :: ks => sentBf lf o u (if o < s ∧ s ≤ u then min b (lf s) else b) ks
theorem sentB_f (m : ML) (o u : Int) : ∀ (ks : List Int) (b : Int), sentB m o u b ks = sentBf (lnd m) o u b ks
 | [],b => rfl
 | s :: ks,b => by unfold sentB sentBf; exact sentB_f m o u ks _
def gS (m : VM) (sl : List St) (n : Int) (c : Ct) (a : Int) : Option Int :=
 if 0 ≤ c.sf ∧ 1 ≤ n then
  (if sentN m c a n = true then none else if c.su < overL m c a n then none
  else if 4611686018427387903 ≤ sentBf (rlnd sl c.fr c.to') (overL m c a n) c.su (rlnd sl c.fr c.to' (overL m c a n)) ((sl.filter (ofFG c.fr c.to')).map (·.a)) then none
  else some (sentBf (rlnd sl c.fr c.to') (overL m c a n) c.su (rlnd sl c.fr c.to' (overL m c a n)) ((sl.filter (ofFG c.fr c.to')).map (·.a))))
 else none
theorem gSnt_s {M : ME} (h : RelT M s0) (hn : ∀ q, ((sps M q).map (·.1)).Nodup) (m : VM) (n : Int) : gSnt M m n = gS m s0 n := by
 funext c a
 unfold gSnt gS sentO
 have hl : lnd (sps M (c.fr,c.to')) = rlnd s0 c.fr c.to' := by funext x; exact h.lnd _ _ _
 have hk : kys (sps M (c.fr, c.to')) = (s0.filter (ofFG c.fr c.to')).map (·.a) := by
  refine (h.steps hn (kys_ok _) ⟨?_,List.Perm.refl _⟩).1.symm
  unfold s0
  by_cases e : ofFG c.fr c.to' ⟨1, 2, 0, 2⟩ = true
  ·simp [e]
  ·simp [e]
 rw [sentB_f,hl,hk]
theorem wk_closed {L : List Ct} {snt : Ct → Int → Option Int} {F : List Ct} {at0 : Int} (T : List Tl) (h1 : ∀ f ∈ F, ∀ a, snt f at0 = some a → ⟨a, 1, f, f.to'⟩ ∈ T) (h2 : ∀ x ∈ T, ∀ c ∈ L, c.fr = x.n → ∀ b, snt c x.a = some b → ⟨b, x.h + 1, x.f, c.to'⟩ ∈ T) {y : Tl} (hy : Gr.Wk L snt F at0 y) : y ∈ T := by
 induction hy with
 | one f a hf hs => exact h1 f hf a hs
 | step x c b hx hc hn hs ih => exact h2 x ih c hc hn b hs
def mB : VM := bookM [] k1 90
theorem book_1 : bookE [] k1 90 = 0 := by decide
theorem v1 : gS [] s0 20 k1 0 = some 4 := by decide
theorem v2 : gS [] s0 20 k3 0 = some 32 := by decide
theorem v3 : gS [] s0 20 k2 4 = some 7 := by decide
theorem v4 : gS mB s0 20 k1 0 = none := by decide
theorem v5 : gS mB s0 20 k3 0 = some 32 := by decide
def quA : Qu := ⟨1,3,0,20,9,[]⟩
def tA : Tl := ⟨4,1,k1,2⟩
def tB : Tl := ⟨32,1,k3,3⟩
def tC : Tl := ⟨7,2,k1,3⟩
theorem fs_0 : Gr.Fs [k1,k3,k2] 1 [] = [k1,k3] := by decide
theorem fs_1 : Gr.Fs [k1,k3,k2] 1 [k1] = [k3] := by decide
theorem fs_2 : Gr.Fs [k1,k3,k2] 1 [k1,k3] = [] := by decide
theorem fs_3 : Gr.Fs [k1,k3,k2] 1 [k3] = [k1] := by decide
theorem apart_0 : Gr.FApart (Gr.Fs [k1, k3, k2] 1 []) := by
 rw [fs_0]
 intro f hf g hg e1 e2
 simp at hf hg
 rcases hf with rfl | rfl <;> rcases hg with rfl | rfl
 ·rfl
 ·cases e1
 ·cases e1
 ·rfl
theorem walks_A {y : Tl} (hy : Gr.Wk [k1, k3, k2] (gS [] s0 20) [k1, k3] 0 y) : y = tA ∨ y = tB ∨ y = tC := by
 have := wk_closed [tA, tB, tC] (fun f hf a ha => ?_) (fun x hx c hc hn b hb => ?_) hy
 ·simpa using this
 ·simp at hf
  rcases hf with rfl | rfl
  ·rw [v1] at ha; cases ha; simp [tA,k1]
  ·rw [v2] at ha; cases ha; simp [tB,k3]
 ·simp at hx
  rcases hx with rfl | rfl | rfl
  ·simp at hc
   rcases hc with rfl | rfl | rfl
   ·cases hn
   ·cases hn
   ·have e : gS [] s0 20 k2 tA.a = some 7 := v3
    rw [e] at hb; cases hb; simp [tC,tA,k2]
  ·simp at hc
   rcases hc with rfl | rfl | rfl <;> cases hn
  ·simp at hc
   rcases hc with rfl | rfl | rfl <;> cases hn
theorem walks_B {y : Tl} (hy : Gr.Wk [k1, k3, k2] (gS mB s0 20) [k1, k3] 0 y) : y = tB := by
 have := wk_closed [tB] (fun f hf a ha => ?_) (fun x hx c hc hn b hb => ?_) hy
 ·simpa using this
 ·simp at hf
  rcases hf with rfl | rfl
  ·rw [v4] at ha; cases ha
  ·rw [v5] at ha; cases ha; simp [tB,k3]
 ·simp at hx
  subst hx
  simp at hc
  rcases hc with rfl | rfl | rfl <;> cases hn
theorem walk_C : Gr.Wk [k1,k3,k2] (gS [] s0 20) [k1,k3] 0 tC := .step tA k2 7 (.one k1 4 (by simp) v1) (by simp) rfl v3
theorem best_1 : Gr.BestOf [k1, k3, k2] (gS [] s0 20) (Gr.Fs [k1, k3, k2] 1 []) 0 9 3 tC := by
 rw [fs_0]
 refine ⟨walk_C,rfl,by decide,fun y hy hn _ => ?_⟩
 rcases walks_A hy with rfl | rfl | rfl
 ·cases hn
 ·decide
 ·decide
theorem sub_1 {m : VM} {y : Tl} (h : Gr.Wk [k1, k3, k2] (gS m s0 20) [k3] 0 y) : Gr.Wk [k1, k3, k2] (gS m s0 20) [k1, k3] 0 y ∧ y.f = k3 := by
 have := h.f_mem
 simp at this
 exact ⟨h.sub (by simp [this]),this⟩
theorem best_2 : Gr.BestOf [k1, k3, k2] (gS [] s0 20) (Gr.Fs [k1, k3, k2] 1 [k1]) 0 9 3 tB := by
 rw [fs_1]
 refine ⟨.one k3 32 (by simp) v2,rfl,by decide,fun y hy hn _ => ?_⟩
 obtain ⟨h1,h2⟩ := sub_1 hy
 rcases walks_A h1 with rfl | rfl | rfl
 ·cases hn
 ·decide
 ·cases h2
theorem best_3 : Gr.BestOf [k1, k3, k2] (gS mB s0 20) (Gr.Fs [k1, k3, k2] 1 []) 0 9 3 tB := by
 rw [fs_0]
 refine ⟨.one k3 32 (by simp) v5,rfl,by decide,fun y hy hn _ => ?_⟩
 obtain rfl := walks_B hy
 decide
theorem ways_100 : WaysOf [k1, k3, k2] (gS [] s0 20) quA 100 [] [tC, tB] :=
 .cons [] tC _ best_1 (by decide) (.cons [k1] tB _ best_2 (by decide) (.nil [k1, k3] (.inr fun y hy _ _ => by
  rw [show Gr.Fs [k1,k3,k2] quA.fr [k1,k3] = [] from fs_2] at hy
  have := hy.f_mem
  cases this)))
theorem ways_32 : WaysOf [k1, k3, k2] (gS [] s0 20) quA 32 [] [tC] :=
 .cons [] tC _ best_1 (by decide) (.nil [k1] (.inl ⟨tB,best_2,by decide⟩))
theorem ways_7 : WaysOf [k1,k3,k2] (gS [] s0 20) quA 7 [] [] := .nil [] (.inl ⟨tC,best_1,by decide⟩)
theorem ways_b : WaysOf [k1, k3, k2] (gS mB s0 20) quA 100 [] [tB] :=
 .cons [] tB _ best_3 (by decide) (.nil [k3] (.inr fun y hy _ _ => by
  rw [show Gr.Fs [k1,k3,k2] quA.fr [k3] = [k1] from fs_3] at hy
  have h1 := hy.f_mem
  simp at h1
  have := walks_B (hy.sub (F' := [k1,k3]) (by simp [h1]))
  rw [this] at h1
  cases h1))
theorem waysT_is {L : List Ct} {snt : Ct → Int → Option Int} {q : Qu} {til many : Int} {l xs : List Tl} {n : Int} (h : WaysT L snt q til many l n) (hA : Gr.FApart (Gr.Fs L q.fr [])) (hb : badM q til many = false) (hx : WaysOf L snt q til q.no xs) (hl : (xs.length : Int) < many) : l = xs ∧ n = if xs = [] then 310 else 0 := by
 obtain ⟨h1,h2,h3,h4⟩ := h.ok hb
 have := h1.same hA (n := many.toNat) (by omega) (fun h => h3 (by omega)) hx.wyp (by omega) (fun _ => hx)
 subst this
 exact ⟨rfl,h4⟩
end Go.Proofs
namespace Go.Proofs
open Pk
set_option maxRecDepth 10000
theorem met_c (a b c d : Int) (w : World) : FN Tryz.prog 64 [u32 a, u32 b, u64 c, u64 d] w fun e w' => e = .returned (ctV ⟨a, b, c, d, 10⟩) ∧ Ext w w' := by
 refine FN_enter Tryz.func64 rfl rfl (by kernel_rfl) ?_
 simp
 exact (Ext.refl w).alloc _
theorem ctOk_k : CtOk k1 ∧ CtOk k2 ∧ CtOk k3 := ⟨⟨by decide,by decide,by decide,by decide,by decide⟩,⟨by decide,by decide,by decide,by decide,by decide⟩,⟨by decide,by decide,by decide,by decide,by decide⟩⟩
theorem quOk_k : QuOk quA := ⟨by decide,by decide,by decide,by decide,by decide⟩
def ExE (w : World) (e : Ending) (w' : World) : Prop := ∃ vP vS,e = .returned (seV vP vS) ∧ SetOk w' vP vS [k1,k2,k3] s0
theorem example_c (w : World) : FN Tryz.prog 28 [] w fun e w' => ExE w e w' ∧ Ext w w' := by
 refine FN_enter Tryz.func28 rfl rfl (by kernel_rfl) ?_
 have hE0 : Ext w (w.alloc (.cells #[.slice none 0 0,.slice none 0 0] 25)) := (Ext.refl w).alloc _
 have b0 : Blk (w.alloc (.cells #[.slice none 0 0,.slice none 0 0] 25)) w.heap.size [.slice none 0 0,.slice none 0 0] := Blk.new w _ 25
 simp
 generalize (w.alloc (.cells #[.slice none 0 0,.slice none 0 0] 25)) = w0 at *
 refine FN.mono (met_c 1 2 0 10 w0) ?_
 rintro _ w1 ⟨rfl,hE1⟩
 simp
 refine FN.mono (met_c 2 3 5 20 w1) ?_
 rintro _ w2 ⟨rfl,hE2⟩
 simp
 refine FN.mono (met_c 1 3 30 40 w2) ?_
 rintro _ w3 ⟨rfl,hE3⟩
 have e4 : Ext w3 ((w3.alloc (.cells #[u32 1,u32 2,u64 0,u64 10,u64 10,u32 2,u32 3,u64 5,u64 20,u64 10,u32 1,u32 3,u64 30,u64 40,u64 10] 64)).alloc (.cells #[u32 1,u32 2,u64 0,u64 2] 94)) := ((Ext.refl w3).alloc _).alloc _
 have hp : Sl ((w3.alloc (.cells #[u32 1, u32 2, u64 0, u64 10, u64 10, u32 2, u32 3, u64 5, u64 20, u64 10, u32 1, u32 3, u64 30, u64 40, u64 10] 64)).alloc (.cells #[u32 1, u32 2, u64 0, u64 2] 94)) 5 (.slice (some ⟨w3.heap.size, 0, none⟩) 3 3) 3 ([k1, k2, k3].flatMap ctC) :=
  (Sl.made w3 ([k1,k2,k3].flatMap ctC) 64 5 3 rfl).ext ((Ext.refl _).alloc _)
 have hs : Sl ((w3.alloc (.cells #[u32 1, u32 2, u64 0, u64 10, u64 10, u32 2, u32 3, u64 5, u64 20, u64 10, u32 1, u32 3, u64 30, u64 40, u64 10] 64)).alloc (.cells #[u32 1, u32 2, u64 0, u64 2] 94)) 4 (.slice (some ⟨w3.heap.size + 1, 0, none⟩) 1 1) 1 (s0.flatMap stCells) := by
  have := Sl.made (w3.alloc (.cells #[u32 1,u32 2,u64 0,u64 10,u64 10,u32 2,u32 3,u64 5,u64 20,u64 10,u32 1,u32 3,u64 30,u64 40,u64 10] 64)) (s0.flatMap stCells) 94 4 1 rfl
  simpa [s0,stCells] using this
 have bX := ((b0.ext hE1).ext hE2).ext (hE3.trans e4)
 simp [bX.cell 0 _ rfl,bX.cell 1 _ rfl,bX.thaw,cell_setCell]
 have hMs : Mod (fun k => k = w.heap.size) ((w3.alloc (.cells #[u32 1,u32 2,u64 0,u64 10,u64 10,u32 2,u32 3,u64 5,u64 20,u64 10,u32 1,u32 3,u64 30,u64 40,u64 10] 64)).alloc (.cells #[u32 1,u32 2,u64 0,u64 2] 94)) ((((w3.alloc (.cells #[u32 1,u32 2,u64 0,u64 10,u64 10,u32 2,u32 3,u64 5,u64 20,u64 10,u32 1,u32 3,u64 30,u64 40,u64 10] 64)).alloc (.cells #[u32 1,u32 2,u64 0,u64 2] 94)).setCell ⟨w.heap.size,0,none⟩ (.slice (some ⟨w3.heap.size,0,none⟩) 3 3)).setCell ⟨w.heap.size,1,none⟩ (.slice (some ⟨w3.heap.size + 1,0,none⟩) 1 1)) := ((Mod.refl _ _).setC _ _).setC _ _
 have l0 := b0.lt
 have l3 := ((hE1.trans hE2).trans hE3).size
 have hp' := (hp.mod hMs (by simp only [slB]; omega)).toB
 have hs' := (hs.mod hMs (by simp only [slB]; omega)).toB
 have hX : Ext w ((w3.alloc (.cells #[u32 1,u32 2,u64 0,u64 10,u64 10,u32 2,u32 3,u64 5,u64 20,u64 10,u32 1,u32 3,u64 30,u64 40,u64 10] 64)).alloc (.cells #[u32 1,u32 2,u64 0,u64 2] 94)) := ((hE0.trans hE1).trans hE2).trans (hE3.trans e4)
 refine ⟨⟨_, _, rfl, ⟨hp', hs', fun c hc => ?_, fun s hs => ?_, by decide, by decide⟩⟩, ((hX.mod (S := fun k => w.heap.size ≤ k)).trans (hMs.weaken fun k hk => by omega)).ext fun _ h => h⟩
 ·simp at hc
  rcases hc with rfl | rfl | rfl
  ·exact ctOk_k.1
  ·exact ctOk_k.2.1
  ·exact ctOk_k.2.2
 ·simp [s0] at hs
  subst hs
  exact ⟨by decide,by decide,by decide,by decide⟩
theorem pick_1 : PickT [tlWy tC, tlWy tB] [2] (tlWy tB) 0 := .inr ⟨1, by decide, rfl, rfl, by decide, fun j hj h => by
 obtain rfl : j = 0 := by omega
 show (tlWy tC).n ∈ [2]
 decide⟩
theorem pick_2 : PickT [tlWy tC,tlWy tB] [2,3] wyZ 310 := .inl ⟨rfl,rfl,by decide⟩
def bsW : List (List Nat) := [[], [0], [0, 1], [0, 1, 2], [0, 1], [0, 1, 2, 3, 4], [0, 1, 2, 3, 4, 5], [0, 1], [0, 1, 2, 3, 4, 5, 7], [0, 1, 2, 3, 4, 5, 6, 7, 8], [0, 1], [0, 1, 2, 3, 4, 5, 7, 8, 10], [0, 1, 2, 3, 4, 5, 6, 7, 8, 9, 10, 11], [0, 1], [0, 1, 2, 3, 4, 5, 7, 8, 10, 11, 13]] ++
 (List.range 74).map fun j => (List.range (j + 15)).filter fun k => !(Nat.ble 35 j && Nat.ble j 37 && Nat.ble 47 k && Nat.ble k 49 || Nat.ble 52 j && Nat.ble j 54 && Nat.beq k 66 || Nat.ble 71 j && Nat.ble j 73 && Nat.ble 83 k && Nat.ble k 85)
set_option maxHeartbeats 4000000 in
theorem works_c (w : World) : FN Tryz.prog 8 [] w fun e w' => e = .returned (.bool true) ∧ Ext w w' := by
 refine FN_enter Tryz.func8 rfl rfl (by kernel_rfl) ?_
 simp
 refine FN.mono (vnew_c w) ?_
 rintro _ w1 ⟨q,r,rfl,hL1,hE1,y1,y2⟩
 simp
 refine FN.mono (example_c w1) ?_
 rintro _ w2 ⟨⟨vP,vS,rfl,hSO⟩,hE2⟩
 simp
 refine FN.mono (made_c hSO (hL1.ext hE2)) ?_
 rintro _ w3 ⟨⟨g,vp,vt,L,M,rfl,hMd,-⟩,hE3⟩
 have hX3 := (hE1.trans hE2).trans hE3
 obtain ⟨p1,v1,t1,R1,q1,r1,hGr⟩ := hMd.g
 have hrt := hMd.rt
 rw [rows_S] at hrt
 have hpl := hMd.pl
 have htb := hMd.tb
 have heL : L = [k1,k3,k2] := hMd.eL.trans rows_L
 have hsn : ∀ n,gSnt M [] n = gS [] s0 n := fun n => gSnt_s hrt hMd.nd [] n
 have hvm : vmOk [] := fun x hx => (by cases hx)
 obtain ⟨a1,d1,hp1⟩ := hpl.isSlice
 obtain ⟨a2,d2,hp2⟩ := htb.isSlice
 rw [hp1,hp2]
 have hE4 : Ext w3 ((w3.alloc (.cells #[.slice a1 L.length d1,.slice a2 (s0.foldl rsetL []).length d2,.slice none 0 0] 43)).alloc (.cells #[u32 1,u32 3,u64 0,u64 20,i64 9,.slice none 0 0] 29)) := ((Ext.refl w3).alloc _).alloc _
 have kq : Blk ((w3.alloc (.cells #[.slice a1 L.length d1, .slice a2 (s0.foldl rsetL []).length d2, .slice none 0 0] 43)).alloc (.cells #[u32 1, u32 3, u64 0, u64 20, i64 9, .slice none 0 0] 29)) (w3.heap.size + 1) (quC quA (.slice none 0 0)) := by
  have := Blk.new (w3.alloc (.cells #[.slice a1 L.length d1,.slice a2 (s0.foldl rsetL []).length d2,.slice none 0 0] 43)) (quC quA (.slice none 0 0)) 29
  simp only [World.size_alloc] at this
  exact this
 simp
 generalize ((w3.alloc (.cells #[.slice a1 L.length d1,.slice a2 (s0.foldl rsetL []).length d2,.slice none 0 0] 43)).alloc (.cells #[u32 1,u32 3,u64 0,u64 20,i64 9,.slice none 0 0] 29)) = w4 at *
 have hX4 := hX3.trans hE4
 have hG4 := hGr.ext hE4
 have h2 := hE2.trans (hE3.trans hE4)
 subst heL
 have ways := fun (W : World) (hX : Ext w4 W) (til many : Int) => rways_c (q := quA) (nv := .slice none 0 0) (til := til) (many := many) (hG4.ext hX) (SlB.nil _ _ _) hMd.gd hvm hMd.sl quOk_k hMd.so.ok hMd.bl (by decide)
 have kk := kq
 simp only [quA] at kk
 refine FN.mono (ways w4 (Ext.refl _) 100 5) ?_
 rintro _ w5 ⟨⟨va,la,na,rfl,hSa,hTa,hga⟩,hE5⟩
 rw [hsn] at hTa
 obtain ⟨rfl,rfl⟩ := waysT_is hTa apart_0 (by decide) ways_100 (by decide)
 obtain ⟨aa,ca,rfl⟩ := hSa.isSlice
 simp [(kk.ext hE5).cell 0 _ rfl,(kk.ext hE5).cell 1 _ rfl,(kk.ext hE5).cell 2 _ rfl,(kk.ext hE5).cell 3 _ rfl,(kk.ext hE5).cell 4 _ rfl,(kk.ext hE5).cell 5 _ rfl]
 refine FN.mono (ways w5 hE5 32 5) ?_
 rintro _ w6 ⟨⟨vb,lb,nb,rfl,hSb,hTb,hgb⟩,hE6⟩
 rw [hsn] at hTb
 obtain ⟨rfl,rfl⟩ := waysT_is hTb apart_0 (by decide) ways_32 (by decide)
 obtain ⟨ab,cb,rfl⟩ := hSb.isSlice
 have hE56 := hE5.trans hE6
 simp [(kk.ext hE56).cell 0 _ rfl,(kk.ext hE56).cell 1 _ rfl,(kk.ext hE56).cell 2 _ rfl,(kk.ext hE56).cell 3 _ rfl,(kk.ext hE56).cell 4 _ rfl,(kk.ext hE56).cell 5 _ rfl]
 refine FN.mono (ways w6 hE56 7 5) ?_
 rintro _ w7 ⟨⟨vc,lc,nc,rfl,hSc,hTc,hgc⟩,hE7⟩
 rw [hsn] at hTc
 obtain ⟨rfl,rfl⟩ := waysT_is hTc apart_0 (by decide) ways_7 (by decide)
 obtain ⟨ac,cc,rfl⟩ := hSc.isSlice
 have hE57 := hE56.trans hE7
 simp [(kk.ext hE57).cell 0 _ rfl,(kk.ext hE57).cell 1 _ rfl,(kk.ext hE57).cell 2 _ rfl,(kk.ext hE57).cell 3 _ rfl,(kk.ext hE57).cell 4 _ rfl,(kk.ext hE57).cell 5 _ rfl]
 refine FN.mono (ways w7 hE57 9 0) ?_
 rintro _ w8 ⟨⟨vd,ld,nd,rfl,hSd,hTd,hgd⟩,hE8⟩
 obtain ⟨rfl,rfl⟩ := hTd.bad (by decide)
 obtain ⟨ad,cd,rfl⟩ := hSd.isSlice
 have hX8 := hE57.trans hE8
 have hX68 := hE6.trans (hE7.trans hE8)
 have hX78 := hE7.trans hE8
 simp
 have hSa8 : SlB w8 8 (.slice aa 2 ca) 2 ([tlWy tC,tlWy tB].flatMap wyC) := hSa.ext hX68
 have hE9 : Ext w8 (w8.alloc (.cells #[u32 2] 26)) := (Ext.refl w8).alloc _
 have hs9 : Sl (w8.alloc (.cells #[u32 2] 26)) 1 (.slice (some ⟨w8.heap.size,0,none⟩) 1 1) 1 ([2].map u32) := Sl.made w8 ([2].map u32) 26 1 1 rfl
 generalize (w8.alloc (.cells #[u32 2] 26)) = w9 at *
 refine FN.mono (rpick_c (l := [tlWy tC,tlWy tB]) (but := [2]) hs9.toB (hSa8.ext hE9) (by decide) (by decide)) ?_
 rintro _ w10 ⟨⟨x1,n1,rfl,hP1⟩,hE10⟩
 obtain ⟨rfl,rfl⟩ := hP1.uniq pick_1
 have hE11 : Ext w10 (w10.alloc (.cells #[u64 (tlWy tB).a,i64 (tlWy tB).h,u32 (tlWy tB).n,u32 (tlWy tB).f.fr,u32 (tlWy tB).f.to',u64 (tlWy tB).f.sf,u64 (tlWy tB).f.su,u64 (tlWy tB).f.rate] 66)) := (Ext.refl w10).alloc _
 have kp1 : Blk (w10.alloc (.cells #[u64 (tlWy tB).a,i64 (tlWy tB).h,u32 (tlWy tB).n,u32 (tlWy tB).f.fr,u32 (tlWy tB).f.to',u64 (tlWy tB).f.sf,u64 (tlWy tB).f.su,u64 (tlWy tB).f.rate] 66)) w10.heap.size (wyC (tlWy tB)) := Blk.new w10 (wyC (tlWy tB)) 66
 have z11 : (w10.alloc (.cells #[u64 (tlWy tB).a,i64 (tlWy tB).h,u32 (tlWy tB).n,u32 (tlWy tB).f.fr,u32 (tlWy tB).f.to',u64 (tlWy tB).f.sf,u64 (tlWy tB).f.su,u64 (tlWy tB).f.rate] 66)).heap.size = w10.heap.size + 1 := by simp
 simp
 generalize (w10.alloc (.cells #[u64 (tlWy tB).a,i64 (tlWy tB).h,u32 (tlWy tB).n,u32 (tlWy tB).f.fr,u32 (tlWy tB).f.to',u64 (tlWy tB).f.sf,u64 (tlWy tB).f.su,u64 (tlWy tB).f.rate] 66)) = w11 at *
 have hX11 := hE9.trans (hE10.trans hE11)
 have hSa11 := hSa8.ext hX11
 have hE12 : Ext w11 (w11.alloc (.cells #[u32 2,u32 3] 26)) := (Ext.refl w11).alloc _
 have hs12 : Sl (w11.alloc (.cells #[u32 2,u32 3] 26)) 1 (.slice (some ⟨w11.heap.size,0,none⟩) 2 2) 2 ([2,3].map u32) := Sl.made w11 ([2,3].map u32) 26 1 2 rfl
 rw [z11] at hs12
 generalize (w11.alloc (.cells #[u32 2,u32 3] 26)) = w12 at *
 refine FN.mono (rpick_c (l := [tlWy tC,tlWy tB]) (but := [2,3]) hs12.toB (hSa11.ext hE12) (by decide) (by decide)) ?_
 rintro _ w13 ⟨⟨x2,n2,rfl,hP2⟩,hE13⟩
 obtain ⟨rfl,rfl⟩ := hP2.uniq pick_2
 have hE14 : Ext w13 (w13.alloc (.cells #[u64 wyZ.a,i64 wyZ.h,u32 wyZ.n,u32 wyZ.f.fr,u32 wyZ.f.to',u64 wyZ.f.sf,u64 wyZ.f.su,u64 wyZ.f.rate] 66)) := (Ext.refl w13).alloc _
 simp
 generalize (w13.alloc (.cells #[u64 wyZ.a,i64 wyZ.h,u32 wyZ.n,u32 wyZ.f.fr,u32 wyZ.f.to',u64 wyZ.f.sf,u64 wyZ.f.su,u64 wyZ.f.rate] 66)) = w14 at *
 have hX14 := hE12.trans (hE13.trans hE14)
 have hSa14 := (hSa11.ext hX14).toSl (by decide)
 have ra0 := wyRow (l := [tlWy tC,tlWy tB]) hSa14 (i := 0) (by decide)
 have xa0 := fun W => wyIndex (l := [tlWy tC,tlWy tB]) hSa14 0 (by decide) W
 have hX24 := (hX4.trans hX8).trans (hX11.trans hX14)
 have hL14 := hL1.ext (h2.trans (hX8.trans (hX11.trans hX14)))
 have e0 : (([tlWy tC,tlWy tB] : List Wy)[0]'(by decide)) = tlWy tC := rfl
 rw [e0] at ra0
 simp at xa0
 obtain ⟨c0,c1,c2,c3,c4,c5,c6,c7⟩ := ra0
 simp only [Nat.zero_mul,Nat.add_zero] at c0 c1 c2 c3 c4 c5 c6 c7
 simp [xa0,c0,c1,c2,c3,c4,c5,c6,c7]
 refine FN.mono (take_c (x := tlWy tC) (n := 90) hL14 hvm ctOk_k.1 (by decide)) ?_
 rintro _ w15 ⟨rfl,hL15,hM15⟩
 rw [show bookE [] (tlWy tC).f 90 = 0 from book_1]
 have hL15 : LedAt w15 q r mB := hL15
 have hvB : vmOk mB := bookM_ok hvm ctOk_k.1 (by decide)
 have hrl := hL1.lt.2
 have zz1 := hE1.size
 have zz2 := hX3.size
 have zz3 := (hE2.trans hE3).size
 have zz4 := hE4.size
 have X15 : Ext w w15 := (((hE1.trans (h2.trans (hX8.trans (hX11.trans hX14)))).mod (S := fun k => w.heap.size ≤ k)).trans (hM15.weaken fun k hk => by omega)).ext fun _ h => h
 have kq15 := (kk.ext (hX8.trans (hX11.trans hX14))).mod hM15 (by omega)
 have zz5 := hE5.size
 have zz8 := hX8.size
 have gA : ¬ slB (.slice aa 2 ca) = r := by
  have : w4.heap.size ≤ slB (.slice aa 2 ca) := hga (by simp)
  omega
 have gB : ¬ slB (.slice ab 1 cb) = r := by
  have : w5.heap.size ≤ slB (.slice ab 1 cb) := hgb (by simp)
  omega
 have hSa15 := ((hSa11.ext hX14)).mod hM15 (fun _ => gA)
 have hSb15 := (hSb.ext (hX78.trans (hX11.trans hX14))).mod hM15 (fun _ => gB)
 have kp15 := (kp1.ext hX14).mod hM15 (by have := hE9.size; have := hE10.size; have := hX4.size; have := h2.size; omega)
 simp
 refine FN.mono (example_c w15) ?_
 rintro _ w16 ⟨⟨vP',vS',rfl,hSO'⟩,hE16⟩
 simp
 refine FN.mono (made_c hSO' (hL15.ext hE16)) ?_
 rintro _ w17 ⟨⟨g',vp',vt',L',M',rfl,hMd',-⟩,hE17⟩
 obtain ⟨p2,v2,t2,R2,q2,r2,hGr'⟩ := hMd'.g
 have hrt' := hMd'.rt
 rw [rows_S] at hrt'
 have heL' : L' = [k1,k3,k2] := hMd'.eL.trans rows_L
 have hsn' : ∀ n,gSnt M' mB n = gS mB s0 n := fun n => gSnt_s hrt' hMd'.nd mB n
 obtain ⟨a3,d3,hp3⟩ := hMd'.pl.isSlice
 obtain ⟨a4,d4,hp4⟩ := hMd'.tb.isSlice
 rw [hp3,hp4]
 have hE18 : Ext w17 (w17.alloc (.cells #[.slice a3 L'.length d3,.slice a4 (s0.foldl rsetL []).length d4,.slice none 0 0] 43)) := (Ext.refl w17).alloc _
 have hX18 := hE16.trans (hE17.trans hE18)
 have kq17 := kq15.ext (hE16.trans hE17)
 simp [(kq17).cell 0 _ rfl,(kq17).cell 1 _ rfl,(kq17).cell 2 _ rfl,(kq17).cell 3 _ rfl,(kq17).cell 4 _ rfl,(kq17).cell 5 _ rfl]
 generalize (w17.alloc (.cells #[.slice a3 L'.length d3,.slice a4 (s0.foldl rsetL []).length d4,.slice none 0 0] 43)) = w18 at *
 subst heL'
 refine FN.mono (rways_c (q := quA) (nv := .slice none 0 0) (til := 100) (many := 5) (hGr'.ext hE18) (SlB.nil _ _ _) hMd'.gd hvB hMd'.sl quOk_k hMd'.so.ok hMd'.bl (by decide)) ?_
 rintro _ w19 ⟨⟨ve,le,ne,rfl,hSe,hTe,hge⟩,hE19⟩
 rw [hsn'] at hTe
 obtain ⟨rfl,rfl⟩ := waysT_is hTe apart_0 (by decide) ways_b (by decide)
 obtain ⟨ae,ce,rfl⟩ := hSe.isSlice
 simp
 refine WC_drawB 89 (.F 0 <| .F 1 <| .F 2 <| .F 4 <| .F 7 <| .F 10 <| .F 13 <| .C 3 <| .C 5 <| .F 6 <| .C 8 <| .F 9 <| .C 11 <| .F 12 <| .C 14 <| .F 15 <| .F 16 <| .F 17 <| .F 18 <| .F 19 <| .F 20 <| .F 21 <| .F 22 <| .F 23 <| .F 24 <| .F 25 <| .F 26 <| .F 27 <| .F 28 <| .F 29 <| .F 30 <| .F 31 <| .F 32 <| .F 33 <| .F 34 <| .F 35 <| .F 36 <| .F 37 <| .F 38 <| .F 39 <| .F 40 <| .F 41 <| .F 42 <| .F 43 <| .F 44 <| .F 45 <| .F 46 <| .F 47 <| .F 48 <| .F 49 <| .F 50 <| .F 51 <| .F 52 <| .C 53 <| .F 54 <| .F 55 <| .F 56 <| .C 57 <| .F 58 <| .F 59 <| .F 60 <| .F 61 <| .C 62 <| .F 63 <| .F 64 <| .F 65 <| .F 66 <| .F 67 <| .F 68 <| .F 69 <| .C 70 <| .F 71 <| .F 72 <| .F 73 <| .C 74 <| .F 75 <| .F 76 <| .F 77 <| .F 78 <| .F 79 <| .F 80 <| .F 81 <| .F 82 <| .F 83 <| .F 84 <| .F 85 <| .F 86 <| .F 87 <| .F 88 <| .Z) (fun _ => false) bsW rfl (by kernel_rfl) fun W hW => ?_
 have hEW : Ext w19 W := hW ▸ Ext.drew w19
 have hXW := hX18.trans (hE19.trans hEW)
 have rA0 := wyRow (l := [tlWy tC,tlWy tB]) ((hSa15.ext hXW).toSl (by decide)) (i := 0) (by decide)
 have rA1 := wyRow (l := [tlWy tC,tlWy tB]) ((hSa15.ext hXW).toSl (by decide)) (i := 1) (by decide)
 have xA0 := fun W' => wyIndex (l := [tlWy tC,tlWy tB]) ((hSa15.ext hXW).toSl (by decide)) 0 (by decide) W'
 have xA1 := fun W' => wyIndex (l := [tlWy tC,tlWy tB]) ((hSa15.ext hXW).toSl (by decide)) 1 (by decide) W'
 have hSb' : SlB W 8 (.slice ab 1 cb) 1 ([tlWy tC].flatMap wyC) := hSb15.ext hXW
 have rB0 := wyRow (l := [tlWy tC]) (hSb'.toSl (by decide)) (i := 0) (by decide)
 have xB0 := fun W' => wyIndex (l := [tlWy tC]) (hSb'.toSl (by decide)) 0 (by decide) W'
 have hSe' : SlB W 8 (.slice ae 1 ce) 1 ([tlWy tB].flatMap wyC) := hSe.ext hEW
 have rE0 := wyRow (l := [tlWy tB]) (hSe'.toSl (by decide)) (i := 0) (by decide)
 have xE0 := fun W' => wyIndex (l := [tlWy tB]) (hSe'.toSl (by decide)) 0 (by decide) W'
 have kpW := kp15.ext hXW
 simp at xA0 xA1 xB0 xE0
 have u0 : (([tlWy tC,tlWy tB] : List Wy)[0]'(by decide)) = tlWy tC := rfl
 have u1 : (([tlWy tC,tlWy tB] : List Wy)[1]'(by decide)) = tlWy tB := rfl
 have u2 : (([tlWy tC] : List Wy)[0]'(by decide)) = tlWy tC := rfl
 have u3 : (([tlWy tB] : List Wy)[0]'(by decide)) = tlWy tB := rfl
 rw [u0] at rA0
 rw [u1] at rA1
 rw [u2] at rB0
 rw [u3] at rE0
 obtain ⟨m0,m1,m2,m3,m4,m5,m6,m7⟩ := rA0
 obtain ⟨n0,n1,n2,n3,n4,n5,n6,n7⟩ := rA1
 obtain ⟨o0,o1,o2,o3,o4,o5,o6,o7⟩ := rB0
 obtain ⟨p0,p1,p2,p3,p4,p5,p6,p7⟩ := rE0
 simp only [Nat.zero_mul,Nat.one_mul,Nat.add_zero] at m0 m1 m2 m3 m4 m5 m6 m7 n0 n1 n2 n3 n4 n5 n6 n7 o0 o1 o2 o3 o4 o5 o6 o7 p0 p1 p2 p3 p4 p5 p6 p7
 have X19 : Ext w W := X15.trans hXW
 clear hW
 have d1 : ((tlWy tC).a == 7) = true := by decide
 have d2 : ((tlWy tC).n == 2) = true := by decide
 have d3 : ((tlWy tB).a == 32) = true := by decide
 have d0 : (IntKind.i64.wrap (IntKind.i64.wrap (IntKind.i64.wrap (IntKind.i64.wrap 0))) == 0) = true := by decide
 have d4 : ((tlWy tB).n == 3) = true := by decide
 simp
 refine FN.mono (knum_c 0 W) ?_
 rintro _ _ ⟨rfl,rfl⟩
 rename_i W
 simp
 refine KR_same ?_
 simp
 refine FN.mono (knum_c 0 W) ?_
 rintro _ _ ⟨rfl,rfl⟩
 rename_i W
 simp
 refine KR_same ?_
 simp
 refine FN.mono (knum_c 0 W) ?_
 rintro _ _ ⟨rfl,rfl⟩
 rename_i W
 simp
 refine KR_same ?_
 simp
 refine FN.mono (knum_c 0 W) ?_
 rintro _ _ ⟨rfl,rfl⟩
 rename_i W
 simp
 refine KR_same ?_
 simp
 refine FN.mono (knum_c 0 W) ?_
 rintro _ _ ⟨rfl,rfl⟩
 rename_i W
 simp
 refine KR_same ?_
 have q1 := eqWy (tlWy tC) (tlWy tC) W
 have q2 := eqWy (tlWy tB) (tlWy tB) W
 simp at q1 q2
 simp [xA0,xA1,xB0,m0,m1,m2,m3,m4,m5,m6,m7,n0,n2,o0,o1,o2,o3,o4,o5,o6,o7,d0,d1,d2,d3,d4,q1]
 refine KR_same ?_
 simp
 refine FN.mono (knum_c 310 W) ?_
 rintro _ _ ⟨rfl,rfl⟩
 rename_i W
 simp
 refine KR_same ?_
 simp
 refine FN.mono (knum_c 2 W) ?_
 rintro _ _ ⟨rfl,rfl⟩
 rename_i W
 simp
 refine KR_same ?_
 simp [(kpW).cell 0 _ rfl,(kpW).cell 1 _ rfl,(kpW).cell 2 _ rfl,(kpW).cell 3 _ rfl,(kpW).cell 4 _ rfl,(kpW).cell 5 _ rfl,(kpW).cell 6 _ rfl,(kpW).cell 7 _ rfl,xA1,n0,n1,n2,n3,n4,n5,n6,n7,q2]
 refine KR_same ?_
 simp
 refine FN.mono (knum_c 310 W) ?_
 rintro _ _ ⟨rfl,rfl⟩
 rename_i W
 simp
 refine KR_same ?_
 simp [xA1,xE0,n0,n1,n2,n3,n4,n5,n6,n7,p0,p1,p2,p3,p4,p5,p6,p7,q2]
 exact X19
end Go.Proofs