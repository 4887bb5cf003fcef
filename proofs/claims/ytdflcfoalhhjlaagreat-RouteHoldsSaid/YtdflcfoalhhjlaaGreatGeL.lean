/-
 Contracts of the functions that the law reaches,step by step.
-/
import Derived.Test.YtdflcfoalhhjlaaGreatGeK
namespace Go.Proofs
open Pk
set_option maxRecDepth 10000
theorem firsts_app (a b : List Ct) (q : Qu) : firsts (a ++ b) q = firsts a q ++ firsts b q := by simp [firsts,fromL]
theorem firsts_one (c : Ct) (q : Qu) : firsts [c] q = if c.fr = q.fr ∧ c ∉ q.no then [c] else [] := by
 by_cases h : c.fr = q.fr
 ·by_cases k : c ∈ q.no
  ·simp [firsts,fromL,h,k]
  ·simp [firsts,fromL,h,k]
 ·simp [firsts,fromL,h]
theorem firsts_sub (L : List Ct) (q : Qu) : ∀ f ∈ firsts L q,f ∈ L := fun f hf => (List.mem_filter.1 (List.mem_filter.1 hf).1).1
structure AllT (L : List Ct) (snt : Ct → Int → Option Int) (F : List Ct) (q : Qu) (K : Nat) (bm : List (Int × Wy)) : Prop where
 is : ∀ n x,mget bm n = some x → n ≠ q.fr ∧ ∃ t,Gr.BestOf L snt F q.at_ K n t ∧ x = tlWy t
 has : ∀ y,Gr.Wk L snt F q.at_ y → y.h ≤ K → y.n ≠ q.fr → (mget bm y.n).isSome = true
def AllI (L : List Ct) (snt : Ct → Int → Option Int) (q : Qu) (K : Nat) (rb A : Nat) (w1 : World) (k : Nat) (ρ : Env) (ds : List Deferred) (W : World) : Prop :=
 ∃ i bm best,(k = L.length - i ∧ i ≤ L.length) ∧ wmAt W rb bm ∧ BMap bm best ∧ Gr.Bst L snt (firsts L q) q.at_ K (fun f k => f ∈ firsts (L.take i) q ∧ k ≤ K) best ∧ Mod (fun k => k = rb) w1 W ∧ ρ 2 = ptr A ∧ ρ 3 = ptr (A + 1) ∧ ρ 5 = .map (some rb) ∧ ρ 6 = i64 i ∧ ds = []
def AllI2 (L : List Ct) (snt : Ct → Int → Option Int) (q : Qu) (K : Nat) (rb A : Nat) (w1 : World) (i : Nat) (c : Ct) (cb : Nat) (bm : List (Int × Wy)) (k : Nat) (ρ : Env) (ds : List Deferred) (W : World) : Prop :=
 ∃ j,(k = q.no.length - j ∧ j ≤ q.no.length) ∧ wmAt W rb bm ∧ Blk W cb (ctC c) ∧ Mod (fun k => k = rb) w1 W ∧ ρ 2 = ptr A ∧ ρ 3 = ptr (A + 1) ∧ ρ 5 = .map (some rb) ∧ ρ 6 = i64 i ∧ ρ 7 = ptr cb ∧ ρ 8 = .bool (decide (c.fr ≠ q.fr) || decide (c ∈ q.no.take j)) ∧ ρ 9 = i64 j ∧ ds = []
set_option maxHeartbeats 4000000 in
theorem dall_c {w : World} {vp vt vl nv : Value} {L : List Ct} {sl : List St} {ll : List LR} {M : ME} {m : VM} (h : DGr w vp vt vl L sl ll M m) (hg : gdT M) {q : Qu} (hq : QuOk q) (hno : SlB w 5 nv q.no.length (q.no.flatMap ctC)) (hnl : q.no.length ≤ 1000) {K : Nat} (hK : K = Nat.min L.length q.most.toNat) :
  FN Tryz.prog 99 [dgV vp vt vl,quV q nv] w fun e w' => (∃ rb bm,e = .returned (.map (some rb)) ∧ wmAt w' rb bm ∧ AllT L (gSnt M m q.size) (firsts L q) q K bm ∧ w.heap.size ≤ rb) ∧ Ext w w' := by
 refine FN_enter Tryz.func99 rfl rfl (by kernel_rfl) ?_
 obtain ⟨pa,pc,hvp⟩ := h.pl.isSlice
 obtain ⟨ta,tc,hvt⟩ := h.tb.isSlice
 obtain ⟨la,lc,hvl⟩ := h.lg.isSlice
 obtain ⟨na,nc,hnv⟩ := hno.isSlice
 have hnv' : ∃ a n c,nv = .slice a n c := ⟨_,_,_,hnv⟩
 have hE : Ext w (((w.alloc (.cells #[vp,vt,vl] 43)).alloc (.cells #[u32 q.fr,u32 q.to',u64 q.at_,u64 q.size,i64 q.most,nv] 29)).alloc (.map #[] 0)) := (((Ext.refl w).alloc _).alloc _).alloc _
 have b2 : Blk (((w.alloc (.cells #[vp,vt,vl] 43)).alloc (.cells #[u32 q.fr,u32 q.to',u64 q.at_,u64 q.size,i64 q.most,nv] 29)).alloc (.map #[] 0)) w.heap.size [vp,vt,vl] := (Blk.new w [vp,vt,vl] 43).ext (((Ext.refl _).alloc _).alloc _)
 have b3 : Blk (((w.alloc (.cells #[vp, vt, vl] 43)).alloc (.cells #[u32 q.fr, u32 q.to', u64 q.at_, u64 q.size, i64 q.most, nv] 29)).alloc (.map #[] 0)) (w.heap.size + 1) (quC q nv) := by
  have := (Blk.new (w.alloc (.cells #[vp,vt,vl] 43)) (quC q nv) 29).ext ((Ext.refl _).alloc (.map #[] 0))
  simpa using this
 have hm : wmAt (((w.alloc (.cells #[vp, vt, vl] 43)).alloc (.cells #[u32 q.fr, u32 q.to', u64 q.at_, u64 q.size, i64 q.most, nv] 29)).alloc (.map #[] 0)) (w.heap.size + 1 + 1) [] := by
  have := MapAt.alloc0 (Value.int .u32) wyV ((w.alloc (.cells #[vp,vt,vl] 43)).alloc (.cells #[u32 q.fr,u32 q.to',u64 q.at_,u64 q.size,i64 q.most,nv] 29))
  simpa using this
 have hsz : (((w.alloc (.cells #[vp,vt,vl] 43)).alloc (.cells #[u32 q.fr,u32 q.to',u64 q.at_,u64 q.size,i64 q.most,nv] 29)).alloc (.map #[] 0)).heap.size = w.heap.size + 1 + 1 + 1 := by simp
 rw [hvp,hvt,hvl,hnv] at hE b2 b3 hm hsz
 rw [hvp,hvt,hvl,hnv]
 simp
 rw [← hvp,← hvt,← hvl,← hnv] at hE b2 b3 hm hsz ⊢
 generalize (((w.alloc (.cells #[vp,vt,vl] 43)).alloc (.cells #[u32 q.fr,u32 q.to',u64 q.at_,u64 q.size,i64 q.most,nv] 29)).alloc (.map #[] 0)) = w1 at *
 obtain ⟨rb,hrb⟩ : ∃ r,r = w.heap.size + 1 + 1 := ⟨_,rfl⟩
 rw [← hrb] at hm ⊢
 generalize hsnt : gSnt M m q.size = snt at *
 have hlenL := fun ty W => h.pl.isLen (P := Tryz.prog) (t := 22) (by simp) ty W
 have hixL := fun i hi W => RPl.index h.pl i hi W
 have hbl := h.bl
 refine WC_loop (fun k ρ ds w' => AllI L snt q K rb w.heap.size w1 k ρ ds w') L.length ⟨0, [], fun _ => none, ⟨by simp, by simp⟩, hm, ⟨fun n => rfl⟩, (Gr.bst_nil K).done_of fun y _ hd => ?_, Mod.refl _ _, by simp, by simp, by simp, by simp, rfl⟩ ?_
 ·obtain ⟨hd,-⟩ := hd
  simp [firsts,fromL] at hd
 rintro k ρ ds w2 ⟨i,bm,best,⟨rfl,hi⟩,hmb,hB,hD,hM,e2,e3,e5,e6,rfl⟩
 have c2 := b2.mod hM (by omega)
 have c3 := b3.mod hM (by omega)
 have hD2 : DGr w2 vp vt vl L sl ll M m := (h.ext hE).map_mod hm hM
 have hsz2 := hM.size
 have nx : IntKind.i64.wrap ((i : Int) + 1) = ((i + 1 : Nat) : Int) := by rw [wrap64 _ (by omega) (by omega)]; rfl
 by_cases hlt : i < L.length
 ·have g := ctRow hD2.pl hlt
  have htk : L.take (i + 1) = L.take i ++ [L[i]] := by rw [List.take_add_one,List.getElem?_eq_getElem hlt]; rfl
  have hcL : L[i] ∈ L := List.getElem_mem hlt
  have hE3 : Ext w2 (w2.alloc (.cells #[u32 L[i].fr,u32 L[i].to',u64 L[i].sf,u64 L[i].su,u64 L[i].rate] 64)) := (Ext.refl w2).alloc _
  have hg3 : Blk (w2.alloc (.cells #[u32 L[i].fr,u32 L[i].to',u64 L[i].sf,u64 L[i].su,u64 L[i].rate] 64)) w2.heap.size (ctC L[i]) := Blk.new w2 (ctC L[i]) 64
  simp [e2,e3,e6,c2.cell 0 _ rfl,(c3).cell 0 _ rfl,hlenL,hlt,hixL i hlt,g.c0,g.c1,g.c2,g.c3,g.c4]
  generalize (w2.alloc (.cells #[u32 L[i].fr,u32 L[i].to',u64 L[i].sf,u64 L[i].su,u64 L[i].rate] 64)) = w3 at *
  generalize hc : L[i] = c at *
  have hM3 : Mod (fun k => k = rb) w1 w3 := hM.trans hE3.mod
  have hz3 := hE3.size
  obtain ⟨cb,hcb⟩ : ∃ r,r = w2.heap.size := ⟨_,rfl⟩
  rw [← hcb] at hg3 ⊢
  refine WC_loop (fun k ρ ds w' => AllI2 L snt q K rb w.heap.size w1 i c cb bm k ρ ds w') q.no.length ⟨0, ⟨by simp, by simp⟩, hmb.ext hE3, hg3, hM3, by simp [e2], by simp [e3], by simp [e5], by simp [e6], by simp, ?_, by simp, rfl⟩ ?_
  ·simp [bne_dec]
  rintro k ρ2 ds w4 ⟨j,⟨rfl,hj⟩,hmb4,hg4,hM4,f2,f3,f5,f6,f7,f8,f9,rfl⟩
  have d2 := b2.mod hM4 (by omega)
  have d3 := b3.mod hM4 (by omega)
  have hD4 : DGr w4 vp vt vl L sl ll M m := (h.ext hE).map_mod hm hM4
  have hno4 : SlB w4 5 nv q.no.length (q.no.flatMap ctC) := (hno.ext hE).kept fun hne a u ha hu => hM4.cell hu (by
   have := (hno.ext hE).lt (List.length_pos_iff.2 hne)
   rw [ha]
   intro e
   have := hno.lt (List.length_pos_iff.2 hne)
   omega)
  have nxj : IntKind.i64.wrap ((j : Int) + 1) = ((j + 1 : Nat) : Int) := by rw [wrap64 _ (by omega) (by omega)]; rfl
  have hlenN := fun ty W => hno.isLen (P := Tryz.prog) (t := 22) (by simp) ty W
  by_cases hjl : j < q.no.length
  ·have ixj := fun W => hno.index (P := Tryz.prog) (t := 22) (by simp) .i64 j (by omega) (by omega) W
   have gj := ctRow (hno4.toSl (by omega)) hjl
   have htj : q.no.take (j + 1) = q.no.take j ++ [q.no[j]] := by rw [List.take_add_one,List.getElem?_eq_getElem hjl]; rfl
   simp at ixj
   have hmem : decide (c ∈ q.no.take (j + 1)) = (decide (c ∈ q.no.take j) || decide (q.no[j] = c)) := by
    rw [htj,Bool.eq_iff_iff]
    simp only [decide_eq_true_eq,Bool.or_eq_true,List.mem_append,List.mem_singleton]
    constructor
    ·rintro (h | h)
     ·exact .inl h
     ·exact .inr h.symm
    ·rintro (h | h)
     ·exact .inl h
     ·exact .inr h.symm
   obtain ⟨nb,hnb⟩ : ∃ nb,nb = (decide (c.fr ≠ q.fr) || decide (c ∈ q.no.take j)) := ⟨_,rfl⟩
   rw [← hnb] at f8
   have fin : ∀ (W : World) (σ : Env), Ext w4 W → (σ 2 = ptr w.heap.size ∧ σ 3 = ptr (w.heap.size + 1) ∧ σ 5 = .map (some rb) ∧ σ 6 = i64 i ∧ σ 7 = ptr cb ∧ σ 8 = .bool (nb || decide (q.no[j] = c)) ∧ σ 9 = i64 ((j + 1 : Nat) : Int)) →
     AllI2 L snt q K rb w.heap.size w1 i c cb bm (q.no.length - (j + 1)) σ [] W := fun W σ hEW ⟨k2,k3,k5,k6,k7,k8,k9⟩ =>
    ⟨j + 1,⟨rfl,by omega⟩,hmb4.ext hEW,hg4.ext hEW,hM4.trans hEW.mod,k2,k3,k5,k6,k7,by rw [k8,hmem,hnb,Bool.or_assoc],k9,rfl⟩
   simp [f3,f9,d3.cell 5 _ rfl,hlenN,hjl]
   refine WC_drawC 8 (.F 0 <| .F 1 <| .F 2 <| .F 3 <| .F 4 <| .F 5 <| .F 6 <| .F 7 <| .Z) (fun _ => false) rfl (by kernel_rfl) fun w5 hW => ?_
   have hE5 : Ext w4 w5 := hW ▸ Ext.drew _
   have k3 := d3.ext hE5
   have kg := hg4.ext hE5
   have gj5 := gj.ext hE5
   cases nb with
   | true =>
    simp [f8,f9,nxj]
    refine ⟨_,by omega,fin w5 _ hE5 ?_⟩
    simp [f2,f3,f5,f6,f7]
   | false =>
    simp [f3,f7,f8,f9,k3.cell 5 _ rfl,ixj,gj5.c0,gj5.c1,gj5.c2,gj5.c3,gj5.c4,(kg).cell 0 _ rfl,(kg).cell 1 _ rfl,(kg).cell 2 _ rfl,(kg).cell 3 _ rfl,(kg).cell 4 _ rfl,ct_eq,nxj]
    refine ⟨_,by omega,fin w5 _ hE5 ?_⟩
    simp [f2,f3,f5,f6,f7]
  ·have : j = q.no.length := by omega
   subst this
   rw [List.take_length] at f8
   have hfi : firsts (L.take (i + 1)) q = firsts (L.take i) q ++ (if c.fr = q.fr ∧ c ∉ q.no then [c] else []) := by rw [htk,firsts_app,firsts_one]
   simp [f3,f8,f9,d3.cell 5 _ rfl,hlenN]
   by_cases hc1 : c.fr = q.fr
   ·by_cases hc2 : c ∈ q.no
    ·rw [if_neg (fun h => h.2 hc2),List.append_nil] at hfi
     simp [hc1,hc2,f6,nx]
     refine ⟨L.length - (i + 1),by omega,i + 1,bm,best,⟨rfl,by omega⟩,hmb4,hB,by rw [hfi]; exact hD,hM4,?_⟩
     simp [f2,f3,f5]
    ·rw [if_pos ⟨hc1,hc2⟩] at hfi
     have hcF : c ∈ firsts L q := List.mem_filter.2 ⟨List.mem_filter.2 ⟨hcL,by simpa using hc1⟩,by simpa using hc2⟩
     subst hsnt
     have hdw := dways_c hD4 hg hq hnv' hcF (firsts_sub L q) hmb4 hB hK hD
     have hd1 : decide (c.fr = q.fr) = true := decide_eq_true hc1
     simp [hd1,hc2,f2,f3,f5,f7,d2.cell 0 _ rfl,d2.cell 1 _ rfl,d2.cell 2 _ rfl,(d3).cell 0 _ rfl,(d3).cell 1 _ rfl,(d3).cell 2 _ rfl,(d3).cell 3 _ rfl,(d3).cell 4 _ rfl,(d3).cell 5 _ rfl,(hg4).cell 0 _ rfl,(hg4).cell 1 _ rfl,(hg4).cell 2 _ rfl,(hg4).cell 3 _ rfl,(hg4).cell 4 _ rfl]
     refine FN.mono (hdw) ?_
     rintro _ w5 ⟨⟨u,rfl⟩,bm',best',hmb',hB',hD',hM'⟩
     simp [f6,nx]
     refine ⟨L.length - (i + 1), by omega, i + 1, bm', best', ⟨rfl, by omega⟩, hmb', hB', hD'.done_of fun y _ hd => ?_, hM4.trans hM', ?_⟩
     ·obtain ⟨h1,h2⟩ := hd
      rw [hfi] at h1
      rcases List.mem_append.1 h1 with h1 | h1
      ·exact .inl ⟨h1,h2⟩
      ·simp at h1; exact .inr ⟨h1,h2⟩
     ·simp [f2,f3,f5]
   ·rw [if_neg (fun h => hc1 h.1),List.append_nil] at hfi
    simp [hc1,f6,nx]
    refine ⟨L.length - (i + 1),by omega,i + 1,bm,best,⟨rfl,by omega⟩,hmb4,hB,by rw [hfi]; exact hD,hM4,?_⟩
    simp [f2,f3,f5]
 ·have : i = L.length := by omega
  subst this
  rw [List.take_length] at hD
  obtain ⟨w3,hrun,hm3,hM3,-⟩ := hmb.delete (P := Tryz.prog) kU32 tmW q.fr 26 0
  simp [e2,e3,e5,e6,c2.cell 0 _ rfl,(c3).cell 0 _ rfl,hlenL]
  simp [hrun]
  have hX : Ext w w3 := (hE.mod (S := fun k => w.heap.size ≤ k)).trans ((hM.trans hM3).weaken fun k hk => by omega) |>.ext fun _ h => h
  refine ⟨⟨rb, e5, _, hm3, ⟨fun n x hx => ?_, fun y hy hk hn => ?_⟩, by omega⟩, hX⟩
  ·rw [kget_mdel] at hx
   split at hx
   ·cases hx
   ·rename_i hne
    rw [hB.get] at hx
    obtain ⟨t,ht,hx⟩ := Option.map_eq_some_iff.1 hx
    obtain ⟨k1,k2,k3⟩ := hD.is n t ht
    refine ⟨hne,t,⟨k1,k2,k3,fun y hy hyn hyk => ?_⟩,hx.symm⟩
    obtain ⟨o,h1,h2⟩ := hD.le y hy ⟨hy.f_mem,hyk⟩
    rw [hyn,ht] at h1
    cases h1
    exact h2
  ·rw [kget_mdel,if_neg hn,hB.get]
   obtain ⟨o,h1,-⟩ := hD.le y hy ⟨hy.f_mem,hk⟩
   rw [h1]
   rfl
end Go.Proofs
namespace Go.Proofs
open Pk
set_option maxRecDepth 10000
structure DBestT (L : List Ct) (snt : Ct → Int → Option Int) (F : List Ct) (q : Qu) (K : Nat) (x : Wy) (n : Int) : Prop where
 bad : (badQ q || badE q) = true → x = wyZ ∧ n = 2
 ok : (badQ q || badE q) = false → (∃ t,Gr.BestOf L snt F q.at_ K q.to' t ∧ x = tlWy t ∧ n = 0) ∨ ((∀ y,Gr.Wk L snt F q.at_ y → y.h ≤ K → y.n ≠ q.to') ∧ x = wyZ ∧ n = 310)
theorem firsts_apart {L : List Ct} (h : L.Pairwise aheadP) (q : Qu) : Gr.FApart (firsts L q) := by
 intro f hf g hg e1 e2
 have hfl := firsts_sub L q f hf
 have hgl := firsts_sub L q g hg
 have ff : f.fr = q.fr := by simpa using (List.mem_filter.1 (List.mem_filter.1 hf).1).2
 have gg : g.fr = q.fr := by simpa using (List.mem_filter.1 (List.mem_filter.1 hg).1).2
 obtain ⟨i,hi,rfl⟩ := List.getElem_of_mem hfl
 obtain ⟨j,hj,rfl⟩ := List.getElem_of_mem hgl
 rcases Nat.lt_trichotomy i j with k | k | k
 ·have := List.pairwise_iff_getElem.1 h i j hi hj k
  unfold aheadP at this
  omega
 ·subst k; rfl
 ·have := List.pairwise_iff_getElem.1 h j i hj hi k
  unfold aheadP at this
  omega
set_option maxHeartbeats 2000000 in
theorem dbest_c {w : World} {vp vt vl nv : Value} {L : List Ct} {sl : List St} {ll : List LR} {M : ME} {m : VM} (h : DGr w vp vt vl L sl ll M m) (hg : gdT M) {q : Qu} (hq : QuOk q) (hno : SlB w 5 nv q.no.length (q.no.flatMap ctC)) (hnl : q.no.length ≤ 1000) {K : Nat} (hK : K = Nat.min L.length q.most.toNat) :
  FN Tryz.prog 38 [dgV vp vt vl,quV q nv] w fun e w' => (∃ x n,e = .returned (.tuple #[wyV x,i64 n]) ∧ DBestT L (gSnt M m q.size) (firsts L q) q K x n) ∧ Ext w w' := by
 refine FN_enter Tryz.func38 rfl rfl (by kernel_rfl) ?_
 obtain ⟨pa,pc,hvp⟩ := h.pl.isSlice
 obtain ⟨ta,tc,hvt⟩ := h.tb.isSlice
 obtain ⟨la,lc,hvl⟩ := h.lg.isSlice
 obtain ⟨na,nc,hnv⟩ := hno.isSlice
 have hnv' : ∃ a n c,nv = .slice a n c := ⟨_,_,_,hnv⟩
 have hE : Ext w (((w.alloc (.cells #[vp,vt,vl] 43)).alloc (.cells #[u32 q.fr,u32 q.to',u64 q.at_,u64 q.size,i64 q.most,nv] 29)).alloc (.cells #[u64 0,i64 0,u32 0,u32 0,u32 0,u64 0,u64 0,u64 0] 66)) := (((Ext.refl w).alloc _).alloc _).alloc _
 have b2 : Blk (((w.alloc (.cells #[vp,vt,vl] 43)).alloc (.cells #[u32 q.fr,u32 q.to',u64 q.at_,u64 q.size,i64 q.most,nv] 29)).alloc (.cells #[u64 0,i64 0,u32 0,u32 0,u32 0,u64 0,u64 0,u64 0] 66)) w.heap.size [vp,vt,vl] := (Blk.new w [vp,vt,vl] 43).ext (((Ext.refl _).alloc _).alloc _)
 have b3 : Blk (((w.alloc (.cells #[vp, vt, vl] 43)).alloc (.cells #[u32 q.fr, u32 q.to', u64 q.at_, u64 q.size, i64 q.most, nv] 29)).alloc (.cells #[u64 0, i64 0, u32 0, u32 0, u32 0, u64 0, u64 0, u64 0] 66)) (w.heap.size + 1) (quC q nv) := by
  have := (Blk.new (w.alloc (.cells #[vp,vt,vl] 43)) (quC q nv) 29).ext ((Ext.refl _).alloc (.cells #[u64 0,i64 0,u32 0,u32 0,u32 0,u64 0,u64 0,u64 0] 66))
  simpa using this
 have b4 : Blk (((w.alloc (.cells #[vp, vt, vl] 43)).alloc (.cells #[u32 q.fr, u32 q.to', u64 q.at_, u64 q.size, i64 q.most, nv] 29)).alloc (.cells #[u64 0, i64 0, u32 0, u32 0, u32 0, u64 0, u64 0, u64 0] 66)) (w.heap.size + 1 + 1) (wyC wyZ) := by
  have := Blk.new ((w.alloc (.cells #[vp,vt,vl] 43)).alloc (.cells #[u32 q.fr,u32 q.to',u64 q.at_,u64 q.size,i64 q.most,nv] 29)) (wyC wyZ) 66
  simp [wyZ] at this
  exact this
 have hsz : (((w.alloc (.cells #[vp,vt,vl] 43)).alloc (.cells #[u32 q.fr,u32 q.to',u64 q.at_,u64 q.size,i64 q.most,nv] 29)).alloc (.cells #[u64 0,i64 0,u32 0,u32 0,u32 0,u64 0,u64 0,u64 0] 66)).heap.size = w.heap.size + 1 + 1 + 1 := by simp
 rw [hvp,hvt,hvl,hnv] at hE b2 b3 b4 hsz
 rw [hvp,hvt,hvl,hnv]
 simp
 rw [← hvp,← hvt,← hvl,← hnv] at hE b2 b3 b4 hsz ⊢
 generalize (((w.alloc (.cells #[vp,vt,vl] 43)).alloc (.cells #[u32 q.fr,u32 q.to',u64 q.at_,u64 q.size,i64 q.most,nv] 29)).alloc (.cells #[u64 0,i64 0,u32 0,u32 0,u32 0,u64 0,u64 0,u64 0] 66)) = w1 at *
 refine FN.mono (dright_c q hq nv hnv' w1) ?_
 rintro _ w2 ⟨rfl,hE2⟩
 have hX2 := hE.trans hE2
 have c2 := b2.ext hE2
 have c3 := b3.ext hE2
 have c4 := b4.ext hE2
 cases hbad : (badQ q || badE q) with
 | true =>
  have hM := put8_mod w2 (w.heap.size + 1 + 1) (u64 0) (i64 0) (u32 0) (u32 0) (u32 0) (u64 0) (u64 0) (u64 0)
  simp [(c4).cell 0 _ rfl,(c4).cell 1 _ rfl,(c4).cell 2 _ rfl,(c4).cell 3 _ rfl,(c4).cell 4 _ rfl,(c4).cell 5 _ rfl,(c4).cell 6 _ rfl,(c4).cell 7 _ rfl,c4.thaw,cell_setCell]
  generalize World.setCell _ ⟨w.heap.size + 1 + 1,7,none⟩ _ = W8 at *
  have hX : Ext w W8 := (hX2.mod (S := fun k => w.heap.size ≤ k)).trans (hM.weaken fun k hk => by omega) |>.ext fun _ h => h
  exact ⟨⟨wyZ,2,⟨⟨rfl,rfl,rfl,rfl,rfl,rfl,rfl,rfl⟩,rfl⟩,⟨fun _ => ⟨rfl,rfl⟩,fun h => (by rw [hbad] at h; cases h)⟩⟩,hX⟩
 | false =>
  have hne : q.to' ≠ q.fr := by
   intro e
   have : badE q = true := by unfold badE; simp [e]
   simp [this] at hbad
  simp
  refine WC_drawL 11 (.F 0 <| .F 1 <| .F 3 <| .F 4 <| .D 9 <| .L 2 <| .L 5 <| .F 6 <| .F 7 <| .F 8 <| .W 9 <| .S 10 <| .Z) (fun _ => false) (fun _ => false) (fun _ u W => ∃ j, u = ptr j ∧ w1.heap.size ≤ j ∧ Blk W j (wyC wyZ)) rfl (by kernel_rfl) (fun _ h => h)
   (fun _ _ _ _ ⟨j,h1,h2,h3⟩ hA => ⟨j,h1,h2,h3.ext (agr_ext hA)⟩) fun W hW => ?_
  have hWE : Ext w2 W := hW ▸ Ext.drew w2
  have hXW := hX2.trans hWE
  have d2 := c2.ext hWE
  have d3 := c3.ext hWE
  have d4 := c4.ext hWE
  simp [d2.cell 0 _ rfl,d2.cell 1 _ rfl,d2.cell 2 _ rfl,(d3).cell 0 _ rfl,(d3).cell 1 _ rfl,(d3).cell 2 _ rfl,(d3).cell 3 _ rfl,(d3).cell 4 _ rfl,(d3).cell 5 _ rfl]
  refine RL_float (fun W' h' => ?_) ?_
  ·simp
   have hs := ((hE2.trans hWE).trans (agr_ext h')).size
   exact ⟨(Ext.refl _).alloc _, hs, by
    have := Blk.new W' (wyC wyZ) 66
    simp [wyZ] at this
    exact this⟩
  simp
  refine RL_loose fun W3 h3 => ?_
  have hX3 := hXW.trans h3
  simp
  refine FN.mono (dall_c (h.ext hX3) hg hq (hno.ext hX3) hnl hK) ?_
  rintro _ W4 ⟨⟨rb,bm,rfl,hmb,hAT,hrb⟩,hE4⟩
  simp
  refine KR_ext hE4 ?_
  simp
  refine RL_loose fun W5 h5 => ?_
  have hlk := (hmb.ext h5).lookup (P := Tryz.prog) kU32 tmW (zWay W5) q.to' true
  simp only [if_true] at hlk
  simp [hlk]
  refine KR_same ?_
  simp
  refine RL_wait fun v6 W6 h6 ⟨j,hj,hjs,hjb⟩ => ?_
  subst hj
  have hX6 := ((hX3.trans hE4).trans h5).trans h6
  have hE26 := (((hWE.trans h3).trans hE4).trans h5).trans h6
  have k4 := c4.ext hE26
  have hMj := put8_mod W6 j (u64 ((mget bm q.to').getD wyZ).a) (i64 ((mget bm q.to').getD wyZ).h) (u32 ((mget bm q.to').getD wyZ).n) (u32 ((mget bm q.to').getD wyZ).f.fr) (u32 ((mget bm q.to').getD wyZ).f.to') (u64 ((mget bm q.to').getD wyZ).f.sf) (u64 ((mget bm q.to').getD wyZ).f.su) (u64 ((mget bm q.to').getD wyZ).f.rate)
  have hBj := put8_blk hjb rfl (u64 ((mget bm q.to').getD wyZ).a) (i64 ((mget bm q.to').getD wyZ).h) (u32 ((mget bm q.to').getD wyZ).n) (u32 ((mget bm q.to').getD wyZ).f.fr) (u32 ((mget bm q.to').getD wyZ).f.to') (u64 ((mget bm q.to').getD wyZ).f.sf) (u64 ((mget bm q.to').getD wyZ).f.su) (u64 ((mget bm q.to').getD wyZ).f.rate)
  simp [(hjb).cell 0 _ rfl,(hjb).cell 1 _ rfl,(hjb).cell 2 _ rfl,(hjb).cell 3 _ rfl,(hjb).cell 4 _ rfl,(hjb).cell 5 _ rfl,(hjb).cell 6 _ rfl,(hjb).cell 7 _ rfl,hjb.thaw,cell_setCell]
  refine KR_mk (agr_any (hMj.weaken fun _ _ => trivial)) ?_
  have k4' := k4.mod hMj (by omega)
  generalize World.setCell _ ⟨j,7,none⟩ _ = W7 at *
  have hX7 : Ext w W7 := (hX6.mod (S := fun k => w.heap.size ≤ k)).trans (hMj.weaken fun k hk => by omega) |>.ext fun _ h => h
  cases hbm : mget bm q.to' with
  | none =>
   have hM := put8_mod W7 (w.heap.size + 1 + 1) (u64 0) (i64 0) (u32 0) (u32 0) (u32 0) (u64 0) (u64 0) (u64 0)
   simp [(k4').cell 0 _ rfl,(k4').cell 1 _ rfl,(k4').cell 2 _ rfl,(k4').cell 3 _ rfl,(k4').cell 4 _ rfl,(k4').cell 5 _ rfl,(k4').cell 6 _ rfl,(k4').cell 7 _ rfl,k4'.thaw,cell_setCell]
   generalize World.setCell _ ⟨w.heap.size + 1 + 1,7,none⟩ _ = W8 at *
   have hX : Ext w W8 := (hX7.mod (S := fun k => w.heap.size ≤ k)).trans (hM.weaken fun k hk => by omega) |>.ext fun _ h => h
   refine ⟨⟨wyZ,310,⟨⟨rfl,rfl,rfl,rfl,rfl,rfl,rfl,rfl⟩,rfl⟩,⟨fun h => (by rw [hbad] at h; cases h),fun _ => .inr ⟨fun y hy hk hn => ?_,rfl,rfl⟩⟩⟩,hX⟩
   have := hAT.has y hy hk (by rw [hn]; exact hne)
   rw [hn,hbm] at this
   cases this
  | some x =>
   rw [hbm] at hBj
   have hBj : Blk W7 j (wyC x) := hBj
   have hM := put8_mod W7 (w.heap.size + 1 + 1) (u64 x.a) (i64 x.h) (u32 x.n) (u32 x.f.fr) (u32 x.f.to') (u64 x.f.sf) (u64 x.f.su) (u64 x.f.rate)
   simp [(hBj).cell 0 _ rfl,(hBj).cell 1 _ rfl,(hBj).cell 2 _ rfl,(hBj).cell 3 _ rfl,(hBj).cell 4 _ rfl,(hBj).cell 5 _ rfl,(hBj).cell 6 _ rfl,(hBj).cell 7 _ rfl,(k4').cell 0 _ rfl,(k4').cell 1 _ rfl,(k4').cell 2 _ rfl,(k4').cell 3 _ rfl,(k4').cell 4 _ rfl,(k4').cell 5 _ rfl,(k4').cell 6 _ rfl,(k4').cell 7 _ rfl,k4'.thaw,cell_setCell]
   generalize World.setCell _ ⟨w.heap.size + 1 + 1,7,none⟩ _ = W8 at *
   have hX : Ext w W8 := (hX7.mod (S := fun k => w.heap.size ≤ k)).trans (hM.weaken fun k hk => by omega) |>.ext fun _ h => h
   obtain ⟨-,t,ht,hxt⟩ := hAT.is _ _ hbm
   exact ⟨⟨x,0,⟨⟨rfl,rfl,rfl,rfl,rfl,rfl,rfl,rfl⟩,rfl⟩,⟨fun h => (by rw [hbad] at h; cases h),fun _ => .inl ⟨t,ht,hxt,rfl⟩⟩⟩,hX⟩
end Go.Proofs