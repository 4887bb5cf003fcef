/-
 Contracts of the functions that the law reaches,step by step.
-/
import Derived.Test.YtdflcfoalhhjlaaGreatGeI
import Derived.Test.YtdflcfoalhhjlaaGreatGrF
namespace Go.Proofs
open Pk
set_option maxRecDepth 10000
theorem dbetter_c (x y : Wy) (w : World) : FN Tryz.prog 63 [wyV x, wyV y] w fun e w' => e = .returned (.bool (decide (wyLt x y))) ∧ Ext w w' := by
 refine FN_enter Tryz.func63 rfl rfl (by kernel_rfl) ?_
 have hE : Ext w ((w.alloc (.cells #[u64 x.a,i64 x.h,u32 x.n,u32 x.f.fr,u32 x.f.to',u64 x.f.sf,u64 x.f.su,u64 x.f.rate] 66)).alloc (.cells #[u64 y.a,i64 y.h,u32 y.n,u32 y.f.fr,u32 y.f.to',u64 y.f.sf,u64 y.f.su,u64 y.f.rate] 66)) := ((Ext.refl w).alloc _).alloc _
 have hA : Blk ((w.alloc (.cells #[u64 x.a,i64 x.h,u32 x.n,u32 x.f.fr,u32 x.f.to',u64 x.f.sf,u64 x.f.su,u64 x.f.rate] 66)).alloc (.cells #[u64 y.a,i64 y.h,u32 y.n,u32 y.f.fr,u32 y.f.to',u64 y.f.sf,u64 y.f.su,u64 y.f.rate] 66)) w.heap.size (wyC x) := (Blk.new w (wyC x) 66).ext ((Ext.refl _).alloc _)
 have hB : Blk ((w.alloc (.cells #[u64 x.a, i64 x.h, u32 x.n, u32 x.f.fr, u32 x.f.to', u64 x.f.sf, u64 x.f.su, u64 x.f.rate] 66)).alloc (.cells #[u64 y.a, i64 y.h, u32 y.n, u32 y.f.fr, u32 y.f.to', u64 y.f.sf, u64 y.f.su, u64 y.f.rate] 66)) (w.heap.size + 1) (wyC y) := by
  have := Blk.new (w.alloc (.cells #[u64 x.a,i64 x.h,u32 x.n,u32 x.f.fr,u32 x.f.to',u64 x.f.sf,u64 x.f.su,u64 x.f.rate] 66)) (wyC y) 66
  simpa using this
 simp
 generalize ((w.alloc (.cells #[u64 x.a,i64 x.h,u32 x.n,u32 x.f.fr,u32 x.f.to',u64 x.f.sf,u64 x.f.su,u64 x.f.rate] 66)).alloc (.cells #[u64 y.a,i64 y.h,u32 y.n,u32 y.f.fr,u32 y.f.to',u64 y.f.sf,u64 y.f.su,u64 y.f.rate] 66)) = w1 at *
 by_cases a0 : x.a = y.a
 ·by_cases a1 : x.h = y.h
  ·by_cases a2 : x.n = y.n
   ·rw [show decide (wyLt x y) = decide (x.f.sf < y.f.sf) from by simp [wyLt,a0,a1,a2]]
    simp [(hA).cell 1 _ rfl,(hA).cell 2 _ rfl,(hA).cell 5 _ rfl,(hB).cell 1 _ rfl,(hB).cell 2 _ rfl,(hB).cell 5 _ rfl,a0,a1,a2]
    exact hE
   ·rw [show decide (wyLt x y) = decide (x.n < y.n) from by simp [wyLt,a0,a1,a2]]
    simp [bne_dec,(hA).cell 1 _ rfl,(hA).cell 2 _ rfl,(hB).cell 1 _ rfl,(hB).cell 2 _ rfl,a0,a1,a2]
    exact hE
  ·rw [show decide (wyLt x y) = decide (x.h < y.h) from by simp [wyLt,a0,a1]]
   simp [bne_dec,(hA).cell 1 _ rfl,(hB).cell 1 _ rfl,a0,a1]
   exact hE
 ·rw [show decide (wyLt x y) = decide (x.a < y.a) from by simp [wyLt,a0]]
  simp [bne_dec,(hA).cell 0 _ rfl,(hB).cell 0 _ rfl,a0]
  exact hE
theorem dright_c (q : Qu) (hq : QuOk q) (nv : Value) (hn : ∃ a n c, nv = .slice a n c) (w : World) : FN Tryz.prog 15 [quV q nv] w fun e w' => e = .returned (.bool (!(badQ q || badE q))) ∧ Ext w w' := by
 refine FN_enter Tryz.func15 rfl rfl (by kernel_rfl) ?_
 obtain ⟨na,n,nc,rfl⟩ := hn
 have hE := (Ext.refl w).alloc (.cells #[u32 q.fr,u32 q.to',u64 q.at_,u64 q.size,i64 q.most,(.slice na n nc)] 29)
 have hB : Blk (w.alloc (.cells #[u32 q.fr,u32 q.to',u64 q.at_,u64 q.size,i64 q.most,(.slice na n nc)] 29)) w.heap.size (quC q (.slice na n nc)) := Blk.new w (quC q (.slice na n nc)) 29
 have h0 := hq.fr.1
 have h1 := hq.to'.1
 have h2 := hq.size.1
 have e : (!(badQ q || badE q)) = (decide (0 < q.fr) && (decide (0 < q.to') && ((q.fr != q.to') && (decide (0 < q.size) && (decide (q.at_ < 4611686018427387903) && decide (1 ≤ q.most)))))) := by
  unfold badQ badE
  rw [Bool.eq_iff_iff]
  simp
  omega
 rw [e]
 simp
 generalize (w.alloc (.cells #[u32 q.fr,u32 q.to',u64 q.at_,u64 q.size,i64 q.most,(.slice na n nc)] 29)) = w1 at *
 by_cases a0 : 0 < q.fr
 ·by_cases a1 : 0 < q.to'
  ·by_cases a2 : q.fr = q.to'
   ·simp [(hB).cell 0 _ rfl,(hB).cell 1 _ rfl,a1,a2]; exact hE
   ·by_cases a3 : 0 < q.size
    ·by_cases a4 : q.at_ < 4611686018427387903
     ·simp [bne_dec,(hB).cell 0 _ rfl,(hB).cell 1 _ rfl,(hB).cell 2 _ rfl,(hB).cell 3 _ rfl,(hB).cell 4 _ rfl,a0,a1,a2,a3,a4]; exact hE
     ·simp [bne_dec,(hB).cell 0 _ rfl,(hB).cell 1 _ rfl,(hB).cell 2 _ rfl,(hB).cell 3 _ rfl,a0,a1,a2,a3,a4]; exact hE
    ·simp [bne_dec,(hB).cell 0 _ rfl,(hB).cell 1 _ rfl,(hB).cell 3 _ rfl,a0,a1,a2,a3]; exact hE
  ·simp [bne_dec,(hB).cell 1 _ rfl,a0,a1]; exact hE
 ·simp [bne_dec,a0]; exact hE
structure DGr (w : World) (vp vt vl : Value) (L : List Ct) (sl : List St) (ll : List LR) (M : ME) (m : VM) : Prop where
 pl : RPl w vp L
 tb : TRw w vt sl
 lg : RLg w vl ll
 rt : RelT M sl
 rl : RelL m ll
 nd : ∀ q,((sps M q).map (·.1)).Nodup
 bl : L.length ≤ 14
 bt : sl.length ≤ 14
 bb : ll.length ≤ 14
 ok : ∀ c ∈ L,CtOk c
 vm : vmOk m
theorem DGr.ext {w w' : World} {vp vt vl : Value} {L : List Ct} {sl : List St} {ll : List LR} {M : ME} {m : VM} (h : DGr w vp vt vl L sl ll M m) (hE : Ext w w') : DGr w' vp vt vl L sl ll M m :=
 {h with pl := h.pl.ext hE,tb := h.tb.ext hE,lg := h.lg.ext hE }
abbrev dgV (vp vt vl : Value) : Value := .agg #[vp,vt,vl]
set_option maxHeartbeats 2000000 in
theorem dsent_c {w : World} {vp vt vl : Value} {L : List Ct} {sl : List St} {ll : List LR} {M : ME} {m : VM} (h : DGr w vp vt vl L sl ll M m) {c : Ct} (hc : CtOk c) {a n : Int} (ha : 0 ≤ a) (hn : 0 ≤ n) :
  FN Tryz.prog 150 [dgV vp vt vl,ctV c,u64 a,u64 n] w fun e w' => e = .returned (.tuple #[u64 ((gSnt M m n c a).getD 0),.bool (gSnt M m n c a).isSome]) ∧ Ext w w' := by
 rw [gSnt_eq hc hn]
 refine FN_enter Tryz.func150 rfl rfl (by kernel_rfl) ?_
 obtain ⟨pa,pc,hvp⟩ := h.pl.isSlice
 obtain ⟨ta,tc,hvt⟩ := h.tb.isSlice
 obtain ⟨la,lc,hvl⟩ := h.lg.isSlice
 have hE : Ext w ((w.alloc (.cells #[vp,vt,vl] 43)).alloc (.cells #[u32 c.fr,u32 c.to',u64 c.sf,u64 c.su,u64 c.rate] 64)) := ((Ext.refl w).alloc _).alloc _
 have b4 : Blk ((w.alloc (.cells #[vp,vt,vl] 43)).alloc (.cells #[u32 c.fr,u32 c.to',u64 c.sf,u64 c.su,u64 c.rate] 64)) w.heap.size [vp,vt,vl] := (Blk.new w [vp,vt,vl] 43).ext ((Ext.refl _).alloc _)
 have b5 : Blk ((w.alloc (.cells #[vp, vt, vl] 43)).alloc (.cells #[u32 c.fr, u32 c.to', u64 c.sf, u64 c.su, u64 c.rate] 64)) (w.heap.size + 1) (ctC c) := by
  have := Blk.new (w.alloc (.cells #[vp,vt,vl] 43)) (ctC c) 64
  simpa using this
 rw [hvp,hvt,hvl] at hE b4 b5
 rw [hvp,hvt,hvl]
 simp
 rw [← hvp,← hvt,← hvl] at hE b4 b5 ⊢
 generalize ((w.alloc (.cells #[vp,vt,vl] 43)).alloc (.cells #[u32 c.fr,u32 c.to',u64 c.sf,u64 c.su,u64 c.rate] 64)) = w1 at *
 refine FN.mono (nright_c c hc w1) ?_
 rintro _ w2 ⟨rfl,hE2⟩
 have hX2 := hE.trans hE2
 cases hr : ctRight c with
 | false =>
  simp [sentO,sentN,hr]
  exact hX2
 | true =>
 by_cases hn0 : n = 0
 ·subst hn0
  simp [sentO,sentN,hr]
  exact hX2
 have c4 := b4.ext hE2
 have c5 := b5.ext hE2
 simp [beq_dec,hn0,c4.cell 2 _ rfl,(c5).cell 0 _ rfl,(c5).cell 1 _ rfl,(c5).cell 2 _ rfl,(c5).cell 3 _ rfl,(c5).cell 4 _ rfl]
 refine FN.mono (lroom_c (h.lg.ext hX2) h.rl h.vm c hc (by have := h.bb; omega) a) ?_
 rintro _ w3 ⟨rfl,hE3⟩
 have hX3 := hX2.trans hE3
 by_cases hroom : roomT m c a < n
 ·simp [hroom,sentO,sentN,hr]
  exact hX3
 have hN : sentN m c a n = false := sentN_of hr hn0 (by omega)
 have d4 := c4.ext hE3
 have d5 := c5.ext hE3
 simp [hroom,d4.cell 2 _ rfl,(d5).cell 0 _ rfl,(d5).cell 1 _ rfl,(d5).cell 2 _ rfl,(d5).cell 3 _ rfl,(d5).cell 4 _ rfl]
 refine FN.mono (lover_c (h.lg.ext hX3) h.rl h.vm c hc (by have := h.bb; omega) a n ha hn) ?_
 rintro _ w4 ⟨rfl,hE4⟩
 have hX4 := hX3.trans hE4
 have f4 := d4.ext hE4
 have f5 := d5.ext hE4
 have ho0 := overL_0 h.vm hc ha hn
 generalize ho : overL m c a n = o at *
 by_cases hov : c.su < o
 ·simp [hov,(f5).cell 3 _ rfl,sentO,hN,ho]
  exact hX4
 have htk : ∀ (f g x : Int),0 ≤ rtk sl f g x := fun f g x => rtk_0 (fun s hs => (h.rt.ok s hs).1) f g x
 simp [hov,(f5).cell 0 _ rfl,(f5).cell 1 _ rfl,(f5).cell 3 _ rfl,f4.cell 1 _ rfl]
 refine FN.mono (rlands_c (h.tb.ext hX4) c.fr c.to' o (by have := h.bt; omega) ho0 (htk _ _ _)) ?_
 rintro _ w5 ⟨rfl,hE5⟩
 have hX5 := hX4.trans hE5
 have g4 := f4.ext hE5
 have g5 := f5.ext hE5
 simp [(g5).cell 0 _ rfl,(g5).cell 1 _ rfl,g4.cell 1 _ rfl]
 refine FN.mono (rsteps_c (h.tb.ext hX5) c.fr c.to' (by have := h.bt; omega)) ?_
 rintro _ w6 ⟨u,R,rfl,hR,hRo,hE6⟩
 have hX6 := hX5.trans hE6
 have k4 := g4.ext hE6
 have k5 := g5.ext hE6
 obtain ⟨hRk,-⟩ := h.rt.steps h.nd (kys_ok _) hR
 have hRs : TRw w6 u R := sl_of_own hRo
 have hRl : R.length ≤ 14 := by
  have h1 := hR.2.length_eq
  have h2 := List.length_filter_le (ofFG c.fr c.to') sl
  have := h.bt
  omega
 have hlen := fun ty W => hRs.isLen (P := Tryz.prog) (t := 23) (by simp) ty W
 have hix := fun i hi W => TRw.index hRs i hi W
 rw [← h.rt.lnd]
 generalize hm1 : sps M (c.fr,c.to') = m1 at *
 generalize hks : kys m1 = ks at *
 have hkl : ks.length = R.length := by rw [← hRk]; simp
 simp
 refine WC_loop (fun k ρ ds w' => ∃ i : Nat,k = R.length - i ∧ i ≤ R.length ∧ ρ 4 = ptr w.heap.size ∧ ρ 5 = ptr (w.heap.size + 1) ∧ ρ 10 = u64 o ∧ ρ 12 = u ∧ ρ 13 = i64 i ∧ ρ 11 = u64 (sentB m1 o c.su (lnd m1 o) (ks.take i)) ∧ ds = [] ∧ Ext w6 w') R.length ⟨0,by simp,by simp,by simp,by simp,by simp,by simp,by simp,by simp [sentB],rfl,Ext.refl _⟩ ?_
 rintro k ρ ds w7 ⟨i,rfl,hi,e4,e5,e10,e12,e13,e11,rfl,hE7⟩
 have hX7 := hX6.trans hE7
 have nx : IntKind.i64.wrap ((i : Int) + 1) = ((i + 1 : Nat) : Int) := by rw [wrap64 _ (by omega) (by omega)]; rfl
 have p4 := k4.ext hE7
 have p5 := k5.ext hE7
 by_cases hlt : i < R.length
 ·have r := TRw.row (hRs.ext hE7) (List.getElem?_eq_getElem hlt)
  have hki : ks[i]'(by omega) = R[i].a := by
   have : (R.map (·.a))[i]'(by simpa using hlt) = R[i].a := by simp
   simp only [← hRk]
   exact this
  have htk' : ks.take (i + 1) = ks.take i ++ [R[i].a] := by rw [List.take_add_one,List.getElem?_eq_getElem (by omega),hki]; rfl
  have hsn := sentB_snoc m1 o c.su (ks.take i) (lnd m1 o) R[i].a
  rw [← htk'] at hsn
  have hs0 : 0 ≤ R[i].a := by
   have : R[i] ∈ sl := by
    have := hR.2.mem_iff.1 (List.getElem_mem hlt)
    exact (List.mem_filter.1 this).1
   exact (h.rt.ok _ this).1.a
  by_cases b0 : o < R[i].a
  ·by_cases b1 : R[i].a ≤ c.su
   ·rw [if_pos ⟨b0,b1⟩] at hsn
    simp [e4,e5,e10,e12,e13,e11,hlen,hlt,hix i hlt,r.c2,b0,b1,(p5).cell 0 _ rfl,(p5).cell 1 _ rfl,(p5).cell 3 _ rfl,p4.cell 1 _ rfl]
    refine FN.mono (rlands_c (h.tb.ext hX7) c.fr c.to' R[i].a (by have := h.bt; omega) hs0 (htk _ _ _)) ?_
    rintro _ w8 ⟨rfl,hE8⟩
    rw [← h.rt.lnd,hm1]
    simp [e4,e5,e10,e12,e13,nx]
    exact ⟨R.length - (i + 1),by omega,i + 1,rfl,by omega,rfl,hsn.symm,hE7.trans hE8⟩
   ·rw [if_neg (fun h => b1 h.2)] at hsn
    simp [e4,e5,e10,e12,e13,e11,hlen,hlt,hix i hlt,r.c2,b0,b1,(p5).cell 3 _ rfl,nx]
    exact ⟨R.length - (i + 1),by omega,i + 1,rfl,by omega,rfl,hsn.symm,hE7⟩
  ·rw [if_neg (fun h => b0 h.1)] at hsn
   simp [e4,e5,e10,e12,e13,e11,hlen,hlt,hix i hlt,r.c2,b0,nx]
   exact ⟨R.length - (i + 1),by omega,i + 1,rfl,by omega,rfl,hsn.symm,hE7⟩
 ·have : i = R.length := by omega
  subst this
  rw [← hkl,List.take_length] at e11
  simp [e12,e13,hlen,e11]
  by_cases hF : 4611686018427387903 ≤ sentB m1 o c.su (lnd m1 o) ks
  ·simp [hF,sentO,hN,ho,hov]
   exact hX7
  ·simp [hF,sentO,hN,ho,hov,e11]
   exact hX7
end Go.Proofs
namespace Go.Proofs.Gr
variable {L : List Ct} {snt : Ct → Int → Option Int} {F : List Ct} {at0 : Int}
theorem wk_none {f : Ct} (h : snt f at0 = none) {y : Tl} (hy : Wk L snt F at0 y) : y.f ≠ f := by
 induction hy with
 | one g a hg hs => rintro rfl; rw [h] at hs; cases hs
 | step x c b hx hc hn hs ih => exact ih
theorem Bst.done_of {K : Nat} {done done' : Ct → Nat → Prop} {best : Int → Option Tl} (h : Bst L snt F at0 K done best) (hd : ∀ y, Wk L snt F at0 y → done' y.f y.h → done y.f y.h) : Bst L snt F at0 K done' best :=
 ⟨h.is,fun y hy hk => h.le y hy (hd y hy hk)⟩
def Seen (f : Ct) (h : Nat) (best : Int → Option Tl) (ps : List (Int × Int)) : Prop := ∀ p ∈ ps,∃ o,best p.1 = some o ∧ ¬ keyLt ⟨p.2,h,f,p.1⟩ o
theorem Seen.bet {f : Ct} {h : Nat} {best : Int → Option Tl} {ps : List (Int × Int)} (hs : Seen f h best ps) (p : Int × Int) : Seen f h (bet best ⟨p.2, h, f, p.1⟩) (ps ++ [p]) := by
 intro q hq
 rcases List.mem_append.1 hq with hq | hq
 ·obtain ⟨o,h1,h2⟩ := hs q hq
  obtain ⟨o',h3,h4⟩ := bet_keeps (w := ⟨p.2,h,f,p.1⟩) h1
  exact ⟨o',h3,not_keyLt_trans h2 h4⟩
 ·simp at hq
  subst hq
  exact bet_new best ⟨q.2,h,f,q.1⟩
theorem Bst.hop {K h : Nat} {f : Ct} {best : Int → Option Tl} {done : Ct → Nat → Prop} {m : Int → Option Int} (hb : Bst L snt F at0 K done best) (hm : IsNow L snt F at0 f h m) {ps : List (Int × Int)} (hs : Seen f h best ps) (hp : ∀ n a, m n = some a → (n, a) ∈ ps) :
  Bst L snt F at0 K (fun f' k => done f' k ∨ f' = f ∧ k = h) best := by
 refine ⟨hb.is,fun y hy hd => ?_⟩
 rcases hd with hd | ⟨h1, h2⟩
 ·exact hb.le y hy hd
 ·obtain ⟨a,h3,h4⟩ := hm.le y hy h1 h2
  obtain ⟨o,h5,h6⟩ := hs (y.n,a) (hp _ _ h3)
  refine ⟨o,h5,not_keyLt_trans (y := ⟨a,h,f,y.n⟩) ?_ h6⟩
  unfold keyLt
  rw [h1,h2]
  simp only
  omega
theorem Bst.all {K h : Nat} {f : Ct} {best : Int → Option Tl} {done : Ct → Nat → Prop} (hb : Bst L snt F at0 K (fun f' k => done f' k ∨ f' = f ∧ k < h) best) (he : K < h ∨ ∀ y, Wk L snt F at0 y → y.f = f → h ≤ y.h → False) :
  Bst L snt F at0 K (fun f' k => done f' k ∨ f' = f ∧ k ≤ K) best :=
 hb.done_of fun y hy hd => by
  rcases hd with hd | ⟨h1, h2⟩
  ·exact .inl hd
  ·rcases he with he | he
   ·exact .inr ⟨h1,by omega⟩
   ·refine .inr ⟨h1,?_⟩
    by_cases e : y.h < h
    ·exact e
    ·exact (he y hy h1 (by omega)).elim
theorem Bst.next {K h : Nat} {f : Ct} {best : Int → Option Tl} {done : Ct → Nat → Prop} (hb : Bst L snt F at0 K (fun f' k => (done f' k ∨ f' = f ∧ k < h) ∨ f' = f ∧ k = h) best) :
  Bst L snt F at0 K (fun f' k => done f' k ∨ f' = f ∧ k < h + 1) best :=
 hb.done_of fun y hy hd => by
  rcases hd with hd | ⟨h1, h2⟩
  ·exact .inl (.inl hd)
  ·by_cases e : y.h = h
   ·exact .inr ⟨h1,e⟩
   ·exact .inl (.inr ⟨h1,by omega⟩)
theorem bst_nil (K : Nat) : Bst L snt F at0 K (fun _ _ => False) (fun _ => none) := ⟨fun n w h => (by cases h),fun y hy h => h.elim⟩
end Go.Proofs.Gr
namespace Go.Proofs
open Pk
set_option maxRecDepth 10000
theorem kU32 : KeyEq Tryz.prog 26 (Value.int .u32) := keyEq_int (by simp)
theorem zWay (w : World) : (zeroValue 66).run Tryz.prog w = .ok (wyV wyZ) w := by simp [wyZ]
theorem tmW : Tryz.prog.underlying 183 = some (.map 26 66) := by simp
end Go.Proofs