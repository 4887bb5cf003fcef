/-
 Contracts of the functions that the law reaches,step by step.
-/
import Derived.Test.YtdflcfoalhhjlaaGreatRuR
import Derived.Test.YtdflcfoalhhjlaaGreatRuU
namespace Go.Proofs
open Pk
set_option maxRecDepth 10000
def bsH : List (List Nat) := [[],[],List.range 2,List.range 3,List.range 4,[],[5],List.range 7,List.range 8,List.range 9,List.range 10,List.range 11,List.range 12,List.range 12,List.range 14,List.range 15,List.range 12,List.range 12,List.range 12 ++ [17],List.range 12 ++ [16,17,18],List.range 12 ++ [16,17,18,19],List.range 21,List.range 22,List.range 23,List.range 24,List.range 25,List.range 25,List.range 27,List.range 28,List.range 29,List.range 25,List.range 25,List.range 25 ++ [30,31],List.range 25 ++ [30,31,32],List.range 25 ++ [30,31,32,33],List.range 25 ++ [30,31,32,33,34],List.range 36,List.range 37,List.range 38,List.range 39,List.range 39,List.range 41,List.range 42,List.range 43,List.range 44,List.range 39,List.range 39 ++ [45]]
def HI1 (A : Nat) (va : Value) (l : List Tl) (w0 : World) (sl : Env → Prop) (k : Nat) (ρ : Env) (ds : List Deferred) (W : World) : Prop :=
 ∃ i : Nat,(k = l.length - i ∧ i ≤ l.length) ∧ (sl ρ ∧ ρ 11 = va ∧ ρ 13 = i64 i) ∧ ds = [] ∧ Ext w0 W
def HI2 (va : Value) (i : Nat) (w0 : World) (sl : Env → Prop) (k : Nat) (ρ : Env) (ds : List Deferred) (W : World) : Prop :=
 ∃ j : Nat,(k = i - j ∧ j ≤ i) ∧ (sl ρ ∧ ρ 11 = va ∧ ρ 13 = i64 i ∧ ρ 14 = i64 j) ∧ ds = [] ∧ Ext w0 W
def HI3 (va vb : Value) (n : Nat) (w0 : World) (k : Nat) (ρ : Env) (ds : List Deferred) (W : World) : Prop :=
 ∃ i : Nat,(k = n - i ∧ i ≤ n) ∧ (ρ 11 = va ∧ ρ 18 = vb ∧ ρ 20 = i64 i ∧ ρ 17 = .bool true) ∧ ds = [] ∧ Ext w0 W
def HSl (w : World) (q : Nat) (ρ : Env) : Prop := ρ 3 = ptr w.heap.size ∧ ρ 4 = ptr (w.heap.size + 1) ∧ ρ 5 = ptr (w.heap.size + 1 + 1) ∧ ρ 7 = ptr q
set_option maxHeartbeats 4000000 in
theorem RouteHolds_c {w : World} {vP vS nv : Value} {P : List Ct} {S : List St} {q : Qu} (hG : SetGv w vP vS P S) (hq : QuOk q) (hno : SlB w 5 nv q.no.length (q.no.flatMap ctC)) (til many : Int) (htil : 0 ≤ til) :
  FN Tryz.prog 5 [seV vP vS,quV q nv,akV til many] w fun e w' => e = .returned (.bool true) ∧ Ext w w' := by
 refine FN_enter Tryz.func5 rfl rfl (by kernel_rfl) ?_
 obtain ⟨a1,c1,rfl⟩ := hG.p.isSlice
 obtain ⟨a2,c2,rfl⟩ := hG.s.isSlice
 obtain ⟨a4,c4,rfl⟩ := hno.isSlice
 have hE : Ext w (((w.alloc (.cells #[(Value.slice a1 P.length c1),(Value.slice a2 S.length c2)] 25)).alloc (.cells #[u32 q.fr,u32 q.to',u64 q.at_,u64 q.size,i64 q.most,(Value.slice a4 q.no.length c4)] 29)).alloc (.cells #[u64 til,i64 many] 31)) := (((Ext.refl w).alloc _).alloc _).alloc _
 have b1 : Blk (((w.alloc (.cells #[(Value.slice a1 P.length c1),(Value.slice a2 S.length c2)] 25)).alloc (.cells #[u32 q.fr,u32 q.to',u64 q.at_,u64 q.size,i64 q.most,(Value.slice a4 q.no.length c4)] 29)).alloc (.cells #[u64 til,i64 many] 31)) w.heap.size [(Value.slice a1 P.length c1),(Value.slice a2 S.length c2)] := (Blk.new w [(Value.slice a1 P.length c1),(Value.slice a2 S.length c2)] 25).ext (((Ext.refl _).alloc _).alloc _)
 have b2 : Blk (((w.alloc (.cells #[(Value.slice a1 P.length c1), (Value.slice a2 S.length c2)] 25)).alloc (.cells #[u32 q.fr, u32 q.to', u64 q.at_, u64 q.size, i64 q.most, (Value.slice a4 q.no.length c4)] 29)).alloc (.cells #[u64 til, i64 many] 31)) (w.heap.size + 1) (quC q (Value.slice a4 q.no.length c4)) := by
  have := (Blk.new (w.alloc (.cells #[(Value.slice a1 P.length c1),(Value.slice a2 S.length c2)] 25)) (quC q (Value.slice a4 q.no.length c4)) 29).ext ((Ext.refl _).alloc (.cells #[u64 til,i64 many] 31))
  simpa using this
 have bA : Blk (((w.alloc (.cells #[(Value.slice a1 P.length c1), (Value.slice a2 S.length c2)] 25)).alloc (.cells #[u32 q.fr, u32 q.to', u64 q.at_, u64 q.size, i64 q.most, (Value.slice a4 q.no.length c4)] 29)).alloc (.cells #[u64 til, i64 many] 31)) (w.heap.size + 1 + 1) [u64 til, i64 many] := by
  have := Blk.new ((w.alloc (.cells #[(Value.slice a1 P.length c1),(Value.slice a2 S.length c2)] 25)).alloc (.cells #[u32 q.fr,u32 q.to',u64 q.at_,u64 q.size,i64 q.most,(Value.slice a4 q.no.length c4)] 29)) [u64 til,i64 many] 31
  simpa using this
 have hsz : (((w.alloc (.cells #[(Value.slice a1 P.length c1),(Value.slice a2 S.length c2)] 25)).alloc (.cells #[u32 q.fr,u32 q.to',u64 q.at_,u64 q.size,i64 q.most,(Value.slice a4 q.no.length c4)] 29)).alloc (.cells #[u64 til,i64 many] 31)).heap.size = w.heap.size + 3 := by simp
 simp
 generalize (((w.alloc (.cells #[(Value.slice a1 P.length c1),(Value.slice a2 S.length c2)] 25)).alloc (.cells #[u32 q.fr,u32 q.to',u64 q.at_,u64 q.size,i64 q.most,(Value.slice a4 q.no.length c4)] 29)).alloc (.cells #[u64 til,i64 many] 31)) = w1 at *
 refine FN.mono (few_c (w := w1) (a := P.length) (b := S.length) ⟨_,_,rfl⟩ ⟨_,_,rfl⟩ 12) ?_
 rintro _ w2 ⟨rfl,hE2⟩
 have hX2 := hE.trans hE2
 have q2 := b2.ext hE2
 cases hf : fewB P.length S.length 12 with
 | false =>
  simp
  refine FN.mono (works_c w2) ?_
  rintro _ w3 ⟨rfl,hE3⟩
  simp
  exact hX2.trans hE3
 | true =>
  simp [(q2).cell 5 _ rfl]
  by_cases hn : (10 : Int) < (q.no.length : Int)
  ·simp [hn]
   refine FN.mono (works_c w2) ?_
   rintro _ w3 ⟨rfl,hE3⟩
   simp
   exact hX2.trans hE3
  simp [hn]
  simp [fewB] at hf
  refine FN.mono (vnew_c w2) ?_
  rintro _ w3 ⟨lq,lr,rfl,hL3,hE3,y1,y2⟩
  simp [((b1.ext hE2).ext hE3).cell 0 _ rfl,((b1.ext hE2).ext hE3).cell 1 _ rfl]
  have hX3 := hX2.trans hE3
  have hso : SetOk w3 (Value.slice a1 P.length c1) (Value.slice a2 S.length c2) P S := ⟨hG.p.ext hX3,hG.s.ext hX3,hG.op,hG.os,by omega,by omega⟩
  refine FN.mono (made_c hso hL3) ?_
  rintro _ w4 ⟨⟨g,vp,vt,L,M,rfl,hMd,hLP⟩,hE4⟩
  obtain ⟨a5,c5,rfl⟩ := hMd.pl.isSlice
  obtain ⟨a6,c6,rfl⟩ := hMd.tb.isSlice
  have hE5 : Ext w4 (w4.alloc (.cells #[(Value.slice a5 L.length c5),(Value.slice a6 (S.foldl rsetL []).length c6),.slice none 0 0] 43)) := (Ext.refl w4).alloc _
  have q4 := q2.ext (hE3.trans hE4)
  have bA4 := (bA.ext hE2).ext (hE3.trans hE4)
  simp [(q4).cell 0 _ rfl,(q4).cell 1 _ rfl,(q4).cell 2 _ rfl,(q4).cell 3 _ rfl,(q4).cell 4 _ rfl,(q4).cell 5 _ rfl,(bA4).cell 0 _ rfl]
  have hMd5 := hMd.ext hE5
  have q5 := q4.ext hE5
  have bA5 := bA4.ext hE5
  have hX5 := hX3.trans (hE4.trans hE5)
  have hL5 := hL3.ext (hE4.trans hE5)
  generalize (w4.alloc (.cells #[(Value.slice a5 L.length c5),(Value.slice a6 (S.foldl rsetL []).length c6),.slice none 0 0] 43)) = w5 at *
  obtain ⟨p,v,t,R,q',r,hGr⟩ := hMd5.g
  have hvm : vmOk [] := fun x hx => (by cases hx)
  have hno5 := hno.ext hX5
  have hL12 : L.length ≤ 12 := by omega
  refine FN.mono (rways_c (til := til) (many := 32) hGr hno5 hMd5.gd hvm hMd5.sl hq hMd5.so.ok hMd5.bl (by omega)) ?_
  rintro _ w6 ⟨⟨va,l,na,rfl,hSa,hTa,hga⟩,hE6⟩
  obtain ⟨aa,ca,rfl⟩ := hSa.isSlice
  simp
  refine FN.mono (knum_c na w6) ?_
  rintro _ _ ⟨rfl,rfl⟩
  rename_i w6
  have hX6 := hX5.trans hE6
  by_cases hna : na = 0
  case neg =>
   have hl0 : l = [] := by
    cases hb : badM q til 32 with
    | true => exact (hTa.bad hb).1
    | false =>
     obtain ⟨-,-,-,h4⟩ := hTa.ok hb
     rw [h4] at hna
     by_cases h : l = []
     ·exact h
     ·rw [if_neg h] at hna; exact (hna rfl).elim
   subst hl0
   have hb1 : (na != 0) = true := by simp [hna]
   simp [hb1]
   refine FN.mono (works_c w6) ?_
   rintro _ w7 ⟨rfl,hE7⟩
   simp
   exact hX6.trans hE7
  have hb : badM q til 32 = false := by
   cases hb : badM q til 32 with
   | true => have := (hTa.bad hb).2; omega
   | false => rfl
  have hW := hTa.all hL12 hb
  have hlL := hTa.len
  have q6 := q5.ext hE6
  have bA6 := bA5.ext hE6
  subst hna
  simp
  refine WC_loop (HI1 0 (.slice aa l.length ca) l w6 (HSl w lq)) l.length ⟨0,⟨by simp,by simp⟩,⟨by unfold HSl; simp,by simp,by simp⟩,rfl,Ext.refl _⟩ ?_
  rintro k ρ ds W ⟨i,⟨rfl,hi⟩,⟨⟨e3,e4,e5,e7⟩,e11,e13⟩,rfl,hXW⟩
  have hSW := hSa.ext hXW
  by_cases hlt : i < l.length
  ·simp [e11,e13,hlt]
   refine WC_drawB 47 (.F 0 <| .F 1 <| .F 2 <| .F 3 <| .F 4 <| .F 5 <| .F 6 <| .F 7 <| .F 8 <| .F 9 <| .F 10 <| .F 11 <| .F 12 <| .F 13 <| .F 14 <| .F 15 <| .F 16 <| .F 17 <| .F 18 <| .F 19 <| .F 20 <| .C 21 <| .F 22 <| .F 23 <| .F 24 <| .F 25 <| .F 26 <| .F 27 <| .F 28 <| .F 29 <| .F 30 <| .F 31 <| .F 32 <| .F 33 <| .F 34 <| .F 35 <| .F 36 <| .F 37 <| .F 38 <| .F 39 <| .F 40 <| .F 41 <| .F 42 <| .F 43 <| .F 44 <| .F 45 <| .F 46 <| .Z) (fun _ => false) bsH rfl (by kernel_rfl) fun W2 hW2 => ?_
   have hd : Ext W W2 := hW2 ▸ Ext.drew _
   have hXd := hXW.trans hd
   have q7 := q6.ext hXd
   have bA7 := bA6.ext hXd
   have hiB : i < (l.map tlWy).length := by simpa using hlt
   have hei : (l.map tlWy)[i] = tlWy l[i] := by simp
   have sB := (wt_sl (hSW.ext hd)).toSl (by simp; omega)
   have r1 := wyRow sB hiB
   have x1 := fun W' => wyIndex sB i hiB W'
   rw [hei] at r1
   obtain ⟨w1',w2',w3'⟩ := ways_at hW hlt
   have hna1 : ¬ til ≤ (tlWy l[i]).a := by show ¬ til ≤ l[i].a; omega
   have hnx : ((tlWy l[i]).n != (tlWy l[i]).f.to') = false := by show (l[i].f.to' != l[i].f.to') = false; simp
   have hfx : ((tlWy l[i]).f.fr != q.fr) = false := by show (l[i].f.fr != q.fr) = false; rw [w2']; simp
   have nwi : IntKind.i64.wrap ((i : Int) + 1) = ((i + 1 : Nat) : Int) := by rw [wrap64 _ (by omega) (by omega)]; rfl
   by_cases hi0 : i = 0
   ·have hz : ¬ 0 < i := by omega
    simp [e4,e5,e11,e13,x1,r1.c0,r1.c2,r1.c3,r1.c4,(bA7).cell 0 _ rfl,(q7).cell 0 _ rfl,hna1,hz,hnx,hfx]
    refine WC_loop (HI2 (.slice aa l.length ca) i W2 (HSl w lq)) i ⟨0,⟨by simp,by simp⟩,⟨by unfold HSl; simp [e3,e4,e5,e7],by simp [e11],by simp [e13],by simp⟩,rfl,Ext.refl _⟩ ?_
    rintro k2 ρ2 ds2 W4 ⟨j,⟨rfl,hj⟩,⟨⟨f3,f4,f5,f7⟩,f11,f13,f14⟩,rfl,hXW4⟩
    by_cases hji : j < i
    ·simp [f13,f14,hji]
     refine WC_drawC 10 (.F 0 <| .F 1 <| .F 2 <| .F 3 <| .F 4 <| .F 5 <| .F 6 <| .F 7 <| .F 8 <| .F 9 <| .Z) (fun _ => false) rfl (by kernel_rfl) fun W5 hW5 => ?_
     have hd5 : Ext W4 W5 := hW5 ▸ Ext.drew _
     have sB5 := (wt_sl (hSW.ext (hd.trans (hXW4.trans hd5)))).toSl (by simp; omega)
     have ri := wyRow sB5 hiB
     have rj := wyRow sB5 (show j < (l.map tlWy).length by simp; omega)
     have xi := wyIndex sB5 i hiB W5
     have xj := wyIndex sB5 j (by simp; omega) W5
     have ej : (l.map tlWy)[j]'(by simp; omega) = tlWy (l[j]'(by omega)) := by simp
     rw [hei] at ri
     rw [ej] at rj
     have hq := ct_eq (tlWy (l[j]'(by omega))).f (tlWy l[i]).f W5
     have hne : decide ((tlWy (l[j]'(by omega))).f = (tlWy l[i]).f) = false := decide_eq_false (ways_fst hW hlt (by omega) hji)
     rw [hne] at hq
     have nwj : IntKind.i64.wrap ((j : Int) + 1) = ((j + 1 : Nat) : Int) := by rw [wrap64 _ (by omega) (by omega)]; rfl
     simp [f11,f13,f14,xi,xj,ri.c3,ri.c4,ri.c5,ri.c6,ri.c7,rj.c3,rj.c4,rj.c5,rj.c6,rj.c7,hq,nwj]
     exact ⟨i - (j + 1),by omega,j + 1,⟨rfl,by omega⟩,⟨by unfold HSl; simp [f3,f4,f5,f7],by simp [f11],by simp [f13],by simp⟩,rfl,hXW4.trans hd5⟩
    ·have hij : j = i := by omega
     simp [f13,f14,hij,nwi]
     exact ⟨l.length - (i + 1),by omega,i + 1,⟨rfl,by omega⟩,⟨by unfold HSl; simp [f3,f4,f5,f7],by simp [f11],by simp⟩,rfl,(hXW.trans hd).trans hXW4⟩
   ·have hz : 0 < i := by omega
    have sub1 : IntKind.i64.wrap ((i : Int) - 1) = ((i - 1 : Nat) : Int) := by rw [wrap64 _ (by omega) (by omega)]; omega
    have hiP : i - 1 < (l.map tlWy).length := by simp; omega
    have heP : (l.map tlWy)[i - 1] = tlWy (l[i - 1]'(by omega)) := by simp
    have r0 := wyRow sB hiP
    have x0 := fun W' => wyIndex sB (i - 1) hiP W'
    rw [heP] at r0
    simp [e5,e11,e13,x1,x0,sub1,r1.c0,r1.c1,r1.c2,r1.c3,r1.c4,r1.c5,r1.c6,r1.c7,r0.c0,r0.c1,r0.c2,r0.c3,r0.c4,r0.c5,r0.c6,r0.c7,(bA7).cell 0 _ rfl,hna1,hz]
    refine FN.mono (better_c (tlWy l[i]) (tlWy (l[i - 1]'(by omega))) W2) ?_
    rintro _ W3 ⟨rfl,hE3'⟩
    have hX03 := hd.trans hE3'
    have hbf : decide (wyLt (tlWy l[i]) (tlWy (l[i - 1]'(by omega)))) = false := decide_eq_false (ways_ord hW hlt (by omega) (by omega))
    rw [hbf]
    have r2 := wyRow (sB.ext hE3') hiB
    rw [hei] at r2
    simp
    refine KR_ext hE3' ?_
    simp [e4,e11,e13,x1,r2.c2,r2.c3,r2.c4,(q7.ext hE3').cell 0 _ rfl,hnx,hfx]
    refine WC_loop (HI2 (.slice aa l.length ca) i W3 (HSl w lq)) i ⟨0,⟨by simp,by simp⟩,⟨by unfold HSl; simp [e3,e4,e5,e7],by simp [e11],by simp [e13],by simp⟩,rfl,Ext.refl _⟩ ?_
    rintro k2 ρ2 ds2 W4 ⟨j,⟨rfl,hj⟩,⟨⟨f3,f4,f5,f7⟩,f11,f13,f14⟩,rfl,hXW4⟩
    by_cases hji : j < i
    ·simp [f13,f14,hji]
     refine WC_drawC 10 (.F 0 <| .F 1 <| .F 2 <| .F 3 <| .F 4 <| .F 5 <| .F 6 <| .F 7 <| .F 8 <| .F 9 <| .Z) (fun _ => false) rfl (by kernel_rfl) fun W5 hW5 => ?_
     have hd5 : Ext W4 W5 := hW5 ▸ Ext.drew _
     have sB5 := (wt_sl (hSW.ext (hX03.trans (hXW4.trans hd5)))).toSl (by simp; omega)
     have ri := wyRow sB5 hiB
     have rj := wyRow sB5 (show j < (l.map tlWy).length by simp; omega)
     have xi := wyIndex sB5 i hiB W5
     have xj := wyIndex sB5 j (by simp; omega) W5
     have ej : (l.map tlWy)[j]'(by simp; omega) = tlWy (l[j]'(by omega)) := by simp
     rw [hei] at ri
     rw [ej] at rj
     have hq := ct_eq (tlWy (l[j]'(by omega))).f (tlWy l[i]).f W5
     have hne : decide ((tlWy (l[j]'(by omega))).f = (tlWy l[i]).f) = false := decide_eq_false (ways_fst hW hlt (by omega) hji)
     rw [hne] at hq
     have nwj : IntKind.i64.wrap ((j : Int) + 1) = ((j + 1 : Nat) : Int) := by rw [wrap64 _ (by omega) (by omega)]; rfl
     simp [f11,f13,f14,xi,xj,ri.c3,ri.c4,ri.c5,ri.c6,ri.c7,rj.c3,rj.c4,rj.c5,rj.c6,rj.c7,hq,nwj]
     exact ⟨i - (j + 1),by omega,j + 1,⟨rfl,by omega⟩,⟨by unfold HSl; simp [f3,f4,f5,f7],by simp [f11],by simp [f13],by simp⟩,rfl,hXW4.trans hd5⟩
    ·have hij : j = i := by omega
     simp [f13,f14,hij,nwi]
     exact ⟨l.length - (i + 1),by omega,i + 1,⟨rfl,by omega⟩,⟨by unfold HSl; simp [f3,f4,f5,f7],by simp [f11],by simp⟩,rfl,(hXW.trans hX03).trans hXW4⟩
  ·have hil : i = l.length := by omega
   subst hil
   have hX0W := hX6.trans hXW
   have q7 := q6.ext hXW
   have bA7 := bA6.ext hXW
   simp [e11,e13]
   refine WC_drawC 19 (.F 0 <| .F 1 <| .F 2 <| .F 3 <| .F 4 <| .F 5 <| .F 6 <| .F 7 <| .F 8 <| .F 9 <| .F 10 <| .F 11 <| .F 12 <| .F 13 <| .F 14 <| .F 15 <| .F 16 <| .F 17 <| .F 18 <| .Z) (fun _ => false) rfl (by kernel_rfl) fun W2 hW2 => ?_
   have hd : Ext W W2 := hW2 ▸ Ext.drew _
   have q8 := q7.ext hd
   have bA8 := bA7.ext hd
   have hX02 := hX0W.trans hd
   by_cases hm0 : many < 0
   ·simp [e5,(bA8).cell 1 _ rfl,hm0]
    refine FN.mono (works_c W2) ?_
    rintro _ W3 ⟨rfl,hE7⟩
    simp
    exact hX02.trans hE7
   by_cases hm1 : (l.length : Int) ≤ many
   ·simp [e5,e11,(bA8).cell 1 _ rfl,hm0,hm1]
    refine FN.mono (works_c W2) ?_
    rintro _ W3 ⟨rfl,hE7⟩
    simp
    exact hX02.trans hE7
   obtain ⟨k,hk⟩ : ∃ k : Nat,many = (k : Int) := ⟨many.toNat,by omega⟩
   subst hk
   have hkl : k < l.length := by omega
   have hm1' : ¬ l.length ≤ k := by omega
   have sB := (wt_sl (hSW.ext hd)).toSl (by simp; omega)
   have hkB : k < (l.map tlWy).length := by simpa using hkl
   have hek : (l.map tlWy)[k] = tlWy l[k] := by simp
   have rk := wyRow sB hkB
   have xk := fun W' => wyIndex sB k hkB W'
   rw [hek] at rk
   obtain ⟨w1',w2',w3'⟩ := ways_at hW hkl
   have hL2 := hL5.ext (hE6.trans (hXW.trans hd))
   simp [e4,e5,e7,e11,(bA8).cell 1 _ rfl,(q8).cell 3 _ rfl,hm0,hm1',xk,rk.c0,rk.c1,rk.c2,rk.c3,rk.c4,rk.c5,rk.c6,rk.c7]
   refine FN.mono (take_c (x := tlWy l[k]) (n := q.size) hL2 hvm (hMd5.so.ok _ w3') hq.size.1) ?_
   rintro _ W3 ⟨rfl,hL3',hM3⟩
   simp
   refine FN.mono (knum_c (bookE [] (tlWy l[k]).f q.size) W3) ?_
   rintro _ _ ⟨rfl,rfl⟩
   rename_i W3
   have hlr := hL3.lt.2
   have z2 := hE2.size
   have z1 := hE.size
   have X3 : Ext w W3 := ((hX02.mod (S := fun k => w.heap.size ≤ k)).trans (hM3.weaken fun k hk => by omega)).ext fun _ h => h
   by_cases hbe : bookE [] (tlWy l[k]).f q.size = 0
   case neg =>
    have hbe' : (bookE [] (tlWy l[k]).f q.size != 0) = true := by simp [hbe]
    simp [hbe']
    refine FN.mono (works_c W3) ?_
    rintro _ W4 ⟨rfl,hE7⟩
    simp
    exact X3.trans hE7
   have hX16 := hE2.trans ((hE3.trans (hE4.trans (hE5.trans hE6))).trans (hXW.trans hd))
   have b1l := b1.lt
   have b2l := b2.lt
   have bAl := bA.lt
   have b13 := (b1.ext hX16).mod hM3 (by omega)
   have q13 := q8.mod hM3 (by omega)
   have bA13 := bA8.mod hM3 (by omega)
   have hga' : ¬ slB (.slice aa l.length ca) = lr := by
    have : w5.heap.size ≤ slB (.slice aa l.length ca) := hga (fun e => by rw [e] at hkl; simp at hkl)
    have := hE4.size
    have := hE5.size
    omega
   have hSa3 := (hSW.ext hd).mod hM3 fun _ => hga'
   have hvm' := bookM_ok (n := q.size) hvm (hMd5.so.ok _ w3') hq.size.1
   have hso2 : SetOk W3 (Value.slice a1 P.length c1) (Value.slice a2 S.length c2) P S := ⟨hG.p.ext X3,hG.s.ext X3,hG.op,hG.os,by omega,by omega⟩
   rw [hbe]
   simp [e3,e7,(b13).cell 0 _ rfl,(b13).cell 1 _ rfl]
   refine FN.mono (made_c hso2 hL3') ?_
   rintro _ W4 ⟨⟨g2,vp2,vt2,L2,M2,rfl,hMd2,hLP2⟩,hE14⟩
   obtain ⟨a7,c7,rfl⟩ := hMd2.pl.isSlice
   obtain ⟨a8,c8,rfl⟩ := hMd2.tb.isSlice
   have hE15 : Ext W4 (W4.alloc (.cells #[.slice a7 L2.length c7,.slice a8 (S.foldl rsetL []).length c8,.slice none 0 0] 43)) := (Ext.refl W4).alloc _
   simp [e4,e5,(q13.ext hE14).cell 0 _ rfl,(q13.ext hE14).cell 1 _ rfl,(q13.ext hE14).cell 2 _ rfl,(q13.ext hE14).cell 3 _ rfl,(q13.ext hE14).cell 4 _ rfl,(q13.ext hE14).cell 5 _ rfl,(bA13.ext hE14).cell 0 _ rfl]
   have hMd3 := hMd2.ext hE15
   have hX35 := hE14.trans hE15
   have X5 := X3.trans hX35
   generalize (W4.alloc (.cells #[.slice a7 L2.length c7,.slice a8 (S.foldl rsetL []).length c8,.slice none 0 0] 43)) = W5 at *
   obtain ⟨p2,v2,t2,R2,q2',r2,hGr2⟩ := hMd3.g
   obtain rfl : L2 = L := hMd3.eL.trans hMd5.eL.symm
   refine FN.mono (rways_c (til := til) (many := 32) hGr2 (hno.ext X5) hMd3.gd hvm' hMd3.sl hq hMd3.so.ok hMd3.bl (by omega)) ?_
   rintro _ W6 ⟨⟨vb,l',nb,rfl,hSb,hTb,hgb⟩,hE16⟩
   obtain ⟨ab,cb,rfl⟩ := hSb.isSlice
   have hW' := hTb.all hL12 hb
   have hlL' := hTb.len
   have X6 := X5.trans hE16
   have hSa6 := hSa3.ext (hX35.trans hE16)
   simp
   refine WC_loop (HI3 (.slice aa l.length ca) (.slice ab l'.length cb) l'.length W6) l'.length ⟨0,⟨by simp,by simp⟩,⟨by simp [e11],by simp,by simp,by simp⟩,rfl,Ext.refl _⟩ ?_
   rintro k3 ρ3 ds3 W7 ⟨i,⟨rfl,hi⟩,⟨f11,f18,f20,f17⟩,rfl,hXW7⟩
   by_cases hlt3 : i < l'.length
   ·obtain ⟨hil,hnw⟩ := ways_worse hMd5.gd hvm hq.size.1 hMd5.rt hMd3.rt hMd5.nd hMd3.nd hW hW' hlt3
    have hil' : ¬ l.length ≤ i := by omega
    simp [f18,f20,hlt3]
    refine WC_drawC 13 (.F 0 <| .F 1 <| .F 2 <| .F 3 <| .F 4 <| .F 5 <| .F 6 <| .F 7 <| .F 8 <| .F 9 <| .F 10 <| .F 11 <| .F 12 <| .Z) (fun _ => false) rfl (by kernel_rfl) fun W8 hW8 => ?_
    have hd8 : Ext W7 W8 := hW8 ▸ Ext.drew _
    have sA8 := (wt_sl (hSa6.ext (hXW7.trans hd8))).toSl (by simp; omega)
    have sB8 := (wt_sl (hSb.ext (hXW7.trans hd8))).toSl (by simp; omega)
    have ra := wyRow sA8 (show i < (l.map tlWy).length by simpa using hil)
    have rb := wyRow sB8 (show i < (l'.map tlWy).length by simpa using hlt3)
    have xa := wyIndex sA8 i (by simpa using hil) W8
    have xb := wyIndex sB8 i (by simpa using hlt3) W8
    have ea : (l.map tlWy)[i]'(by simpa using hil) = tlWy l[i] := by simp
    have eb : (l'.map tlWy)[i]'(by simpa using hlt3) = tlWy l'[i] := by simp
    rw [ea] at ra
    rw [eb] at rb
    have nwi : IntKind.i64.wrap ((i : Int) + 1) = ((i + 1 : Nat) : Int) := by rw [wrap64 _ (by omega) (by omega)]; rfl
    simp [f11,f18,f20,hil',xa,xb,ra.c0,ra.c1,ra.c2,ra.c3,ra.c4,ra.c5,ra.c6,ra.c7,rb.c0,rb.c1,rb.c2,rb.c3,rb.c4,rb.c5,rb.c6,rb.c7]
    refine FN.mono (better_c (tlWy l'[i]) (tlWy l[i]) W8) ?_
    rintro _ W9 ⟨rfl,hE9⟩
    rw [show decide (wyLt (tlWy l'[i]) (tlWy l[i])) = false from decide_eq_false hnw]
    simp [f20,nwi]
    exact ⟨l'.length - (i + 1),by omega,i + 1,⟨rfl,by omega⟩,⟨by simp [f11],by simp [f18],by simp,by simp [f17]⟩,rfl,hXW7.trans (hd8.trans hE9)⟩
   ·have hij : i = l'.length := by omega
    subst hij
    simp [f17,f18,f20]
    refine FN.mono (works_c W7) ?_
    rintro _ W8 ⟨rfl,hE9⟩
    simp
    exact X6.trans (hXW7.trans hE9)
end Go.Proofs