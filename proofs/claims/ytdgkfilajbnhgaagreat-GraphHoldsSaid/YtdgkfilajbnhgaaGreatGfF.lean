/-
 Contracts of the functions that the law reaches,step by step.
-/
import Derived.Test.YtdgkfilajbnhgaaGreatGfE
import Derived.Test.YtdgkfilajbnhgaaGreatGeW
namespace Go.Proofs
open Pk
set_option maxRecDepth 10000
def HolI (g aQ aT aD : Nat) (L : List Ct) (W0 : World) (k : Nat) (ρ : Env) (ds : List Deferred) (W : World) : Prop :=
 ∃ i : Nat,(k = L.length - i ∧ i ≤ L.length) ∧ (ρ 4 = ptr aQ ∧ ρ 5 = ptr aT ∧ ρ 7 = ptr g ∧ ρ 8 = ptr aD) ∧ ρ 14 = i64 i ∧ ds = [] ∧ Ext W0 W
set_option maxHeartbeats 2000000 in
theorem GraphHolds_c {w : World} {vP vS vB nv : Value} {P : List Ct} {S : List St} {B : List LR} {q : Qu} (hG : SetGv w vP vS vB P S B) (hq : QuOk q) (hno : SlB w 5 nv q.no.length (q.no.flatMap ctC)) (lo hi : Int) (hlo : 0 ≤ lo) (hhi : 0 ≤ hi) :
  FN Tryz.prog 6 [seV vP vS vB,quV q nv,.agg #[u64 lo,u64 hi]] w fun e w' => e = .returned (.bool true) ∧ Ext w w' := by
 refine FN_enter Tryz.func6 rfl rfl (by kernel_rfl) ?_
 have i1 := hG.p.isSlice
 have i2 := hG.s.isSlice
 have i3 := hG.b.isSlice
 obtain ⟨a1,c1,rfl⟩ := hG.p.isSlice
 obtain ⟨a4,c4,rfl⟩ := hno.isSlice
 have hE : Ext w (((w.alloc (.cells #[(Value.slice a1 P.length c1),vS,vB] 26)).alloc (.cells #[u32 q.fr,u32 q.to',u64 q.at_,u64 q.size,i64 q.most,(Value.slice a4 q.no.length c4)] 30)).alloc (.cells #[u64 lo,u64 hi] 80)) := (((Ext.refl w).alloc _).alloc _).alloc _
 have b1 : Blk (((w.alloc (.cells #[(Value.slice a1 P.length c1),vS,vB] 26)).alloc (.cells #[u32 q.fr,u32 q.to',u64 q.at_,u64 q.size,i64 q.most,(Value.slice a4 q.no.length c4)] 30)).alloc (.cells #[u64 lo,u64 hi] 80)) w.heap.size [(Value.slice a1 P.length c1),vS,vB] := (Blk.new w [(Value.slice a1 P.length c1),vS,vB] 26).ext (((Ext.refl _).alloc _).alloc _)
 have b2 : Blk (((w.alloc (.cells #[(Value.slice a1 P.length c1), vS, vB] 26)).alloc (.cells #[u32 q.fr, u32 q.to', u64 q.at_, u64 q.size, i64 q.most, (Value.slice a4 q.no.length c4)] 30)).alloc (.cells #[u64 lo, u64 hi] 80)) (w.heap.size + 1) (quC q (Value.slice a4 q.no.length c4)) := by
  have := (Blk.new (w.alloc (.cells #[(Value.slice a1 P.length c1),vS,vB] 26)) (quC q (Value.slice a4 q.no.length c4)) 30).ext ((Ext.refl _).alloc (.cells #[u64 lo,u64 hi] 80))
  simpa using this
 have t0 : Blk (((w.alloc (.cells #[(Value.slice a1 P.length c1), vS, vB] 26)).alloc (.cells #[u32 q.fr, u32 q.to', u64 q.at_, u64 q.size, i64 q.most, (Value.slice a4 q.no.length c4)] 30)).alloc (.cells #[u64 lo, u64 hi] 80)) (w.heap.size + 1 + 1) [u64 lo, u64 hi] := by
  have := Blk.new ((w.alloc (.cells #[(Value.slice a1 P.length c1),vS,vB] 26)).alloc (.cells #[u32 q.fr,u32 q.to',u64 q.at_,u64 q.size,i64 q.most,(Value.slice a4 q.no.length c4)] 30)) [u64 lo,u64 hi] 80
  simpa using this
 simp
 generalize (((w.alloc (.cells #[(Value.slice a1 P.length c1),vS,vB] 26)).alloc (.cells #[u32 q.fr,u32 q.to',u64 q.at_,u64 q.size,i64 q.most,(Value.slice a4 q.no.length c4)] 30)).alloc (.cells #[u64 lo,u64 hi] 80)) = w1 at *
 refine FN.mono (few_c (w := w1) i1 i2 i3 8) ?_
 rintro _ w2 ⟨rfl,hE2⟩
 have hX2 := hE.trans hE2
 have q2 := b2.ext hE2
 have t2 := t0.ext hE2
 have p2 := b1.ext hE2
 have wk : FN Tryz.prog 8 [] w2 fun e w' => e = .returned (.bool true) ∧ Ext w w' := (works_c w2).mono fun e w' h => ⟨h.1,hX2.trans h.2⟩
 cases hf : fewB P.length S.length B.length 8 with
 | false =>
  simp
  refine FN.mono (wk) ?_
  rintro _ w3 ⟨rfl,hE3⟩
  simp
  exact hE3
 | true =>
 simp [(p2).cell 0 _ rfl]
 by_cases hp : (6 : Int) < (P.length : Int)
 ·simp [hp]
  refine FN.mono (wk) ?_
  rintro _ w3 ⟨rfl,hE3⟩
  simp
  exact hE3
 simp [hp,(q2).cell 4 _ rfl]
 by_cases h1 : 4 < q.most
 ·simp [h1]
  refine FN.mono (wk) ?_
  rintro _ w3 ⟨rfl,hE3⟩
  simp
  exact hE3
 simp [h1,(q2).cell 4 _ rfl]
 by_cases h2 : q.most < 1
 ·simp [h2]
  refine FN.mono (wk) ?_
  rintro _ w3 ⟨rfl,hE3⟩
  simp
  exact hE3
 simp [h2,(q2).cell 5 _ rfl]
 by_cases h3 : 0 < q.no.length
 ·simp [h3]
  refine FN.mono (wk) ?_
  rintro _ w3 ⟨rfl,hE3⟩
  simp
  exact hE3
 simp [h3,(q2).cell 0 _ rfl,beq_dec]
 by_cases h4 : q.fr = 0
 ·simp [h4]
  refine FN.mono (wk) ?_
  rintro _ w3 ⟨rfl,hE3⟩
  simp
  exact hE3
 simp [h4,(q2).cell 1 _ rfl,beq_dec]
 by_cases h5 : q.to' = 0
 ·simp [h5]
  refine FN.mono (wk) ?_
  rintro _ w3 ⟨rfl,hE3⟩
  simp
  exact hE3
 simp [h5,(q2).cell 0 _ rfl,(q2).cell 1 _ rfl,beq_dec]
 by_cases h6 : q.fr = q.to'
 ·simp [h6]
  refine FN.mono (wk) ?_
  rintro _ w3 ⟨rfl,hE3⟩
  simp
  exact hE3
 simp [h6,(q2).cell 3 _ rfl,beq_dec]
 by_cases h7 : q.size = 0
 ·simp [h7]
  refine FN.mono (wk) ?_
  rintro _ w3 ⟨rfl,hE3⟩
  simp
  exact hE3
 simp [h7,(q2).cell 2 _ rfl]
 by_cases h8 : 4611686018427387903 ≤ q.at_
 ·simp [h8]
  refine FN.mono (wk) ?_
  rintro _ w3 ⟨rfl,hE3⟩
  simp
  exact hE3
 simp [h8,(p2).cell 0 _ rfl,(p2).cell 1 _ rfl,(p2).cell 2 _ rfl]
 simp [fewB] at hf
 have hso : SetOk w2 (Value.slice a1 P.length c1) vS vB P S B := ⟨hG.p.ext hX2,hG.s.ext hX2,hG.b.ext hX2,hG.op,hG.os,hG.ob,by omega,by omega,by omega⟩
 refine FN.mono (made_c hso) ?_
 rintro _ w3 ⟨⟨g,vp,vt,vl,L,M,m,rfl,hMd,hLP⟩,hE3⟩
 obtain ⟨ll,hdg⟩ := hMd.d
 obtain ⟨p,v,t,R,q',r,hGr⟩ := hMd.g
 obtain ⟨a5,c5,rfl⟩ : ∃ a c,vp = .slice a L.length c := hdg.pl.isSlice
 obtain ⟨a6,c6,rfl⟩ := hdg.tb.isSlice
 obtain ⟨a7,c7,rfl⟩ := hdg.lg.isSlice
 have hE4 : Ext w3 (w3.alloc (.cells #[.slice a5 L.length c5,.slice a6 (S.foldl rsetL []).length c6,.slice a7 ll.length c7] 42)) := (Ext.refl w3).alloc _
 have k4 : Blk (w3.alloc (.cells #[.slice a5 L.length c5,.slice a6 (S.foldl rsetL []).length c6,.slice a7 ll.length c7] 42)) w3.heap.size [.slice a5 L.length c5,.slice a6 (S.foldl rsetL []).length c6,.slice a7 ll.length c7] := Blk.new w3 [.slice a5 L.length c5,.slice a6 (S.foldl rsetL []).length c6,.slice a7 ll.length c7] 42
 simp [(q2.ext hE3).cell 0 _ rfl,(q2.ext hE3).cell 1 _ rfl,(q2.ext hE3).cell 2 _ rfl,(q2.ext hE3).cell 3 _ rfl,(q2.ext hE3).cell 4 _ rfl,(q2.ext hE3).cell 5 _ rfl]
 have hX24 := hE3.trans hE4
 have q4 := q2.ext hX24
 generalize w3.alloc (.cells #[.slice a5 L.length c5,.slice a6 (S.foldl rsetL []).length c6,.slice a7 ll.length c7] 42) = w4 at *
 refine FN.mono (gbest_c (hGr.ext hE4) (hno.ext (hX2.trans hX24)) hMd.gd hdg.vm hMd.sl hq hdg.ok hdg.bl (by omega)) ?_
 rintro _ w5 ⟨⟨x,n,rfl,hT⟩,hE5⟩
 have hE6 : Ext w5 (w5.alloc (.cells #[u64 x.a,i64 x.h,u32 x.n,u32 x.f.fr,u32 x.f.to',u64 x.f.sf,u64 x.f.su,u64 x.f.rate] 50)) := (Ext.refl w5).alloc _
 have k6 : Blk (w5.alloc (.cells #[u64 x.a,i64 x.h,u32 x.n,u32 x.f.fr,u32 x.f.to',u64 x.f.sf,u64 x.f.su,u64 x.f.rate] 50)) w5.heap.size (wyC x) := Blk.new w5 (wyC x) 50
 simp [(q4.ext hE5).cell 0 _ rfl,(q4.ext hE5).cell 1 _ rfl,(q4.ext hE5).cell 2 _ rfl,(q4.ext hE5).cell 3 _ rfl,(q4.ext hE5).cell 4 _ rfl,(q4.ext hE5).cell 5 _ rfl,(k4.ext hE5).cell 0 _ rfl]
 generalize w5.alloc (.cells #[u64 x.a,i64 x.h,u32 x.n,u32 x.f.fr,u32 x.f.to',u64 x.f.sf,u64 x.f.su,u64 x.f.rate] 50) = w6 at *
 have hX46 := hE5.trans hE6
 have hOn : OnW w6 g p v L t R M q' r m (.slice a5 L.length c5) := ⟨hGr.ext (hE4.trans hX46),hMd.gd,hdg.vm,hMd.sl,hdg.pl.ext (hE4.trans hX46),hdg.ok,hdg.bl⟩
 have hmo : ((q.most.toNat : Nat) : Int) = q.most := by omega
 have hoc := on_c hOn hq (nv := .slice a4 q.no.length c4) ⟨_,_,_,rfl⟩ q.most.toNat w6 (Ext.refl _) (wy0 q.at_) q.fr hq.at_.1 (by simp) (by simp; omega)
 rw [hmo] at hoc
 have hnoE : q.no = [] := by
  cases hq0 : q.no with
  | nil => rfl
  | cons a l => rw [hq0] at h3; simp at h3
 have hbad : (badQ q || badE q) = false := by
  unfold badQ badE
  simp [h4,h7,h8,h2,h5,h6]
 have hbest := on_best hMd.so.so hnoE hbad hT
 refine FN.mono (hoc) ?_
 rintro _ w7 ⟨rfl,hE7⟩
 generalize onW (gSnt M m q.size) L q.to' q.most.toNat (wy0 q.at_) q.fr = rr at hbest ⊢
 have hE8 : Ext w7 (w7.alloc (.cells #[u64 rr.1.a,i64 rr.1.h,u32 rr.1.n,u32 rr.1.f.fr,u32 rr.1.f.to',u64 rr.1.f.sf,u64 rr.1.f.su,u64 rr.1.f.rate] 50)) := (Ext.refl w7).alloc _
 have k8 : Blk (w7.alloc (.cells #[u64 rr.1.a,i64 rr.1.h,u32 rr.1.n,u32 rr.1.f.fr,u32 rr.1.f.to',u64 rr.1.f.sf,u64 rr.1.f.su,u64 rr.1.f.rate] 50)) w7.heap.size (wyC rr.1) := Blk.new w7 (wyC rr.1) 50
 simp
 generalize w7.alloc (.cells #[u64 rr.1.a,i64 rr.1.h,u32 rr.1.n,u32 rr.1.f.fr,u32 rr.1.f.to',u64 rr.1.f.sf,u64 rr.1.f.su,u64 rr.1.f.rate] 50) = w8 at *
 have hX68 := hE7.trans hE8
 have k6' := k6.ext hX68
 have hX48 := hX46.trans hX68
 refine FN.mono (knum_c n w8) ?_
 rintro _ _ ⟨rfl,rfl⟩
 rename_i w8
 refine with_tail (T := ∀ (σ : Env),(σ 4 = ptr (w.heap.size + 1) ∧ σ 5 = ptr (w.heap.size + 1 + 1) ∧ σ 7 = ptr g ∧ σ 8 = ptr w3.heap.size) → σ 14 = i64 0 → WCt Tryz.prog 179 none ?dC ?dQ Tok.mk σ [] w8) (fun tail => ?br) ?jn
 case br =>
  obtain ⟨r1,r2⟩ := rr
  cases r2 with
  | true =>
   obtain ⟨rfl,rfl⟩ := hbest.1 rfl
   have hqw := neqWy x x w8
   simp at hqw
   simp [(k6').cell 0 _ rfl,(k6').cell 1 _ rfl,(k6').cell 2 _ rfl,(k6').cell 3 _ rfl,(k6').cell 4 _ rfl,(k6').cell 5 _ rfl,(k6').cell 6 _ rfl,(k6').cell 7 _ rfl,(k8).cell 0 _ rfl,(k8).cell 1 _ rfl,(k8).cell 2 _ rfl,(k8).cell 3 _ rfl,(k8).cell 4 _ rfl,(k8).cell 5 _ rfl,(k8).cell 6 _ rfl,(k8).cell 7 _ rfl,hqw]
   refine tail _ ⟨?_,?_,?_,?_⟩ ?_ <;> simp
  | false =>
   have hn3 := hbest.2 rfl
   subst hn3
   simp [beq_dec]
   refine FN.mono (knum_c 310 w8) ?_
   rintro _ _ ⟨rfl,rfl⟩
   rename_i w8
   simp
   refine tail _ ⟨?_,?_,?_,?_⟩ ?_ <;> simp
 case jn =>
  rintro σ ⟨f4,f5,f7,f8⟩ f14
  refine WC_loop (HolI g (w.heap.size + 1) (w.heap.size + 1 + 1) w3.heap.size L w8) L.length ?_ ?_
  ·exact ⟨0,⟨by simp,by omega⟩,⟨f4,f5,f7,f8⟩,by simpa using f14,rfl,Ext.refl _⟩
  rintro k ρ ds W ⟨i,⟨rfl,hi'⟩,⟨e4,e5,e7,e8⟩,e14,rfl,hEW⟩
  have hE6W := hX68.trans hEW
  have lenL := fun ty W' => hOn.l.isLen (P := Tryz.prog) (t := 22) (by simp) ty W'
  have kW := k4.ext (hX48.trans hEW)
  have qW := q4.ext (hX48.trans hEW)
  have tW := t2.ext (hX24.trans (hX48.trans hEW))
  have hbL := hdg.bl
  by_cases hil : i < L.length
  ·have hOW := hOn.ext hE6W
   simp [e8,e14,(kW).cell 0 _ rfl,lenL,hil]
   refine WC_drawC 19 (.F 0 <| .F 1 <| .F 2 <| .F 3 <| .F 4 <| .F 5 <| .F 6 <| .F 7 <| .F 8 <| .F 9 <| .F 10 <| .F 11 <| .F 12 <| .F 13 <| .C 14 <| .F 15 <| .F 16 <| .F 17 <| .F 18 <| .Z) (fun _ => false) rfl (by kernel_rfl) fun W1 hW1 => ?_
   have hd1 : Ext W W1 := hW1 ▸ Ext.drew _
   have hO1 := hOW.ext hd1
   have r1 := ctRow hO1.l hil
   have x1 := fun W' => RPl.index hO1.l i hil W'
   simp [e4,e5,e7,e8,e14,(kW.ext hd1).cell 0 _ rfl,(qW.ext hd1).cell 3 _ rfl,(tW.ext hd1).cell 0 _ rfl,(tW.ext hd1).cell 1 _ rfl,x1,r1.c0,r1.c1,r1.c2,r1.c3,r1.c4]
   have hci := hdg.ok L[i] (List.getElem_mem hil)
   refine FN.mono (sent_g hO1 hci (x := min lo hi) (by omega) hq.size.1) ?_
   rintro _ W2 ⟨rfl,hE2'⟩
   simp
   refine KR_ext hE2' ?_
   simp
   refine WC_drawC 19 (.F 0 <| .F 1 <| .F 2 <| .F 3 <| .F 4 <| .F 5 <| .F 6 <| .F 7 <| .F 8 <| .F 9 <| .F 10 <| .F 11 <| .F 12 <| .F 13 <| .C 14 <| .F 15 <| .F 16 <| .F 17 <| .F 18 <| .Z) (fun _ => false) rfl (by kernel_rfl) fun W3 hW3 => ?_
   have hd3 : Ext W2 W3 := hW3 ▸ Ext.drew _
   have hW13 := hE2'.trans hd3
   have hWW3 := hd1.trans hW13
   have hO3 := hOW.ext hWW3
   have r3 := ctRow hO3.l hil
   have x3 := fun W' => RPl.index hO3.l i hil W'
   simp [e4,e5,e7,e8,e14,(kW.ext hWW3).cell 0 _ rfl,(qW.ext hWW3).cell 3 _ rfl,(tW.ext hWW3).cell 0 _ rfl,(tW.ext hWW3).cell 1 _ rfl,x3,r3.c0,r3.c1,r3.c2,r3.c3,r3.c4]
   refine FN.mono (sent_g hO3 hci (x := max lo hi) (by omega) hq.size.1) ?_
   rintro _ W4 ⟨rfl,hE4'⟩
   simp
   refine KR_ext hE4' ?_
   have hfi := (gSnt_sn hMd.gd m q.size).fifo L[i] (min lo hi) (max lo hi)
   have q1 : IntKind.i64.wrap ((i : Int) + 1) = (i : Int) + 1 := wrap64 _ (by omega) (by omega)
   generalize gSnt M m q.size L[i] (min lo hi) = s1 at hfi ⊢
   generalize gSnt M m q.size L[i] (max lo hi) = s2 at hfi ⊢
   have hlast := hEW.trans (hWW3.trans hE4')
   cases s2 with
   | none =>
    simp [e14,q1]
    refine ⟨L.length - (i + 1),by omega,i + 1,⟨rfl,by omega⟩,⟨?_,?_,?_,?_⟩,?_,rfl,hlast⟩ <;> simp [e4,e5,e7,e8]
   | some b' =>
    obtain ⟨a',rfl,hab⟩ := hfi b' (by omega) rfl
    have hba : ¬ b' < a' := by omega
    simp [e14,q1,hba]
    refine ⟨L.length - (i + 1),by omega,i + 1,⟨rfl,by omega⟩,⟨?_,?_,?_,?_⟩,?_,rfl,hlast⟩ <;> simp [e4,e5,e7,e8]
  ·simp [e8,e14,(kW).cell 0 _ rfl,lenL,hil]
   refine FN.mono (works_c W) ?_
   rintro _ W1 ⟨rfl,hE1⟩
   simp
   exact hX2.trans (hX24.trans (hX48.trans (hEW.trans hE1)))
end Go.Proofs