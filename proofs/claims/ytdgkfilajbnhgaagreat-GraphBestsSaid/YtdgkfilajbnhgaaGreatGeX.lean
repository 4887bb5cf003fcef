/-
 Contracts of the functions that the law reaches,step by step.
-/
import Derived.Test.YtdgkfilajbnhgaaGreatGeW
namespace Go.Proofs
open Pk
set_option maxRecDepth 10000
set_option maxHeartbeats 4000000 in
theorem GraphBests_c {w : World} {vP vS vB nv : Value} {P : List Ct} {S : List St} {B : List LR} {q : Qu} (hP : SlB w 5 vP P.length (P.flatMap ctC)) (hS : SlB w 4 vS S.length (S.flatMap stCells)) (hB : SlB w 6 vB B.length (B.flatMap vrC))
  (oP : ∀ c ∈ P,CtOk c) (oS : ∀ s ∈ S,StOk s) (oB : ∀ x ∈ B,CtOk x.1 ∧ 0 ≤ x.2) (hq : QuOk q) (hno : SlB w 5 nv q.no.length (q.no.flatMap ctC)) :
  FN Tryz.prog 3 [seV vP vS vB,quV q nv] w fun e w' => e = .returned (.bool true) ∧ Ext w w' := by
 refine FN_enter Tryz.func3 rfl rfl (by kernel_rfl) ?_
 have i1 := hP.isSlice
 have i2 := hS.isSlice
 have i3 := hB.isSlice
 have i4 := hno.isSlice
 obtain ⟨a1,c1,rfl⟩ := hP.isSlice
 obtain ⟨a4,c4,rfl⟩ := hno.isSlice
 have hE : Ext w (((w.alloc (.cells #[(Value.slice a1 P.length c1),vS,vB] 26)).alloc (.cells #[u32 q.fr,u32 q.to',u64 q.at_,u64 q.size,i64 q.most,(Value.slice a4 q.no.length c4)] 30)).alloc (.cells #[.bool false] 4)) := (((Ext.refl w).alloc _).alloc _).alloc _
 have b1 : Blk (((w.alloc (.cells #[(Value.slice a1 P.length c1),vS,vB] 26)).alloc (.cells #[u32 q.fr,u32 q.to',u64 q.at_,u64 q.size,i64 q.most,(Value.slice a4 q.no.length c4)] 30)).alloc (.cells #[.bool false] 4)) w.heap.size [(Value.slice a1 P.length c1),vS,vB] := (Blk.new w [(Value.slice a1 P.length c1),vS,vB] 26).ext (((Ext.refl _).alloc _).alloc _)
 have b2 : Blk (((w.alloc (.cells #[(Value.slice a1 P.length c1), vS, vB] 26)).alloc (.cells #[u32 q.fr, u32 q.to', u64 q.at_, u64 q.size, i64 q.most, (Value.slice a4 q.no.length c4)] 30)).alloc (.cells #[.bool false] 4)) (w.heap.size + 1) (quC q (Value.slice a4 q.no.length c4)) := by
  have := (Blk.new (w.alloc (.cells #[(Value.slice a1 P.length c1),vS,vB] 26)) (quC q (Value.slice a4 q.no.length c4)) 30).ext ((Ext.refl _).alloc (.cells #[.bool false] 4))
  simpa using this
 have r0 : Var (((w.alloc (.cells #[(Value.slice a1 P.length c1), vS, vB] 26)).alloc (.cells #[u32 q.fr, u32 q.to', u64 q.at_, u64 q.size, i64 q.most, (Value.slice a4 q.no.length c4)] 30)).alloc (.cells #[.bool false] 4)) (w.heap.size + 1 + 1) (.bool false) := by
  have := Var.new ((w.alloc (.cells #[(Value.slice a1 P.length c1),vS,vB] 26)).alloc (.cells #[u32 q.fr,u32 q.to',u64 q.at_,u64 q.size,i64 q.most,(Value.slice a4 q.no.length c4)] 30)) (.bool false) 4
  simpa using this
 have hsz : (((w.alloc (.cells #[(Value.slice a1 P.length c1),vS,vB] 26)).alloc (.cells #[u32 q.fr,u32 q.to',u64 q.at_,u64 q.size,i64 q.most,(Value.slice a4 q.no.length c4)] 30)).alloc (.cells #[.bool false] 4)).heap.size = w.heap.size + 3 := by simp
 simp
 generalize (((w.alloc (.cells #[(Value.slice a1 P.length c1),vS,vB] 26)).alloc (.cells #[u32 q.fr,u32 q.to',u64 q.at_,u64 q.size,i64 q.most,(Value.slice a4 q.no.length c4)] 30)).alloc (.cells #[.bool false] 4)) = w1 at *
 refine FN.mono (few_c (w := w1) i1 i2 i3 14) ?_
 rintro _ w2 ⟨rfl,hE2⟩
 have hX2 := hE.trans hE2
 have r2 := r0.ext hE2
 have q2 := b2.ext hE2
 have fin : ∀ (W : World) (x : Bool), Ext w2 W → Ext w (W.setCell ⟨w.heap.size + 1 + 1, 0, none⟩ (.bool x)) := fun W x h =>
  ((hX2.trans h).mod (S := fun k => w.heap.size ≤ k)).trans ((Mod.setCell (S := fun k => k = w.heap.size + 1 + 1) (Mod.refl _ W) ⟨w.heap.size + 1 + 1,0,none⟩ (.bool x) (.inl rfl)).weaken fun k hk => by omega) |>.ext fun _ h => h
 cases hf : fewB P.length S.length B.length 14 with
 | false =>
  simp
  refine FN.mono (works_c w2) ?_
  rintro _ w3 ⟨rfl,hE3⟩
  simp [(r2.ext hE3).cell,(r2.ext hE3).thaw,((r2.ext hE3).set _).cell]
  exact fin _ _ hE3
 | true =>
  simp [(q2).cell 5 _ rfl]
  by_cases hn : (10 : Int) < (q.no.length : Int)
  ·simp [hn]
   refine FN.mono (works_c w2) ?_
   rintro _ w3 ⟨rfl,hE3⟩
   simp [(r2.ext hE3).cell,(r2.ext hE3).thaw,((r2.ext hE3).set _).cell]
   exact fin _ _ hE3
  simp [hn,(b1.ext hE2).cell 0 _ rfl,(b1.ext hE2).cell 1 _ rfl,(b1.ext hE2).cell 2 _ rfl]
  simp [fewB] at hf
  have hso : SetOk w2 (Value.slice a1 P.length c1) vS vB P S B := ⟨hP.ext hX2,hS.ext hX2,hB.ext hX2,oP,oS,oB,by omega,by omega,by omega⟩
  refine FN.mono (made_c hso) ?_
  rintro _ w3 ⟨⟨g,vp,vt,vl,L,M,m,rfl,hMd,hLP⟩,hE3⟩
  obtain ⟨ll,hdg⟩ := hMd.d
  obtain ⟨p,v,t,R,q',r,hGr⟩ := hMd.g
  obtain ⟨a5,c5,rfl⟩ : ∃ a c,vp = .slice a L.length c := hdg.pl.isSlice
  obtain ⟨a6,c6,rfl⟩ := hdg.tb.isSlice
  obtain ⟨a7,c7,rfl⟩ := hdg.lg.isSlice
  have hE4 : Ext w3 (w3.alloc (.cells #[.slice a5 L.length c5,.slice a6 (S.foldl rsetL []).length c6,.slice a7 ll.length c7] 42)) := (Ext.refl w3).alloc _
  have k4 : Blk (w3.alloc (.cells #[.slice a5 L.length c5,.slice a6 (S.foldl rsetL []).length c6,.slice a7 ll.length c7] 42)) w3.heap.size [.slice a5 L.length c5,.slice a6 (S.foldl rsetL []).length c6,.slice a7 ll.length c7] := Blk.new w3 [.slice a5 L.length c5,.slice a6 (S.foldl rsetL []).length c6,.slice a7 ll.length c7] 42
  simp [(q2.ext hE3).cell 0 _ rfl,(q2.ext hE3).cell 1 _ rfl,(q2.ext hE3).cell 2 _ rfl,(q2.ext hE3).cell 3 _ rfl,(q2.ext hE3).cell 4 _ rfl,(q2.ext hE3).cell 5 _ rfl]
  have hX24 := hE3.trans hE4
  have q4 := q2.ext hX24
  generalize w3.alloc (.cells #[.slice a5 L.length c5,.slice a6 (S.foldl rsetL []).length c6,.slice a7 ll.length c7] 42) = w4 at *
  refine FN.mono (gbest_c (hGr.ext hE4) (hno.ext (hX2.trans hX24)) hMd.gd hdg.vm hMd.sl hq hdg.ok hdg.bl (by omega)) ?_
  rintro _ w5 ⟨⟨x,n,rfl,hT⟩,hE5⟩
  have hE6 : Ext w5 (w5.alloc (.cells #[u64 x.a,i64 x.h,u32 x.n,u32 x.f.fr,u32 x.f.to',u64 x.f.sf,u64 x.f.su,u64 x.f.rate] 50)) := (Ext.refl w5).alloc _
  have k6 : Blk (w5.alloc (.cells #[u64 x.a,i64 x.h,u32 x.n,u32 x.f.fr,u32 x.f.to',u64 x.f.sf,u64 x.f.su,u64 x.f.rate] 50)) w5.heap.size (wyC x) := Blk.new w5 (wyC x) 50
  simp [(q4.ext hE5).cell 0 _ rfl,(q4.ext hE5).cell 1 _ rfl,(q4.ext hE5).cell 2 _ rfl,(q4.ext hE5).cell 3 _ rfl,(q4.ext hE5).cell 4 _ rfl,(q4.ext hE5).cell 5 _ rfl,(k4.ext hE5).cell 0 _ rfl,(k4.ext hE5).cell 1 _ rfl,(k4.ext hE5).cell 2 _ rfl]
  generalize w5.alloc (.cells #[u64 x.a,i64 x.h,u32 x.n,u32 x.f.fr,u32 x.f.to',u64 x.f.sf,u64 x.f.su,u64 x.f.rate] 50) = w6 at *
  have hX46 := hE5.trans hE6
  have q6 := q4.ext hX46
  refine FN.mono (dbest_c (hdg.ext (hE4.trans hX46)) hMd.gd hq (hno.ext (hX2.trans (hX24.trans hX46))) (by omega) rfl) ?_
  rintro _ w7 ⟨⟨x',n',rfl,hT'⟩,hE7⟩
  obtain ⟨hxx,hnn⟩ := best_same (gSnt_sn hMd.gd _ _) hMd.so.so hT hT'
  subst hxx hnn
  have hE8 : Ext w7 (w7.alloc (.cells #[u64 x.a,i64 x.h,u32 x.n,u32 x.f.fr,u32 x.f.to',u64 x.f.sf,u64 x.f.su,u64 x.f.rate] 50)) := (Ext.refl w7).alloc _
  have k8 : Blk (w7.alloc (.cells #[u64 x.a,i64 x.h,u32 x.n,u32 x.f.fr,u32 x.f.to',u64 x.f.sf,u64 x.f.su,u64 x.f.rate] 50)) w7.heap.size (wyC x) := Blk.new w7 (wyC x) 50
  simp [(k6.ext hE7).cell 0 _ rfl,(k6.ext hE7).cell 1 _ rfl,(k6.ext hE7).cell 2 _ rfl,(k6.ext hE7).cell 3 _ rfl,(k6.ext hE7).cell 4 _ rfl,(k6.ext hE7).cell 5 _ rfl,(k6.ext hE7).cell 6 _ rfl,(k6.ext hE7).cell 7 _ rfl]
  generalize w7.alloc (.cells #[u64 x.a,i64 x.h,u32 x.n,u32 x.f.fr,u32 x.f.to',u64 x.f.sf,u64 x.f.su,u64 x.f.rate] 50) = w8 at *
  have hX68 := hE7.trans hE8
  have hX48 := hX46.trans hX68
  have hq8 := neqWy x x w8
  simp at hq8
  simp [hq8]
  refine FN.mono (knum_c n w8) ?_
  rintro _ _ ⟨rfl,rfl⟩
  rename_i w8
  have b8 := b1.ext (hE2.trans (hX24.trans hX48))
  have q8 := q4.ext hX48
  have r8 := r2.ext (hX24.trans hX48)
  have hX8 := hX24.trans hX48
  simp [(b8).cell 0 _ rfl,beq_dec]
  refine with_tail (T := ∀ (σ : Env) (W : World) (o : Option Addr),(σ 2 = ptr w.heap.size ∧ σ 3 = ptr (w.heap.size + 1) ∧ σ 4 = ptr (w.heap.size + 1 + 1) ∧ σ 12 = .pointer o) → NoG W (.pointer o) → Ext w8 W → FNt Tryz.prog 10 [.pointer o,quV q (.slice a4 q.no.length c4)] W (RC ?dA ?KA ?QA σ []) Tok.mk) (fun tail => ?br) ?jn
  case br =>
   by_cases hodd : (P.length : Int).tmod 2 = 1
   ·simp [hodd,(q8).cell 0 _ rfl,(q8).cell 1 _ rfl,(q8).cell 2 _ rfl,(q8).cell 3 _ rfl,(q8).cell 4 _ rfl,(q8).cell 5 _ rfl]
    refine tail _ _ _ ⟨?_,?_,?_,?_⟩ (NoG.zero (Blk.new w8 _ _)) ((Ext.refl _).alloc _) <;> simp
   ·simp [hodd,(q8).cell 0 _ rfl,(q8).cell 1 _ rfl,(q8).cell 2 _ rfl,(q8).cell 3 _ rfl,(q8).cell 4 _ rfl,(q8).cell 5 _ rfl]
    refine tail _ _ none ⟨?_,?_,?_,?_⟩ (NoG.nil _) (Ext.refl _) <;> simp
  case jn =>
   rintro σ W9 o ⟨f2,f3,f4,f12⟩ hN hE9
   have q9 := q8.ext hE9
   have r9 := r8.ext hE9
   refine FN.mono (gbest_n ⟨_,_,_,rfl⟩ hN.pt hN.no) ?_
   rintro _ w10 ⟨rfl,hE10⟩
   have hEa : Ext w10 (w10.alloc (.cells #[u64 wyZ.a,i64 wyZ.h,u32 wyZ.n,u32 wyZ.f.fr,u32 wyZ.f.to',u64 wyZ.f.sf,u64 wyZ.f.su,u64 wyZ.f.rate] 50)) := (Ext.refl _).alloc _
   simp [f12]
   generalize w10.alloc (.cells #[u64 wyZ.a,i64 wyZ.h,u32 wyZ.n,u32 wyZ.f.fr,u32 wyZ.f.to',u64 wyZ.f.sf,u64 wyZ.f.su,u64 wyZ.f.rate] 50) = w11 at *
   have hX9 := hE10.trans hEa
   refine FN.mono (met_c 1 2 3 9 w11) ?_
   rintro _ w12 ⟨rfl,hE12⟩
   simp
   have hX12 := hX9.trans hE12
   refine FN.mono (sent_n (hN.ext hX12) _ _ _) ?_
   rintro _ w13 ⟨rfl,hE13⟩
   have hX13 := hX12.trans hE13
   simp [f3,f12,(q9.ext hX13).cell 0 _ rfl,(q9.ext hX13).cell 1 _ rfl,(q9.ext hX13).cell 2 _ rfl,(q9.ext hX13).cell 3 _ rfl,(q9.ext hX13).cell 4 _ rfl,(q9.ext hX13).cell 5 _ rfl]
   refine FN.mono (greach_n ⟨_,_,_,rfl⟩ (hN.ext hX13).pt (hN.ext hX13).no) ?_
   rintro _ w14 ⟨⟨b0,rm0,rfl,-⟩,hE14⟩
   have hX14 := hX13.trans hE14
   simp [f3,f12,(q9.ext hX14).cell 0 _ rfl,(q9.ext hX14).cell 1 _ rfl,(q9.ext hX14).cell 2 _ rfl,(q9.ext hX14).cell 3 _ rfl,(q9.ext hX14).cell 4 _ rfl,(q9.ext hX14).cell 5 _ rfl]
   refine FN.mono (greach_n ⟨_,_,_,rfl⟩ (hN.ext hX14).pt (hN.ext hX14).no) ?_
   rintro _ w15 ⟨⟨b,rm,rfl,hv,hmm,hbge,hrge⟩,hE15⟩
   have hX15 := hX14.trans hE15
   have hys : kWisKeys [] [] := ⟨by simp,by simp⟩
   have hit := kWsteps kU32 zWay hv hmm.val (by simp) hys
   have hcap : ∀ k, (k = b ∨ Value.map (some rm) = .map (some k)) → k < w15.heap.size := fun k hk => by
    rcases hk with rfl | hk
    ·exact hv.lt
    ·exact hmm.val.lt hk
   simp
   refine WC_rangeFunc (gf := 45) (first := #[]) (caps := #[ptr b]) (enc := kWst []) (by simp) (fun _ _ => callFunc_enter Tryz.func45 rfl rfl _ _) hit (fun x => rfl) (fun _ => False)
    (fun C pre W => Ext w15 W) (fun cd C pre W => False)
    (fun k hk => ⟨hcap k hk,_root_.id⟩) (fun k hk => hk.elim) ?_ (fun _ _ _ _ _ h _ => h.elim) (Ext.refl _) ?ρ ?ha ?_ ?_ (fun _ _ _ _ _ h _ => h.elim)
   case ha =>
    intro l x W
    simp [kWst]
    exact rfl
   ·intro C pre W W' h6 hag
    exact ⟨hag.os.trans h6.os,hag.tape.trans h6.tape,hag.out.trans h6.out,Nat.le_trans h6.size hag.size,fun i hi => (hag.blk i (Nat.lt_of_lt_of_le hi h6.size) (.inl hi)).trans (h6.blk i hi)⟩
   ·rintro lp C pre x W ⟨_,suf,hsuf⟩ - - - -
    cases pre <;> simp at hsuf
   ·rintro C xs W rfl h6 hD
    simp
    refine FN.mono (new_c W) ?_
    rintro _ v1 ⟨t1,R1,rfl,hT1,hF1,-,-⟩
    simp
    refine FN.mono (vnew_c v1) ?_
    rintro _ v2 ⟨q1,r1,rfl,hL1,hF2,-,-⟩
    simp
    refine FN.mono (gnew_n1 (hT1.ext hF2) hL1) ?_
    rintro _ v3 ⟨rfl,hF3⟩
    simp
    refine FN.mono (cnew_c v3) ?_
    rintro _ v4 ⟨p2,rfl,hP2,hF4,-⟩
    simp
    refine FN.mono (vnew_c v4) ?_
    rintro _ v5 ⟨q2',r2',rfl,hL2,hF5,-,-⟩
    simp
    refine FN.mono (gnew_n2 (hP2.ext hF5) (by simp) hL2) ?_
    rintro _ v6 ⟨rfl,hF6⟩
    simp
    refine FN.mono (cnew_c v6) ?_
    rintro _ v7 ⟨p3,rfl,hP3,hF7,-⟩
    simp
    refine FN.mono (new_c v7) ?_
    rintro _ v8 ⟨t3,R3,rfl,hT3,hF8,-,-⟩
    simp
    refine FN.mono (gnew_n3 (hP3.ext hF8) (by simp) hT3) ?_
    rintro _ v9 ⟨rfl,hF9⟩
    simp
    refine FN.mono (knum_c 1 v9) ?_
    rintro _ _ ⟨rfl,rfl⟩
    rename_i v9
    simp
    refine FN.mono (knum_c 1 v9) ?_
    rintro _ _ ⟨rfl,rfl⟩
    rename_i v9
    simp
    refine FN.mono (knum_c 1 v9) ?_
    rintro _ _ ⟨rfl,rfl⟩
    rename_i v9
    simp
    refine FN.mono (knum_c 1 v9) ?_
    rintro _ _ ⟨rfl,rfl⟩
    rename_i v9
    simp
    refine FN.mono (works_c v9) ?_
    rintro _ v10 ⟨rfl,hF10⟩
    have hF := ((((((((hF1.trans hF2).trans hF3).trans hF4).trans hF5).trans hF6).trans hF7).trans hF8).trans hF9).trans hF10
    have hAll := (hX8.trans hE9).trans ((hX15.trans h6).trans hF)
    have rz := r2.ext hAll
    simp [f4,rz.cell,rz.thaw]
    have y1 := hE.size
    have y2 := hE2.size
    have y3 := hX8.size
    have y4 := hE9.size
    have y5 := hX15.size
    refine LV_mark ?_ (by simp) ?_
    ·exact (Mod.setCell (S := fun k => k = w.heap.size + 1 + 1) (Mod.refl _ v10) ⟨w.heap.size + 1 + 1,0,none⟩ (.bool true) (.inl rfl)).obj (hF.obj hD) (by omega)
    have hMp := Mod.putObj (w := v10.setCell ⟨w.heap.size + 1 + 1,0,none⟩ (.bool true)) w15.heap.size (.deferred none)
    have rz3 := (rz.set (.bool true)).mod hMp (by omega)
    simp [f4,rz3.cell]
    exact (fin v10 true hAll).putObj _ _ (by omega)
end Go.Proofs