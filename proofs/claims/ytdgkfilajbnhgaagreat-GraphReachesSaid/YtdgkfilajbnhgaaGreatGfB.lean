/-
 Contracts of the functions that the law reaches,step by step.
-/
import Derived.Test.YtdgkfilajbnhgaaGreatGfA
import Derived.Test.YtdgkfilajbnhgaaGreatGeY
namespace Go.Proofs
open Pk
set_option maxRecDepth 10000
structure C8 (w:World) (b o:Nat) (x:Wy):Prop where
 c0:w.cell? ⟨b,o,none⟩=some (u64 x.a)
 c1:w.cell? ⟨b,o+1,none⟩=some (i64 x.h)
 c2:w.cell? ⟨b,o+2,none⟩=some (u32 x.n)
 c3:w.cell? ⟨b,o+3,none⟩=some (u32 x.f.fr)
 c4:w.cell? ⟨b,o+4,none⟩=some (u32 x.f.to')
 c5:w.cell? ⟨b,o+5,none⟩=some (u64 x.f.sf)
 c6:w.cell? ⟨b,o+6,none⟩=some (u64 x.f.su)
 c7:w.cell? ⟨b,o+7,none⟩=some (u64 x.f.rate)
theorem wyRow {w:World} {v:Value} {l:List Wy} (h:Sl w 8 v l.length (l.flatMap wyC)) {i:Nat} (hi:i<l.length):C8 w (slB v) (slO v+i*8) l[i]:=by
 have hx:l[i]?=some l[i]:=by simp [hi]
 have f:=fun j hj=>flat_at wyC (s:=8) (fun _=>rfl) l i j _ hx hj
 have a:=fun j u hj=>h.at_ (i*8+j) u hj
 refine ⟨a 0 _ (f 0 (by omega)),?_,?_,?_,?_,?_,?_,?_⟩
 ·have:=a 1 _ (f 1 (by omega)); rwa [← Nat.add_assoc] at this
 ·have:=a 2 _ (f 2 (by omega)); rwa [← Nat.add_assoc] at this
 ·have:=a 3 _ (f 3 (by omega)); rwa [← Nat.add_assoc] at this
 ·have:=a 4 _ (f 4 (by omega)); rwa [← Nat.add_assoc] at this
 ·have:=a 5 _ (f 5 (by omega)); rwa [← Nat.add_assoc] at this
 ·have:=a 6 _ (f 6 (by omega)); rwa [← Nat.add_assoc] at this
 ·have:=a 7 _ (f 7 (by omega)); rwa [← Nat.add_assoc] at this
theorem wyIndex {w:World} {v:Value} {l:List Wy} (h:Sl w 8 v l.length (l.flatMap wyC)) (i:Nat) (hi:i<l.length) (W:World):(Instr.indexAt 75 v (.int .i64 (i:Int))).run Tryz.prog W=.ok (.pointer (some ⟨slB v,slO v+i*8,none⟩)) W:=by
 have:=Sl.index (P:=Tryz.prog) (t:=75) h (by simp) .i64 i (by omega) (by omega) W
 simpa using this
theorem u32Index {w:World} {v:Value} {l:List Int} (h:Sl w 1 v l.length (l.map u32)) (i:Nat) (hi:i<l.length) (W:World):(Instr.indexAt 74 v (.int .i64 (i:Int))).run Tryz.prog W=.ok (.pointer (some ⟨slB v,slO v+i,none⟩)) W:=by
 have:=Sl.index (P:=Tryz.prog) (t:=74) h (by simp) .i64 i (by omega) (by omega) W
 simpa using this
theorem u32Row {w:World} {v:Value} {l:List Int} (h:Sl w 1 v l.length (l.map u32)) {i:Nat} (hi:i<l.length):w.cell? ⟨slB v,slO v+i,none⟩=some (u32 l[i]):=by
 exact h.at_ i _ (by simp [hi])
def RchI (w7:World) (fv:Value) (mB rB aA aB:Nat) (k:Nat) (ρ:Env) (ds:List Deferred) (W:World):Prop :=
 ∃ (turn tb:Nat) (Ds:List Nat),(k=2 - turn∧turn≤2)∧(ρ 12=fv∧ρ 5=ptr mB∧ρ 6=ptr rB∧ρ 10=ptr aA∧ρ 11=ptr aB∧ρ 13=ptr tb)∧Var W tb (i64 turn)∧w7.heap.size≤tb∧ds=Ds.map dmark∧Ds.Nodup ∧
  (∀ D∈Ds,w7.heap.size≤D∧D≠tb∧W.heap[D]?=some (.deferred (some [])))∧Ext w7 W
def RchJ (W0:World) (rB aB:Nat) (D0:List Deferred) (k:Nat) (ρ:Env) (ds:List Deferred) (W:World):Prop :=
 ∃ (j:Nat),(k=15 - j∧j≤14)∧(ρ 6=ptr rB∧ρ 11=ptr aB∧ρ 17=i64 ((j:Int)+1))∧ds=D0∧Ext W0 W
set_option maxHeartbeats 4000000 in
theorem GraphReaches_c {w:World} {vP vS vB nv:Value} {P:List Ct} {S:List St} {B:List LR} {q:Qu} (hG:SetGv w vP vS vB P S B) (hq:QuOk q) (hno:SlB w 5 nv q.no.length (q.no.flatMap ctC)) (many:Int) :
  FN Tryz.prog 4 [seV vP vS vB,quV q nv,i64 many] w fun e w'=>e=.returned (.bool true)∧Ext w w':=by
 refine FN_enter Tryz.func4 rfl rfl (by kernel_rfl) ?_
 have i1:=hG.p.isSlice
 have i2:=hG.s.isSlice
 have i3:=hG.b.isSlice
 have i4:=hno.isSlice
 obtain ⟨a1,c1,rfl⟩:=hG.p.isSlice
 obtain ⟨a4,c4,rfl⟩:=hno.isSlice
 have hE:Ext w ((((w.alloc (.cells #[(Value.slice a1 P.length c1),vS,vB] 26)).alloc (.cells #[u32 q.fr,u32 q.to',u64 q.at_,u64 q.size,i64 q.most,(Value.slice a4 q.no.length c4)] 30)).alloc (.cells #[i64 many] 3)).alloc (.cells #[.bool false] 4)):=((((Ext.refl w).alloc _).alloc _).alloc _).alloc _
 have b1:Blk ((((w.alloc (.cells #[(Value.slice a1 P.length c1),vS,vB] 26)).alloc (.cells #[u32 q.fr,u32 q.to',u64 q.at_,u64 q.size,i64 q.most,(Value.slice a4 q.no.length c4)] 30)).alloc (.cells #[i64 many] 3)).alloc (.cells #[.bool false] 4)) w.heap.size [(Value.slice a1 P.length c1),vS,vB]:=(Blk.new w [(Value.slice a1 P.length c1),vS,vB] 26).ext ((((Ext.refl _).alloc _).alloc _).alloc _)
 have b2:Blk ((((w.alloc (.cells #[(Value.slice a1 P.length c1),vS,vB] 26)).alloc (.cells #[u32 q.fr,u32 q.to',u64 q.at_,u64 q.size,i64 q.most,(Value.slice a4 q.no.length c4)] 30)).alloc (.cells #[i64 many] 3)).alloc (.cells #[.bool false] 4)) (w.heap.size+1) (quC q (Value.slice a4 q.no.length c4)):=by
  have:=(Blk.new (w.alloc (.cells #[(Value.slice a1 P.length c1),vS,vB] 26)) (quC q (Value.slice a4 q.no.length c4)) 30).ext (((Ext.refl _).alloc (.cells #[i64 many] 3)).alloc (.cells #[.bool false] 4))
  simpa using this
 have m0:Var ((((w.alloc (.cells #[(Value.slice a1 P.length c1),vS,vB] 26)).alloc (.cells #[u32 q.fr,u32 q.to',u64 q.at_,u64 q.size,i64 q.most,(Value.slice a4 q.no.length c4)] 30)).alloc (.cells #[i64 many] 3)).alloc (.cells #[.bool false] 4)) (w.heap.size+1+1) (i64 many):=by
  have:=(Var.new ((w.alloc (.cells #[(Value.slice a1 P.length c1),vS,vB] 26)).alloc (.cells #[u32 q.fr,u32 q.to',u64 q.at_,u64 q.size,i64 q.most,(Value.slice a4 q.no.length c4)] 30)) (i64 many) 3).ext ((Ext.refl _).alloc (.cells #[.bool false] 4))
  simpa using this
 have r0:Var ((((w.alloc (.cells #[(Value.slice a1 P.length c1),vS,vB] 26)).alloc (.cells #[u32 q.fr,u32 q.to',u64 q.at_,u64 q.size,i64 q.most,(Value.slice a4 q.no.length c4)] 30)).alloc (.cells #[i64 many] 3)).alloc (.cells #[.bool false] 4)) (w.heap.size+1+1+1) (.bool false):=by
  have:=Var.new (((w.alloc (.cells #[(Value.slice a1 P.length c1),vS,vB] 26)).alloc (.cells #[u32 q.fr,u32 q.to',u64 q.at_,u64 q.size,i64 q.most,(Value.slice a4 q.no.length c4)] 30)).alloc (.cells #[i64 many] 3)) (.bool false) 4
  simpa using this
 have hsz:((((w.alloc (.cells #[(Value.slice a1 P.length c1),vS,vB] 26)).alloc (.cells #[u32 q.fr,u32 q.to',u64 q.at_,u64 q.size,i64 q.most,(Value.slice a4 q.no.length c4)] 30)).alloc (.cells #[i64 many] 3)).alloc (.cells #[.bool false] 4)).heap.size=w.heap.size+4:=by simp
 simp
 generalize ((((w.alloc (.cells #[(Value.slice a1 P.length c1),vS,vB] 26)).alloc (.cells #[u32 q.fr,u32 q.to',u64 q.at_,u64 q.size,i64 q.most,(Value.slice a4 q.no.length c4)] 30)).alloc (.cells #[i64 many] 3)).alloc (.cells #[.bool false] 4))=w1 at *
 refine FN.mono (few_c (w:=w1) i1 i2 i3 14) ?_
 rintro _ w2 ⟨rfl,hE2⟩
 have hX2:=hE.trans hE2
 have r2:=r0.ext hE2
 have m2:=m0.ext hE2
 have q2:=b2.ext hE2
 have fin:∀ (W:World) (x:Bool),Ext w2 W→Ext w (W.setCell ⟨w.heap.size+1+1+1,0,none⟩ (.bool x)):=fun W x h =>
  ((hX2.trans h).mod (S:=fun k=>w.heap.size≤k)).trans ((Mod.setCell (S:=fun k=>k=w.heap.size+1+1+1) (Mod.refl _ W) ⟨w.heap.size+1+1+1,0,none⟩ (.bool x) (.inl rfl)).weaken fun k hk=>by omega) |>.ext fun _ h=>h
 cases hf:fewB P.length S.length B.length 14 with
 | false =>
  simp
  refine FN.mono (works_c w2) ?_
  rintro _ w3 ⟨rfl,hE3⟩
  simp [(r2.ext hE3).cell,(r2.ext hE3).thaw,((r2.ext hE3).set _).cell]
  exact fin _ _ hE3
 | true =>
  simp [q2.cell 5 _ rfl]
  by_cases hn:(10:Int)<(q.no.length:Int)
  ·simp [hn]
   refine FN.mono (works_c w2) ?_
   rintro _ w3 ⟨rfl,hE3⟩
   simp [(r2.ext hE3).cell,(r2.ext hE3).thaw,((r2.ext hE3).set _).cell]
   exact fin _ _ hE3
  simp [hn,(b1.ext hE2).cell 0 _ rfl,(b1.ext hE2).cell 1 _ rfl,(b1.ext hE2).cell 2 _ rfl]
  simp [fewB] at hf
  have hso:SetOk w2 (Value.slice a1 P.length c1) vS vB P S B:=⟨hG.p.ext hX2,hG.s.ext hX2,hG.b.ext hX2,hG.op,hG.os,hG.ob,by omega,by omega,by omega⟩
  refine FN.mono (made_c hso) ?_
  rintro _ w3 ⟨⟨g,vp,vt,vl,L,M,m,rfl,hMd,hLP⟩,hE3⟩
  obtain ⟨ll,hdg⟩:=hMd.d
  obtain ⟨p,v,t,R,q',r,hGr⟩:=hMd.g
  obtain ⟨a5,c5,rfl⟩:∃ a c,vp=.slice a L.length c:=hdg.pl.isSlice
  obtain ⟨a6,c6,rfl⟩:=hdg.tb.isSlice
  obtain ⟨a7,c7,rfl⟩:=hdg.lg.isSlice
  have hE4:Ext w3 (w3.alloc (.cells #[.slice a5 L.length c5,.slice a6 (S.foldl rsetL []).length c6,.slice a7 ll.length c7] 42)):=(Ext.refl w3).alloc _
  have k4:Blk (w3.alloc (.cells #[.slice a5 L.length c5,.slice a6 (S.foldl rsetL []).length c6,.slice a7 ll.length c7] 42)) w3.heap.size [.slice a5 L.length c5,.slice a6 (S.foldl rsetL []).length c6,.slice a7 ll.length c7]:=Blk.new w3 [.slice a5 L.length c5,.slice a6 (S.foldl rsetL []).length c6,.slice a7 ll.length c7] 42
  simp [(q2.ext hE3).cell 0 _ rfl,(q2.ext hE3).cell 1 _ rfl,(q2.ext hE3).cell 2 _ rfl,(q2.ext hE3).cell 3 _ rfl,(q2.ext hE3).cell 4 _ rfl,(q2.ext hE3).cell 5 _ rfl]
  have hX24:=hE3.trans hE4
  have q4:=q2.ext hX24
  generalize w3.alloc (.cells #[.slice a5 L.length c5,.slice a6 (S.foldl rsetL []).length c6,.slice a7 ll.length c7] 42)=w4 at *
  refine FN.mono (dreach_c (hdg.ext hE4) hMd.gd hq (hno.ext (hX2.trans hX24)) (by omega) rfl) ?_
  rintro _ w5 ⟨⟨va,vb,A,B',rfl,hRd,hSa,hSb⟩,hE5⟩
  obtain ⟨sa1,sa2,rfl⟩:=hSa.isSlice
  obtain ⟨sb1,sb2,rfl⟩:=hSb.isSlice
  have q5:=q4.ext hE5
  have hE6:Ext w5 ((w5.alloc (.cells #[.slice sa1 A.length sa2] 74)).alloc (.cells #[.slice sb1 B'.length sb2] 75)):=((Ext.refl w5).alloc _).alloc _
  have vA6:Var ((w5.alloc (.cells #[.slice sa1 A.length sa2] 74)).alloc (.cells #[.slice sb1 B'.length sb2] 75)) w5.heap.size (.slice sa1 A.length sa2):=(Var.new w5 _ 74).ext ((Ext.refl _).alloc _)
  have vB6:Var ((w5.alloc (.cells #[.slice sa1 A.length sa2] 74)).alloc (.cells #[.slice sb1 B'.length sb2] 75)) (w5.heap.size+1) (.slice sb1 B'.length sb2):=by
   have:=Var.new (w5.alloc (.cells #[.slice sa1 A.length sa2] 74)) (.slice sb1 B'.length sb2) 75
   simpa using this
  simp [q5.cell 0 _ rfl,q5.cell 1 _ rfl,q5.cell 2 _ rfl,q5.cell 3 _ rfl,q5.cell 4 _ rfl,q5.cell 5 _ rfl]
  generalize ((w5.alloc (.cells #[.slice sa1 A.length sa2] 74)).alloc (.cells #[.slice sb1 B'.length sb2] 75))=w6 at *
  have hX46:=hE5.trans hE6
  have hX26:=hX24.trans hX46
  refine FN.mono (greach_c (hGr.ext (hE4.trans hX46)) (hno.ext (hX2.trans hX26)) hMd.gd hdg.vm hMd.sl hq hdg.ok hdg.bl (by omega)) ?_
  rintro _ w7 ⟨⟨b,mm,rm,rfl,hRT,hml,hv,hmm,hbge,hrge⟩,hE7⟩
  obtain ⟨ys,hys⟩:=kWex mm
  obtain ⟨hyA,hB',hsome⟩:=reach_same (gSnt_sn hMd.gd _ _) hMd.so.so hmm.nodup hRT hRd hys
  subst hyA
  have hrl:ys.length≤14:=by have:=hys.1.length_eq; simp at this; omega
  have hBl:B'.length=ys.length:=by rw [hB']; simp
  have hSa7:=hSa.ext (hE6.trans hE7)
  have hSb7:=hSb.ext (hE6.trans hE7)
  have vA7:=vA6.ext hE7
  have vB7:=vB6.ext hE7
  have hX27:=hX26.trans hE7
  have m7:=m2.ext hX27
  have r7:=r2.ext hX27
  have y2:=hE2.size
  have y1:=hE.size
  have y7:=hX27.size
  have y57:=(hE6.trans hE7).size
  have lA:=vA7.lt
  have lB:=vB7.lt
  have lv:=hv.lt
  have lm:=hmm.lt
  have hw0:IntKind.i64.wrap 0=0:=by decide
  have h8:Var (w7.alloc (.cells #[i64 0] 3)) w7.heap.size (i64 0):=Var.new w7 _ 3
  have hE8:Ext w7 (w7.alloc (.cells #[i64 0] 3)):=(Ext.refl w7).alloc _
  simp
  refine WC_loop (RchI w7 (.func (.func 45) #[] #[ptr b]) (w.heap.size+1+1) (w.heap.size+1+1+1) w5.heap.size (w5.heap.size+1)) 2 ?_ ?_
  ·refine ⟨0,w7.heap.size,[],⟨rfl,by omega⟩,⟨?_,?_,?_,?_,?_,?_⟩,h8,Nat.le_refl _,rfl,List.nodup_nil,by simp,hE8⟩<;>simp
  rintro k ρ ds W ⟨turn,tb,Ds,⟨rfl,ht2⟩,⟨e12,e5,e6,e10,e11,e13⟩,hT,htb,rfl,hDn,hDs,hXW⟩
  by_cases ht:turn<2
  ·have htb':(turn:Int)<2:=by omega
   simp [e13,hT.cell,htb',e12]
   have hE1:Ext W (W.alloc (.cells #[i64 0] 3)):=(Ext.refl W).alloc _
   have vn:Var (W.alloc (.cells #[i64 0] 3)) W.heap.size (i64 0):=Var.new W _ 3
   have hT1:=hT.ext hE1
   have z1:(W.alloc (.cells #[i64 0] 3)).heap.size=W.heap.size+1:=by simp
   have hXW1:=hXW.trans hE1
   have hlT:=hT.lt
   have hlW:=hXW.size
   obtain ⟨nb,hnb⟩:∃ n,n=W.heap.size:=⟨_,rfl⟩
   have hDs1:∀ D∈Ds,w7.heap.size≤D∧D≠tb∧D<nb∧(W.alloc (.cells #[i64 0] 3)).heap[D]?=some (.deferred (some [])):=fun D hD=>by
    obtain ⟨h1,h2,h3⟩:=hDs D hD
    exact ⟨h1,h2,by have:=(Array.getElem?_eq_some_iff.1 h3).1; omega,hE1.obj h3⟩
   rw [← hnb] at vn z1 ⊢
   generalize (W.alloc (.cells #[i64 0] 3))=W1 at *
   have hit:=kWsteps kU32 zWay (hv.ext hXW1) (hmm.ext hXW1).val (by omega) hys
   have rep:∀ (W':World),Mod (fun k=>k=nb) W1 W'→Ext w7 W':=fun W' hM=>(hXW1.mod (S:=fun k=>w7.heap.size≤k)).trans (hM.weaken fun k hk=>by omega) |>.ext fun _ h=>h
   have nxt:∀ (W':World),Mod (fun k=>k=nb) W1 W'→W'.heap[W1.heap.size]?=some (.deferred (some []))→w7.heap.size≤W'.heap.size∧({ target:=.collected W1.heap.size,args:=#[] } :: Ds.map dmark=(W1.heap.size :: Ds).map dmark)∧(W1.heap.size :: Ds).Nodup ∧
     (∀ u,(∀ D∈W1.heap.size :: Ds,w7.heap.size≤D∧D≠W'.heap.size∧(W'.alloc (.cells #[u] 3)).heap[D]?=some (.deferred (some [])))∧Ext w7 (W'.alloc (.cells #[u] 3))):=by
    intro W' hM hD
    have hs:=hM.size
    have hDl:=(Array.getElem?_eq_some_iff.1 hD).1
    refine ⟨by omega,rfl,List.nodup_cons.2 ⟨fun hm=>by have:=hDs1 _ hm; omega,hDn⟩,fun u=>⟨fun D hm=>?_,(rep W' hM).trans ((Ext.refl _).alloc _)⟩⟩
    have hEa:Ext W' (W'.alloc (.cells #[u] 3)):=(Ext.refl _).alloc _
    rcases List.mem_cons.1 hm with rfl | hm
    ·exact ⟨by omega,by omega,hEa.obj hD⟩
    ·obtain ⟨k1,k2,k3,k4⟩:=hDs1 D hm
     exact ⟨k1,by omega,hEa.obj (hM.obj k4 (by omega))⟩
   have hw1:IntKind.i64.wrap 1=1:=by decide
   have q2:IntKind.i64.wrap ((turn:Int)+1)=((turn+1:Nat):Int):=by rw [wrap64 _ (by omega) (by omega)]; rfl
   refine WC_rangeFuncA (gf:=45) (first:=#[]) (caps:=#[ptr b]) (enc:=kWst mm) (by simp) (fun _ _=>callFunc_enter Tryz.func45 rfl rfl _ _) hit (fun x=>rfl) (fun k=>k=nb)
    (fun C pre W'=>Var W' nb (i64 pre.length)∧(∀ k,C k↔k=nb)∧Mod (fun k=>k=nb) W1 W'∧(turn=0→pre≠[]→(pre.length:Int)<many))
    (fun c C pre W'=>c=.exit 2∧Var W' nb (i64 pre.length)∧(turn=0∧many≤pre.length∧((pre.length:Int) - 1<many∨pre.length=1))∧Mod (fun k=>k=nb) W1 W'∧(∀ k,C k↔k=nb))
    (fun k hk=>?_) (fun k hk=>by omega) ?_ ?_ ⟨vn,fun _=>Iff.rfl,Mod.refl _ _,fun _ h=>(h rfl).elim⟩
    (fun x B ρ' W'=>∃ b',ρ' 16=ptr b'∧B≤b'∧(∀ y,mget mm x=some y→Blk W' b' (wyC y))∧ρ' 15=u32 x∧ρ' 14=ptr nb∧(ρ' 5=ptr (w.heap.size+1+1)∧ρ' 6=ptr (w.heap.size+1+1+1)∧ρ' 10=ptr w5.heap.size∧ρ' 11=ptr (w5.heap.size+1)∧ρ' 13=ptr tb))
    ?_ ?_ ?_ ?_ ?_
   ·rcases hk with rfl | hk
    ·exact ⟨by omega,by omega⟩
    ·cases hk
     exact ⟨by omega,by omega⟩
   ·rintro C pre W' W'' ⟨h1,h2,h3,h4⟩ hag
    exact ⟨h1.agr hag (.inr ((h2 _).2 rfl)),h2,h3.agr_old hag,h4⟩
   ·rintro c C pre W' W'' ⟨h0,h1,h2,h3,h4⟩ hag
    exact ⟨h0,h1.agr hag (.inr ((h4 _).2 rfl)),h2,h3.agr_old hag,h4⟩
   ·rintro x B ρ' W' W'' ⟨b',h1,h2,h3,h4⟩ hag
    exact ⟨b',h1,h2,fun y hy=>(h3 y hy).agr hag h2,h4⟩
   ·intro lp x W'
    unfold kWst kWval
    cases hx:mget mm x with
    | none =>
     simp [e5,e6,e10,e11,e13]
     exact (Ext.refl W').alloc _
    | some y =>
     simp [e5,e6,e10,e11,e13]
     exact ⟨(Ext.refl W').alloc _,Blk.new W' (wyC y) 50⟩
   ·rintro lp C pre x B ρ' W' hsp ⟨h1,h2,h3,h4⟩ hl1 hl2 - hBW ⟨b',f16,hB,hy,f15,f14,f5,f6,f10,f11,f13⟩
    obtain ⟨_,suf,hsuf⟩:=hsp
    have hql:pre.length<ys.length:=by rw [hsuf]; simp
    have hxq:ys[pre.length]=x:=by simp [hsuf]
    obtain ⟨y,hy1⟩:=Option.isSome_iff_exists.1 (hsome x (by rw [hsuf]; simp))
    have hyb:=hy y hy1
    have hqB:pre.length<B'.length:=by omega
    have hyq:B'[pre.length]=y:=by
     simp only [hB',List.getElem_map,hxq,hy1,Option.getD_some]
    have hXa:=rep W' h3
    refine WC_drawC 18 (.F 0<|.F 1<|.F 2<|.F 3<|.F 4<|.F 5<|.F 6<|.F 7<|.F 8<|.F 9<|.F 10<|.F 11<|.F 12<|.F 13<|.F 14<|.F 15<|.F 16<|.F 17<|.Z) (fun _=>false) rfl (by kernel_rfl) fun W2 hW2=>?_
    have hd:Ext W' W2:=hW2▸Ext.drew _
    have hXd:=hXa.trans hd
    have sA:=hSa7.ext hXd
    have sB:=hSb7.ext hXd
    have lenA:=fun ty W'=>sA.isLen (P:=Tryz.prog) (t:=74) (by simp) ty W'
    have rA:=u32Row sA hql
    have xA:=u32Index sA pre.length hql W2
    have rB:=wyRow sB hqB
    have xB:=wyIndex sB pre.length hqB W2
    rw [hxq] at rA
    rw [hyq] at rB
    have hnl:¬ ys.length≤pre.length:=by omega
    have hyb2:=hyb.ext hd
    have n2:=h1.ext hd
    have hne:=neqWy y y W2
    simp at hne
    have q1:IntKind.i64.wrap ((pre.length:Int)+1)=(pre.length:Int)+1:=wrap64 _ (by omega) (by have:=hrl; omega)
    simp [f10,f11,f14,f15,f16,n2.cell,(vA7.ext hXd).cell,(vB7.ext hXd).cell,lenA,hnl,xA,rA,xB,rB.c0,rB.c1,rB.c2,rB.c3,rB.c4,rB.c5,rB.c6,rB.c7,hyb2.cell 0 _ rfl,hyb2.cell 1 _ rfl,hyb2.cell 2 _ rfl,hyb2.cell 3 _ rfl,hyb2.cell 4 _ rfl,hyb2.cell 5 _ rfl,hyb2.cell 6 _ rfl,hyb2.cell 7 _ rfl,hne,q1]
    have hset:=n2.set (i64 ((pre.length:Int)+1))
    have m3:=(Mod.refl (fun k=>k=nb) W2).setC 0 (i64 ((pre.length:Int)+1))
    have t3:=((hT1.mod h3 (by omega)).ext hd).mod m3 (by omega)
    have mm3:=((((m7.ext hXa).ext hd)).mod m3 (by omega))
    have hth:=n2.thaw
    obtain ⟨W3,hW3⟩:∃ W3,W3=W2.setCell ⟨nb,0,none⟩ (i64 ((pre.length:Int)+1)):=⟨_,rfl⟩
    rw [← hW3] at hset m3 t3 mm3
    have hMW:=hd.mod.trans m3
    have hl3:(((pre ++ [x]).length:Nat):Int)=(pre.length:Int)+1:=by simp
    by_cases h0:turn=0
    ·have h0':((turn:Int) == 0)=true:=by simp; omega
     have h0'':decide ((turn:Int)=0)=true:=by simp; omega
     by_cases hz:many≤(pre.length:Int)+1
     ·simp [hth,← hW3,f5,f13,f14,hset.cell,mm3.cell,t3.cell,h0,hz]
      refine ⟨C,⟨hset,?_,h3.trans hMW,h2⟩,Own.of_mod (hMW.weaken fun k hk=>(h2 k).2 hk)⟩
      by_cases hp:pre=[]
      ·right; exact hp
      ·left; exact h4 h0 hp
     ·simp [hth,← hW3,f5,f13,f14,hset.cell,mm3.cell,t3.cell,h0,hz]
      exact ⟨C,⟨hset,h2,h3.trans hMW,by omega⟩,Own.of_mod (hMW.weaken fun k hk=>(h2 k).2 hk)⟩
    ·have h0':((turn:Int) == 0)=false:=by simp; omega
     have h0'':decide ((turn:Int)=0)=false:=by simp; omega
     simp [hth,← hW3,f13,t3.cell,h0',h0]
     exact ⟨C,⟨hset,h2,h3.trans hMW⟩,Own.of_mod (hMW.weaken fun k hk=>(h2 k).2 hk)⟩
   ·rintro C xs W' hxs ⟨h1,h2,h3,h4⟩ hD
    have hxs':xs=ys:=hxs
    rw [hxs'] at h1 h4
    have hXa:=rep W' h3
    have lenA:=fun ty W'=>hSa7.isLen (P:=Tryz.prog) (t:=74) (by simp) ty W'
    have vAW:=vA7.ext hXa
    have mW:=m7.ext hXa
    have tW:=hT1.mod h3 (by omega)
    obtain ⟨n1,n2,n3,n4⟩:=nxt W' h3 hD
    have hvn:=Var.new W' (i64 ((turn+1:Nat):Int)) 3
    by_cases h0:turn=0
    ·have h0':((turn:Int) == 0)=true:=by simp; omega
     have h0'':decide ((turn:Int)=0)=true:=by simp; omega
     have hvn:Var (W'.alloc (.cells #[i64 1] 3)) W'.heap.size (i64 ((turn+1:Nat):Int)):=by rw [h0]; exact Var.new W' (i64 1) 3
     have hmn:(ys.length:Int)=min (ys.length:Int) (max 1 many):=by
      by_cases hy0:ys=[]
      ·rw [hy0]; simp; omega
      ·have:=h4 h0 hy0; omega
     simp [e5,e10,e13,h1.cell,vAW.cell,mW.cell,tW.cell,lenA,← hmn,h0,beq_dec,hw1]
     refine ⟨2 - (turn+1),by omega,turn+1,W'.heap.size,W1.heap.size :: Ds,⟨rfl,by omega⟩,⟨?_,?_,?_,?_,?_,?_⟩,hvn,n1,n2,n3,(n4 _).1,(n4 _).2⟩<;>simp [e5,e6,e10,e11,e12]
    ·have h0':((turn:Int) == 0)=false:=by simp; omega
     have h0'':decide ((turn:Int)=0)=false:=by simp; omega
     have h1':((turn:Int) == 1)=true:=by simp; omega
     have h1'':decide ((turn:Int)=1)=true:=by simp; omega
     simp [e10,e13,h1.cell,vAW.cell,tW.cell,lenA,h0',h1',q2]
     refine ⟨2 - (turn+1),by omega,turn+1,W'.heap.size,W1.heap.size :: Ds,⟨rfl,by omega⟩,⟨?_,?_,?_,?_,?_,?_⟩,hvn,n1,n2,n3,(n4 _).1,(n4 _).2⟩<;>simp [e5,e6,e10,e11,e12]
   ·rintro c C pre W' hsp ⟨rfl,h1,⟨g1,g2,g3⟩,h3,h4⟩ hD
    obtain ⟨hne,suf,hsuf⟩:=hsp
    have hXa:=rep W' h3
    have lenA:=fun ty W'=>hSa7.isLen (P:=Tryz.prog) (t:=74) (by simp) ty W'
    have vAW:=vA7.ext hXa
    have mW:=m7.ext hXa
    have tW:=hT1.mod h3 (by omega)
    obtain ⟨n1,n2,n3,n4⟩:=nxt W' h3 hD
    have h0:=g1
    have hvn:Var (W'.alloc (.cells #[i64 1] 3)) W'.heap.size (i64 ((turn+1:Nat):Int)):=by rw [h0]; exact Var.new W' (i64 1) 3
    have hql:pre.length≤ys.length:=by rw [hsuf]; simp
    have hq0:0<pre.length:=List.length_pos_iff.2 hne
    have hmn:(pre.length:Int)=min (ys.length:Int) (max 1 many):=by omega
    have h0':((turn:Int) == 0)=true:=by simp; omega
    have h0'':decide ((turn:Int)=0)=true:=by simp; omega
    simp [e5,e10,e13,h1.cell,vAW.cell,mW.cell,tW.cell,lenA,← hmn,h0,beq_dec,hw1]
    refine ⟨2 - (turn+1),by omega,turn+1,W'.heap.size,W1.heap.size :: Ds,⟨rfl,by omega⟩,⟨?_,?_,?_,?_,?_,?_⟩,hvn,n1,n2,n3,(n4 _).1,(n4 _).2⟩<;>simp [e5,e6,e10,e11,e12]
  ·obtain rfl:turn=2:=by omega
   simp [e13,hT.cell]
   refine WC_loop (RchJ W (w.heap.size+1+1+1) (w5.heap.size+1) (Ds.map dmark)) 15 ?_ ?_
   ·refine ⟨0,⟨rfl,by omega⟩,⟨?_,?_,?_⟩,rfl,Ext.refl _⟩<;>simp [e6,e11]
   rintro k ρ ds W1 ⟨j,⟨rfl,hj⟩,⟨f6,f11,f17⟩,rfl,hE1⟩
   have hX1:=hXW.trans hE1
   have lenB:=fun ty W'=>hSb7.isLen (P:=Tryz.prog) (t:=75) (by simp) ty W'
   have vBW:=vB7.ext hX1
   by_cases hl:j+1<B'.length
   ·have hl':(j:Int)+1<(B'.length:Int):=by omega
    simp [f11,f17,vBW.cell,lenB,hl']
    refine WC_drawC 30 (.F 0<|.F 1<|.F 2<|.F 3<|.F 4<|.F 5<|.F 6<|.F 7<|.F 8<|.F 10<|.F 11<|.F 12<|.F 13<|.F 14<|.F 15<|.F 16<|.F 17<|.F 18<|.C 9<|.C 19<|.F 20<|.F 21<|.F 22<|.F 23<|.F 24<|.F 25<|.F 26<|.F 27<|.F 28<|.F 29<|.Z) (fun _=>false) rfl (by kernel_rfl) fun W2 hW2=>?_
    have hd:Ext W1 W2:=hW2▸Ext.drew _
    have hX2:=hX1.trans hd
    have sB:=hSb7.ext hX2
    have r1:=wyRow sB hl
    have r0':=wyRow sB (show j<B'.length by omega)
    have x1:=fun W'=>wyIndex sB (j+1) hl W'
    have x0:=fun W'=>wyIndex sB j (by omega) W'
    have q1:IntKind.i64.wrap (j:Int)=(j:Int):=wrap64 _ (by omega) (by omega)
    have ec:((j+1:Nat):Int)=(j:Int)+1:=by omega
    simp only [ec] at x1
    simp [f11,f17,(vB7.ext hX2).cell,q1,x1,x0,r1.c0,r1.c1,r1.c2,r1.c3,r1.c4,r1.c5,r1.c6,r1.c7,r0'.c0,r0'.c1,r0'.c2,r0'.c3,r0'.c4,r0'.c5,r0'.c6,r0'.c7]
    refine FN.mono (better_c B'[j+1] B'[j] W2) ?_
    rintro _ W3 ⟨rfl,hE3⟩
    simp
    refine KR_ext hE3 ?_
    simp
    refine FN.mono (dbetter_c B'[j+1] B'[j] W3) ?_
    rintro _ W4 ⟨rfl,hE4⟩
    have hE24:=hE3.trans hE4
    have r1':=wyRow (sB.ext hE24) hl
    simp
    refine KR_ext hE4 ?_
    simp [f11,f17,(vB7.ext (hX2.trans hE24)).cell,x1,r1'.c0,r1'.c1,r1'.c2,r1'.c3,r1'.c4,r1'.c5,r1'.c6,r1'.c7]
    refine FN.mono (better_c B'[j+1] B'[j+1] W4) ?_
    rintro _ W5 ⟨rfl,hE5⟩
    have hirr:decide (wyLt B'[j+1] B'[j+1])=false:=decide_eq_false (by unfold wyLt; omega)
    have q3:IntKind.i64.wrap ((j:Int)+1+1)=(j:Int)+1+1:=wrap64 _ (by omega) (by omega)
    rw [hirr]
    simp [f17,q3]
    refine ⟨15 - (j+1),by omega,j+1,⟨rfl,by omega⟩,⟨?_,?_,?_⟩,rfl,hE1.trans (hd.trans (hE24.trans hE5))⟩<;>simp [f6,f11]
   ·have hl':¬ (j:Int)+1<(B'.length:Int):=by omega
    simp [f11,f17,vBW.cell,lenB,hl']
    refine FN.mono (works_c W1) ?_
    rintro _ W2 ⟨rfl,hE2'⟩
    have hX2:=hX1.trans hE2'
    have rz:=r7.ext hX2
    simp [f6,rz.cell,rz.thaw]
    have hM:Mod (fun k=>k=w.heap.size+1+1+1) W2 (W2.setCell ⟨w.heap.size+1+1+1,0,none⟩ (.bool true)):=(Mod.refl _ _).setC _ _
    have z1:=rz.set (.bool true)
    have hF:=fin W2 true (hX27.trans hX2)
    generalize (W2.setCell ⟨w.heap.size+1+1+1,0,none⟩ (.bool true))=w9 at hM z1 hF ⊢
    refine LV_marks Ds w9 hDn (fun D hD=>?_) fun w' hM'=>?_
    ·have h3:=hDs D hD
     exact hM.obj ((hE1.trans hE2').obj h3.2.2) (by omega)
    ·have z9:=z1.mod hM' (fun h=>by have:=(hDs _ h).1; omega)
     simp [z9.cell,f6]
     exact ((hF.mod (S:=fun k=>w.heap.size≤k)).trans (hM'.weaken fun k hk=>by have:=(hDs _ hk).1; omega)).ext fun _ h=>h
end Go.Proofs