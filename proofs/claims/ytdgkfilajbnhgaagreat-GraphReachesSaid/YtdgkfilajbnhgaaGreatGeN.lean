/-
 Contracts of the functions that the law reaches,step by step.
-/
import Derived.Test.YtdgkfilajbnhgaaGreatRxA
namespace Go.Proofs
open Pk
set_option maxRecDepth 10000
structure RdR (L:List Ct) (snt:Ct→Int→Option Int) (F:List Ct) (q:Qu) (K:Nat) (A:List Int) (B:List Wy):Prop where
 bad:badQ q=true→A=[]∧B=[]
 ok:badQ q=false→∃ bm:List (Int × Wy),(bm.map (·.1)).Nodup∧AllT L snt F q K bm∧kWisKeys bm A∧B=A.map fun n=>(mget bm n).getD wyZ
def insI (A:List Int) (n:Int):List Int:=A.take (A.takeWhile fun a=>decide (a<n)).length ++ (n :: A.drop (A.takeWhile fun a=>decide (a<n)).length)
theorem insI_cons (a:Int) (A:List Int) (n:Int):insI (a :: A) n=if a<n then a :: insI A n else n :: a :: A:=by
 unfold insI
 rw [List.takeWhile_cons]
 by_cases h:a<n
 ·simp [h]
 ·simp [h]
theorem insI_perm (A:List Int) (n:Int):(insI A n).Perm (n :: A):=by
 unfold insI
 refine List.perm_middle.trans ?_
 rw [List.take_append_drop]
theorem insI_sorted:∀ {A:List Int},A.Pairwise (·≤·)→∀ n:Int,(insI A n).Pairwise (·≤·)
 | [],_,n=>by simp [insI]
 | a :: A,h,n=>by
  obtain ⟨h1,h2⟩:=List.pairwise_cons.1 h
  rw [insI_cons]
  split
  ·rename_i hl
   refine List.pairwise_cons.2 ⟨fun x hx=>?_,insI_sorted h2 n⟩
   rcases List.mem_cons.1 ((insI_perm A n).mem_iff.1 hx) with rfl | hx
   ·omega
   ·exact h1 x hx
  ·rename_i hl
   refine List.pairwise_cons.2 ⟨fun x hx=>?_,h⟩
   rcases List.mem_cons.1 hx with rfl | hx
   ·omega
   ·have:=h1 x hx; omega
theorem insI_len (A:List Int) (n:Int):(insI A n).length=A.length+1:=by
 have:=(insI_perm A n).length_eq
 simpa using this
def RdI (rb ib:Nat) (bm:List (Int × Wy)) (A0:Nat) (w1:World) (k:Nat) (ρ:Env) (ds:List Deferred) (W:World):Prop :=
 ∃ (idxs:List Nat) (A:List Int) (va:Value),k+idxs.length=bm.length∧MIter (Value.int .u32) wyV W ib rb bm idxs∧wmAt W rb bm∧A.Perm ((seenOf bm idxs).map (·.1))∧A.Pairwise (·≤·)∧Sl W 1 va A.length (A.map u32)∧Mod (fun k=>k=ib) w1 W∧ρ 6=va∧ρ 7=.slice none 0 0∧ρ 9=.map (some rb)∧ρ 26=ptr ib∧ds=[]
def RdI2 (rb ib:Nat) (A:List Int) (va:Value) (n:Int) (W0:World) (k:Nat) (ρ:Env) (ds:List Deferred) (W:World):Prop :=
 ∃ j,k=A.length - j∧j≤(A.takeWhile fun a=>decide (a<n)).length∧W=W0∧ρ 6=va∧ρ 7=.slice none 0 0∧ρ 9=.map (some rb)∧ρ 26=ptr ib∧ρ 10=u32 n∧ρ 11=i64 j∧ds=[]
def RdE (L:List Ct) (snt:Ct→Int→Option Int) (F:List Ct) (q:Qu) (K:Nat) (w':World) (e:Ending):Prop :=
 ∃ (va vb:Value) (A:List Int) (B:List Wy),e=.returned (.tuple #[va,vb])∧RdR L snt F q K A B∧Sl w' 1 va A.length (A.map u32)∧Sl w' 8 vb B.length (B.flatMap wyC)
theorem AllT.few {L:List Ct} {snt:Ct→Int→Option Int} {F:List Ct} {q:Qu} {K:Nat} {bm:List (Int × Wy)} (h:AllT L snt F q K bm) (hF:∀ f∈F,f∈L) (hn:(bm.map (·.1)).Nodup):bm.length≤L.length:=by
 have:=Gr.sub_len (m:=L.map (·.to')) hn fun n hm=>by
  obtain ⟨x,hx,rfl⟩:=List.mem_map.1 hm
  obtain ⟨-,t,ht,-⟩:=h.is x.1 x.2 (mget_of_mem hn hx)
  obtain ⟨c,hc,e⟩:=ht.wk.n_mem hF
  exact List.mem_map.2 ⟨c,hc,by rw [e,ht.at_]⟩
 simpa using this
theorem iter_sl {w w':World} {ib s n:Nat} {v:Value} {cs:List Value} (h:Sl w s v n cs) (ho:∃ a c s d,w.heap[ib]?=some (.mapIter a c s d)) (hM:Mod (·=ib) w w'):Sl w' s v n cs :=
 h.kept fun a u _ hu=>hM.cell hu fun e=>by
  obtain ⟨x1,x2,x3,x4,hob⟩:=ho
  unfold World.cell? at hu
  rw [e,hob] at hu
  simp at hu
def RdI3 (rb:Nat) (bm:List (Int × Wy)) (A:List Int) (va:Value) (w1:World) (k:Nat) (ρ:Env) (ds:List Deferred) (W:World):Prop :=
 ∃ (i:Nat) (vb:Value),k=A.length - i∧i≤A.length∧Ext w1 W∧W.ownsRow w1.heap.size 50 8 vb i (((A.take i).map fun n=>(mget bm n).getD wyZ).flatMap wyC)∧ρ 6=va∧ρ 7=vb∧ρ 9=.map (some rb)∧ρ 12=i64 i∧ds=[]
theorem u32_one (A:List Int):∀ u∈A.map u32,u.oneCell'=true:=by
 intro u hu
 obtain ⟨x,-,rfl⟩:=List.mem_map.1 hu
 rfl
set_option maxHeartbeats 4000000 in
theorem dreach_c {w:World} {vp vt vl nv:Value} {L:List Ct} {sl:List St} {ll:List LR} {M:ME} {m:VM} (h:DGr w vp vt vl L sl ll M m) (hg:gdT M) {q:Qu} (hq:QuOk q) (hno:SlB w 5 nv q.no.length (q.no.flatMap ctC)) (hnl:q.no.length≤1000) {K:Nat} (hK:K=Nat.min L.length q.most.toNat) :
  FN Tryz.prog 20 [dgV vp vt vl,quV q nv] w fun e w'=>RdE L (gSnt M m q.size) (firsts L q) q K w' e∧Ext w w':=by
 refine FN_enter Tryz.func20 rfl rfl (by kernel_rfl) ?_
 obtain ⟨pa,pc,hvp⟩:=h.pl.isSlice
 obtain ⟨ta,tc,hvt⟩:=h.tb.isSlice
 obtain ⟨la,lc,hvl⟩:=h.lg.isSlice
 obtain ⟨na,nc,hnv⟩:=hno.isSlice
 have hnv':∃ a n c,nv=.slice a n c:=⟨_,_,_,hnv⟩
 have hE:Ext w (((w.alloc (.cells #[vp,vt,vl] 42)).alloc (.cells #[u32 q.fr,u32 q.to',u64 q.at_,u64 q.size,i64 q.most,nv] 30)).alloc (.cells #[u32 q.fr,u32 1,u64 q.at_,u64 q.size,i64 q.most,nv] 30)):=(((Ext.refl w).alloc _).alloc _).alloc _
 have b2:Blk (((w.alloc (.cells #[vp,vt,vl] 42)).alloc (.cells #[u32 q.fr,u32 q.to',u64 q.at_,u64 q.size,i64 q.most,nv] 30)).alloc (.cells #[u32 q.fr,u32 1,u64 q.at_,u64 q.size,i64 q.most,nv] 30)) w.heap.size [vp,vt,vl]:=(Blk.new w [vp,vt,vl] 42).ext (((Ext.refl _).alloc _).alloc _)
 have b3:Blk (((w.alloc (.cells #[vp,vt,vl] 42)).alloc (.cells #[u32 q.fr,u32 q.to',u64 q.at_,u64 q.size,i64 q.most,nv] 30)).alloc (.cells #[u32 q.fr,u32 1,u64 q.at_,u64 q.size,i64 q.most,nv] 30)) (w.heap.size+1) (quC q nv):=by
  have:=(Blk.new (w.alloc (.cells #[vp,vt,vl] 42)) (quC q nv) 30).ext ((Ext.refl _).alloc (.cells #[u32 q.fr,u32 1,u64 q.at_,u64 q.size,i64 q.most,nv] 30))
  simpa using this
 have b8:Blk (((w.alloc (.cells #[vp,vt,vl] 42)).alloc (.cells #[u32 q.fr,u32 q.to',u64 q.at_,u64 q.size,i64 q.most,nv] 30)).alloc (.cells #[u32 q.fr,u32 1,u64 q.at_,u64 q.size,i64 q.most,nv] 30)) (w.heap.size+1+1) (quC { q with to':=1 } nv):=by
  have:=Blk.new ((w.alloc (.cells #[vp,vt,vl] 42)).alloc (.cells #[u32 q.fr,u32 q.to',u64 q.at_,u64 q.size,i64 q.most,nv] 30)) (quC { q with to':=1 } nv) 30
  simpa using this
 have hsz:(((w.alloc (.cells #[vp,vt,vl] 42)).alloc (.cells #[u32 q.fr,u32 q.to',u64 q.at_,u64 q.size,i64 q.most,nv] 30)).alloc (.cells #[u32 q.fr,u32 1,u64 q.at_,u64 q.size,i64 q.most,nv] 30)).heap.size=w.heap.size+1+1+1:=by simp
 rw [hvp,hvt,hvl,hnv] at hE b2 b3 b8 hsz
 rw [hvp,hvt,hvl,hnv]
 simp
 rw [← hvp,← hvt,← hvl,← hnv] at hE b2 b3 b8 hsz ⊢
 generalize (((w.alloc (.cells #[vp,vt,vl] 42)).alloc (.cells #[u32 q.fr,u32 q.to',u64 q.at_,u64 q.size,i64 q.most,nv] 30)).alloc (.cells #[u32 q.fr,u32 1,u64 q.at_,u64 q.size,i64 q.most,nv] 30))=w1 at *
 obtain ⟨to1,hto⟩:∃ t:Int,t=if q.fr=1 then 2 else 1:=⟨_,rfl⟩
 have hq1:QuOk { q with to':=to1 }:={ hq with to':=by simp only; rw [hto]; split<;>omega }
 have hbe:(badQ { q with to':=to1 } || badE { q with to':=to1 })=badQ q:=by
  have e1:badE { q with to':=to1 }=false:=by
   unfold badE
   simp only
   rw [hto]
   split<;>simp<;>omega
  rw [e1,Bool.or_false]
  rfl
 refine with_tail (T:=∀ (σ:Env) (W:World) (t1:Int),t1=to1→(σ 2=ptr w.heap.size∧σ 3=ptr (w.heap.size+1)∧σ 6=.slice none 0 0∧σ 7=.slice none 0 0)→Ext w W→Ext w W∧W.heap.size=w1.heap.size∧Blk W w.heap.size [vp,vt,vl]∧Blk W (w.heap.size+1) (quC q nv)→FNt Tryz.prog 38 [quV { q with to':=t1 } nv] W (RC ?dT ?KT ?QT σ []) Tok.mk) (fun tail=>?br) ?jn
 case br =>
  by_cases h1:q.fr=1
  ·have hM:=Mod.setCell (S:=fun k=>k=w.heap.size+1+1) (Mod.refl _ w1) ⟨w.heap.size+1+1,1,none⟩ (u32 2) (.inl rfl)
   have hX:Ext w (w1.setCell ⟨w.heap.size+1+1,1,none⟩ (u32 2)):=hE.setCell _ _ (by simp only; omega)
   have e2:to1=2:=by rw [hto,if_pos h1]
   have d1:decide (q.fr=1)=true:=decide_eq_true h1
   simp [beq_dec,d1,b8.cell 0 _ rfl,b8.cell 1 _ rfl,b8.cell 2 _ rfl,b8.cell 3 _ rfl,b8.cell 4 _ rfl,b8.cell 5 _ rfl,b8.thaw,cell_setCell]
   refine tail _ _ 2 e2.symm ⟨?_,?_,?_,?_⟩ hX ⟨hX,by simp,b2.mod hM (by omega),b3.mod hM (by omega)⟩<;>simp
  ·have e2:to1=1:=by rw [hto,if_neg h1]
   simp [beq_dec,h1,b8.cell 0 _ rfl,b8.cell 1 _ rfl,b8.cell 2 _ rfl,b8.cell 3 _ rfl,b8.cell 4 _ rfl,b8.cell 5 _ rfl]
   refine tail _ _ 1 e2.symm ⟨?_,?_,?_,?_⟩ hE ⟨hE,rfl,b2,b3⟩<;>simp
 case jn =>
  rintro σ W t1 rfl ⟨s2,s3,s6,s7⟩ - ⟨hXW,hzW,c2,c3⟩
  refine FN.mono (dright_c { q with to':=t1 } hq1 nv hnv' W) ?_
  rintro _ w2 ⟨rfl,hE2⟩
  rw [hbe]
  have hX2:=hXW.trans hE2
  cases hbad:badQ q with
  | true =>
   simp
   exact ⟨⟨_,_,[],[],rfl,⟨fun _=>⟨rfl,rfl⟩,fun h=>(by rw [hbad] at h; cases h)⟩,Sl.nil _ _ _,Sl.nil _ _ _⟩,hX2⟩
  | false =>
   have d2:=c2.ext hE2
   have d3:=c3.ext hE2
   simp [s2,s3,d2.cell 0 _ rfl,d2.cell 1 _ rfl,d2.cell 2 _ rfl,d3.cell 0 _ rfl,d3.cell 1 _ rfl,d3.cell 2 _ rfl,d3.cell 3 _ rfl,d3.cell 4 _ rfl,d3.cell 5 _ rfl]
   refine FN.mono (dall_c (h.ext hX2) hg hq (hno.ext hX2) hnl hK) ?_
   rintro _ w3 ⟨⟨rb,bm,rfl,hmb,hAT,hrb⟩,hE3⟩
   have hX3:=hX2.trans hE3
   obtain ⟨o,hrg,hit⟩:=hmb.range (P:=Tryz.prog) tmW
   have hE4:=(Ext.refl w3).alloc o
   simp [hrg]
   have hmbl:=hmb.lt
   have hmb4:=hmb.ext hE4
   have z4:(w3.alloc o).heap.size=w3.heap.size+1:=by simp
   obtain ⟨ib,hib⟩:∃ r,r=w3.heap.size:=⟨_,rfl⟩
   rw [← hib] at hit ⊢
   generalize w3.alloc o=w4 at *
   have hX4:=hX3.trans hE4
   refine WC_loop (fun k ρ ds w'=>RdI rb ib bm 0 w4 k ρ ds w') bm.length ⟨[],[],.slice none 0 0,by simp,hit,hmb4,by simp [seenOf],by simp,Sl.nil _ _ _,Mod.refl _ _,by simp [s6],by simp [s7],by simp,by simp,rfl⟩ ?_
   rintro k ρ ds w5 ⟨idxs,A,va,hk,hI,hmb5,hp,hsA,hS,hM5,e6,e7,e9,e26,rfl⟩
   rcases hI.next (P:=Tryz.prog) 0 with ⟨hpp,hrun⟩ | ⟨i,p,w6,hpi,hni,hrun,hI6,hM6,hent,hs6⟩
   ·simp [e26,hrun]
    have hfew:=hAT.few (firsts_sub L q) hmb.nodup
    have hbL:=h.bl
    have hkeys:kWisKeys bm A:=⟨hp.trans ((seenOf_all hpp).map _),hsA⟩
    have hAl:A.length≤bm.length:=by
     have:=hkeys.1.length_eq
     simp at this
     omega
    have hlen:=fun ty W=>hS.isLen (P:=Tryz.prog) (t:=74) (by simp) ty W
    obtain ⟨va',vc',hva⟩:=hS.isSlice
    have hX5:Ext w w5:=(hX4.mod (S:=fun k=>w.heap.size≤k)).trans (hM5.weaken fun k hk=>by have:=hX3.size; omega) |>.ext fun _ h=>h
    refine WC_loop (fun k ρ ds w'=>RdI3 rb bm A va w5 k ρ ds w') A.length ⟨0,.slice none 0 0,by simp,by simp,Ext.refl _,World.ownsRow_nil _ _ _ _,by simp [e6],by simp [e7],by simp [e9],by simp,rfl⟩ ?_
    rintro k2 ρ2 ds w6 ⟨i,vb,rfl,hi,hE6,hO6,f6,f7,f9,f12,rfl⟩
    have nxi:IntKind.i64.wrap ((i:Int)+1)=((i+1:Nat):Int):=by rw [wrap64 _ (by omega) (by omega)]; rfl
    by_cases hil:i<A.length
    ·have cj:=(hS.ext hE6).at_ i (u32 A[i]) (by simp [hil])
     have ixj:=fun W=>hS.index (P:=Tryz.prog) (t:=74) (by simp) .i64 i (by omega) (by omega) W
     simp at ixj
     have hlk:=(hmb5.ext hE6).lookup (P:=Tryz.prog) kU32 tmW (zWay w6) A[i] false
     simp only [Bool.false_eq_true,if_false] at hlk
     have hx:((mget bm A[i]).map wyV).getD (wyV wyZ)=wyV ((mget bm A[i]).getD wyZ):=by cases mget bm A[i]<;>rfl
     rw [hx] at hlk
     obtain ⟨x,hxd⟩:∃ x,x=(mget bm A[i]).getD wyZ:=⟨_,rfl⟩
     rw [← hxd] at hlk
     have hE7:Ext w6 (w6.alloc (.cells #[u64 x.a,i64 x.h,u32 x.n,u32 x.f.fr,u32 x.f.to',u64 x.f.sf,u64 x.f.su,u64 x.f.rate] 50)):=(Ext.refl w6).alloc _
     have hs7:Sl (w6.alloc (.cells #[u64 x.a,i64 x.h,u32 x.n,u32 x.f.fr,u32 x.f.to',u64 x.f.sf,u64 x.f.su,u64 x.f.rate] 50)) 8 (.slice (some ⟨w6.heap.size,0,none⟩) 1 1) 1 (wyC x):=Sl.made w6 (wyC x) 50 8 1 rfl
     have z6:=hE6.size
     obtain ⟨v8,w8,hr8,ho8,hM8,-⟩:=append_own (P:=Tryz.prog) (t:=75) (ty:=75) (e:=50) (s:=8) (by simp) (by simp) (by kernel_rfl) (own_ext hO6 hE7) hs7 (by intro u hu; simp at hu; rcases hu with rfl | rfl | rfl | rfl | rfl | rfl | rfl | rfl<;>rfl) (by omega) (by have:=hE7.size; omega)
     simp [f6,f7,f9,f12,hlen,hil,ixj,cj,hlk,hr8,nxi]
     have htk:A.take (i+1)=A.take i ++ [A[i]]:=by rw [List.take_add_one,List.getElem?_eq_getElem hil]; rfl
     refine ⟨_,by omega,i+1,v8,rfl,by omega,?_,?_,by simp [f6],by simp,by simp [f9],by simp,rfl⟩
     ·exact ((hE6.trans hE7).mod (S:=fun k=>w5.heap.size≤k)).trans (hM8.weaken fun k hk=>by have:=own_ge hO6 hk.1; omega) |>.ext fun _ h=>h
     ·rw [htk,List.map_append,List.flatMap_append,List.map_cons,List.map_nil,← hxd]
      simpa using ho8
    ·have:i=A.length:=by omega
     subst this
     simp [f6,f7,f12,hlen]
     rw [List.take_length] at hO6
     refine ⟨⟨va,vb,A,A.map fun n=>(mget bm n).getD wyZ,rfl,⟨fun h=>(by rw [hbad] at h; cases h),fun _=>⟨bm,hmb.nodup,hAT,hkeys,rfl⟩⟩,hS.ext hE6,?_⟩,hX5.trans hE6⟩
     rw [List.length_map]
     exact sl_of_own hO6
   ·have hbl:=hI.bound
    have hfew:=hAT.few (firsts_sub L q) hmb.nodup
    have hbL:=h.bl
    have hAl:A.length≤bm.length:=by
     rw [hp.length_eq,List.length_map]
     exact Nat.le_trans (seenOf_len _ _) hbl
    have hS6:=iter_sl hS hI.obj hM6
    have hmb6:=hmb5.mod hM6 (by omega)
    have hM46:Mod (fun k=>k=ib) w4 w6:=hM5.trans hM6
    have zz:=hM5.size
    have zz6:=hM6.size
    have hib:=hI.lt.2
    have hb8:=hI6.bound
    simp only [List.length_append,List.length_singleton] at hb8
    have hlen:=fun ty W=>hS6.isLen (P:=Tryz.prog) (t:=74) (by simp) ty W
    obtain ⟨va',vc',hva⟩:=hS6.isSlice
    simp [e26,hrun,hent]
    refine WC_loop (fun k ρ ds w'=>RdI2 rb ib A va p.1 w6 k ρ ds w') A.length ⟨0,by simp,by simp,rfl,by simp [e6],by simp [e7],by simp [e9],by simp [e26],by simp,by simp,rfl⟩ ?_
    rintro k2 ρ2 ds w7 ⟨j,rfl,hj,rfl,f6,f7,f9,f26,f10,f11,rfl⟩
    have htl:(A.takeWhile fun a=>decide (a<p.1)).length≤A.length:=(List.takeWhile_prefix _).length_le
    have nxj:IntKind.i64.wrap ((j:Int)+1)=((j+1:Nat):Int):=by rw [wrap64 _ (by omega) (by omega)]; rfl
    obtain ⟨kk,hkk⟩:∃ kk,kk=(A.takeWhile fun a=>decide (a<p.1)).length:=⟨_,rfl⟩
    refine with_tail (T:=∀ (σ:Env),(σ 6=va∧σ 7=.slice none 0 0∧σ 9=.map (some rb)∧σ 26=ptr ib∧σ 10=u32 p.1∧σ 11=i64 kk)→WCt Tryz.prog 74 none ?dC ?dQ Tok.mk σ [] w7) (fun tail=>?br) ?jn
    case br =>
     by_cases hjl:j<A.length
     ·have cj:=hS6.at_ j (u32 A[j]) (by simp [hjl])
      have ixj:=fun W=>hS6.index (P:=Tryz.prog) (t:=74) (by simp) .i64 j (by omega) (by omega) W
      simp at ixj
      by_cases hlt:A[j]<p.1
      ·simp [f6,f10,f11,hlen,hjl,ixj,cj,hlt,nxj]
       exact ⟨_,by omega,j+1,rfl,tw_go _ A j hjl hj (by simpa using hlt),rfl,f6,f7,f9,f26,f10,by simp,rfl⟩
      ·have hjk:=tw_stop _ A j hjl hj (by simpa using hlt)
       simp [f6,f10,f11,hlen,hjl,ixj,cj,hlt]
       refine tail _ ?_
       simp [f6,f7,f9,f26,f10,f11,hkk,← hjk]
     ·have hjk:j=(A.takeWhile fun a=>decide (a<p.1)).length:=by omega
      simp [f6,f11,hlen,hjl]
      refine tail _ ?_
      simp [f6,f7,f9,f26,f10,f11,hkk,← hjk]
    case jn =>
     rintro σ ⟨s6,s7,s9,s26,s10,s11⟩
     have hkl:kk≤A.length:=by omega
     refine WC_drawL 11 (.F 1<|.F 2<|.F 3<|.F 5<|.F 8<|.F 9<|.F 10<|.D 0<|.D 6<|.W 0<|.L 4<|.W 6<|.C 7<|.Z) (fun _=>false) (Xf (fun k=>w7.heap.size≤k))
      (fun i u W=>if i=0 then (∃ b,u=.slice (some ⟨b,0,none⟩) 0 0)∧W.ownsRow w7.heap.size 27 1 u 0 [] else w7.heap.size≤slB u∧Sl W 1 u 1 [u32 p.1]) rfl (by kernel_rfl) (fun _ _=>rfl)
      (fun i u a b h1 h2=>?_) fun W1 hW1=>?_
     ·by_cases hi:i=0
      ·rw [if_pos hi] at h1 ⊢
       exact ⟨h1.1,own_ext h1.2 (agr_ext h2)⟩
      ·rw [if_neg hi] at h1 ⊢
       exact ⟨h1.1,h1.2.ext (agr_ext h2)⟩
     have hWE:Ext w7 W1:=hW1▸Ext.drew w7
     have zzW:=hWE.size
     have sH:=fun W=>hS6.sliceH (P:=Tryz.prog) (t:=74) (by simp) .i64 kk (by omega) (by omega) W
     have sL:=fun W=>hS6.sliceL (P:=Tryz.prog) (t:=74) (by simp) .i64 kk (by omega) (by omega) W
     have hT:=hS6.takeH kk hkl
     have hD:=hS6.dropL kk hkl
     rw [Nat.mul_one,← List.map_take] at hT
     rw [Nat.mul_one,← List.map_drop] at hD
     simp at sH sL
     simp [s6,s10,s11,sH,sL]
     refine RL_float (fun W2 h1=>?_) ?_
     ·simp
      have hs:=(hWE.trans (agr_ext h1)).size
      exact ⟨(Ext.refl _).alloc _,own_empty W2 _ (by omega)⟩
     simp
     refine RL_float (fun W2 h1=>?_) ?_
     ·simp
      have hs:=(hWE.trans (agr_ext h1)).size
      exact ⟨(Ext.refl _).alloc _,by simp only [slB]; omega,Sl.one W2 (u32 p.1) 27⟩
     simp
     refine RL_wait fun v0 W2 h2 ⟨⟨b0,hb0⟩,ho0⟩=>?_
     subst hb0
     simp
     refine RL_loose fun W3 h3=>?_
     have hXa:=hWE.trans (h2.trans h3)
     have hsa:=hXa.size
     have hlt:(A.take kk).length=kk:=by rw [List.length_take]; omega
     obtain ⟨v1,W4,hr4,ho4,hE5⟩:=append_newB (P:=Tryz.prog) (t:=74) (ty:=74) (e:=27) (s:=1) (by simp) (by simp) (by kernel_rfl) (own_ext ho0 h3) (hT.ext hXa).toB (u32_one _) (by omega) (by omega)
     simp [hr4]
     refine KR_ext hE5 ?_
     simp
     refine RL_wait fun v5 W5 h5 ⟨hl5,hs5⟩=>?_
     obtain ⟨v2,W6,hr6,ho6,hM6',hn6⟩:=append_own (P:=Tryz.prog) (t:=74) (ty:=74) (e:=27) (s:=1) (by simp) (by simp) (by kernel_rfl) (own_ext ho4 h5) hs5 (u32_one [p.1]) (by omega) (by have:=hE5.size; have:=h5.size; omega)
     simp [hr6]
     have hE6':Ext w7 W6:=(((hXa.trans hE5).trans h5).mod (S:=fun k=>w7.heap.size≤k)).trans (hM6'.weaken fun k hk=>by have:=own_ge ho4 hk.1; omega) |>.ext fun _ h=>h
     refine KR_mk (Xf_agr (hM6'.weaken fun k hk=>by have:=own_ge ho4 hk.1; omega)) ?_
     have hs6:=(hXa.trans (hE5.trans h5)).size
     obtain ⟨v3,W7,hr7,ho7,hM7,hn7⟩:=append_own (P:=Tryz.prog) (t:=74) (ty:=74) (e:=27) (s:=1) (by simp) (by simp) (by kernel_rfl) ho6 (hD.ext hE6') (u32_one _) (by omega) (by have:=hM6'.size; omega)
     have hX7:Ext w7 W7:=(hE6'.mod (S:=fun k=>w7.heap.size≤k)).trans (hM7.weaken fun k hk=>by have:=own_ge ho6 hk.1; omega) |>.ext fun _ h=>h
     have hil:=insI_len A p.1
     have hlen':kk+1+(A.length - kk)=(insI A p.1).length:=by omega
     have hfl:(A.take kk).map u32 ++ [u32 p.1] ++ (A.drop kk).map u32=(insI A p.1).map u32:=by simp [insI,← hkk]
     rw [hlen',hfl] at ho7
     simp [hr7]
     refine ⟨k - 1,by omega,idxs ++ [i],insI A p.1,v3,by simp; omega,?_,hmb6.ext hX7,?_,insI_sorted hsA _,sl_of_own ho7,hM46.trans hX7.mod,by simp,by simp [s7],by simp [s9],by simp [s26],rfl⟩
     ·exact hI6.keep (hX7.blk _ hI6.lt.1) (hX7.blk _ hI6.lt.2)
     ·rw [seenOf_snoc hpi,List.map_append]
      exact (insI_perm A p.1).trans ((hp.cons p.1).trans (by
       have:=List.perm_append_comm (l₁:=[p.1]) (l₂:=(seenOf bm idxs).map (·.1))
       simpa using this))
end Go.Proofs