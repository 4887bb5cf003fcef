/-
 Contracts of the functions that the law reaches,step by step.
-/
import Derived.Test.YtdflcfoalhhjlaaGreatRuQ
namespace Go.Proofs
open Pk
set_option maxRecDepth 10000
theorem WaysT.uniq {L : List Ct} {snt : Ct → Int → Option Int} {q : Qu} {til many : Int} {l l' : List Tl} {n n' : Int} (hA : Gr.FApart (Gr.Fs L q.fr [])) (h : WaysT L snt q til many l n) (h' : WaysT L snt q til many l' n') : l = l' ∧ n = n' := by
 cases hb : badM q til many with
 | true =>
  obtain ⟨rfl,rfl⟩ := h.bad hb
  obtain ⟨rfl,rfl⟩ := h'.bad hb
  exact ⟨rfl,rfl⟩
 | false =>
  obtain ⟨h1,h2,h3,h4⟩ := h.ok hb
  obtain ⟨k1,k2,k3,k4⟩ := h'.ok hb
  have := h1.same hA (n := many.toNat) (by omega) (fun h => h3 (by omega)) k1 (by omega) (fun h => k3 (by omega))
  subst this
  exact ⟨rfl,h4.trans k4.symm⟩
theorem fs_apart {L : List Ct} (h : L.Pairwise aheadP) (q : Qu) : Gr.FApart (Gr.Fs L q.fr []) := by
 have := firsts_apart h (qNo q [])
 rwa [firsts_Fs] at this
theorem eachP_pre {L : List Ct} {snt : Ct → Int → Option Int} {q : Qu} {til : Int} {l A : List Tl} (hA : Gr.FApart (Gr.Fs L q.fr [])) (h : EachP L snt q til l) (h' : EachS L snt q til A) : ∃ r, A = l ++ r := by
 unfold EachP at h
 unfold EachS at h'
 split at h
 ·exact ⟨A,by rw [h]; rfl⟩
 ·rename_i hb
  rw [if_neg hb] at h'
  exact h.pre hA h'
theorem eachS_uniq {L : List Ct} {snt : Ct → Int → Option Int} {q : Qu} {til : Int} {l A : List Tl} (hA : Gr.FApart (Gr.Fs L q.fr [])) (h : EachS L snt q til l) (h' : EachS L snt q til A) : l = A := by
 unfold EachS at h h'
 split at h
 ·rename_i hb
  rw [if_pos hb] at h'
  rw [h,h']
 ·rename_i hb
  rw [if_neg hb] at h'
  exact h.uniq hA h'
theorem EachS.len {L : List Ct} {snt : Ct → Int → Option Int} {q : Qu} {til : Int} {l : List Tl} (h : EachS L snt q til l) : l.length ≤ L.length := by
 unfold EachS at h
 split at h
 ·simp [h]
 ·exact Gr.Wys.len h
theorem WaysT.len {L : List Ct} {snt : Ct → Int → Option Int} {q : Qu} {til many : Int} {l : List Tl} {n : Int} (h : WaysT L snt q til many l n) : l.length ≤ L.length := by
 cases hb : badM q til many with
 | true => rw [(h.bad hb).1]; simp
 | false => exact (h.ok hb).1.len
theorem wt_sl {w : World} {v : Value} {l : List Tl} (h : SlB w 8 v l.length (l.flatMap wtC)) : SlB w 8 v (l.map tlWy).length ((l.map tlWy).flatMap wyC) := by
 rw [← wt_map,List.length_map]
 exact h
def RwI (w7 : World) (fv : Value) (qB mB rB aB : Nat) (k : Nat) (ρ : Env) (ds : List Deferred) (W : World) : Prop :=
 ∃ (turn tb : Nat) (Ds : List Nat), (k = 2 - turn ∧ turn ≤ 2) ∧ (ρ 15 = fv ∧ ρ 4 = ptr qB ∧ ρ 5 = ptr mB ∧ ρ 6 = ptr rB ∧ ρ 14 = ptr aB ∧ ρ 16 = ptr tb) ∧ Var W tb (i64 turn) ∧ w7.heap.size ≤ tb ∧ ds = Ds.map dmark ∧ Ds.Nodup ∧
  (∀ D ∈ Ds,w7.heap.size ≤ D ∧ D ≠ tb ∧ W.heap[D]? = some (.deferred (some []))) ∧ Ext w7 W
set_option maxHeartbeats 4000000 in
theorem RouteWays_c {w : World} {vP vS nv : Value} {P : List Ct} {S : List St} {q : Qu} (hG : SetGv w vP vS P S) (hq : QuOk q) (hno : SlB w 5 nv q.no.length (q.no.flatMap ctC)) (til many : Int) (htil : 0 ≤ til) :
  FN Tryz.prog 3 [seV vP vS,quV q nv,akV til many] w fun e w' => e = .returned (.bool true) ∧ Ext w w' := by
 refine FN_enter Tryz.func3 rfl rfl (by kernel_rfl) ?_
 obtain ⟨a1,c1,rfl⟩ := hG.p.isSlice
 obtain ⟨a2,c2,rfl⟩ := hG.s.isSlice
 obtain ⟨a4,c4,rfl⟩ := hno.isSlice
 have hE : Ext w ((((w.alloc (.cells #[(Value.slice a1 P.length c1),(Value.slice a2 S.length c2)] 25)).alloc (.cells #[u32 q.fr,u32 q.to',u64 q.at_,u64 q.size,i64 q.most,(Value.slice a4 q.no.length c4)] 29)).alloc (.cells #[u64 til,i64 many] 31)).alloc (.cells #[.bool false] 4)) := ((((Ext.refl w).alloc _).alloc _).alloc _).alloc _
 have b1 : Blk ((((w.alloc (.cells #[(Value.slice a1 P.length c1),(Value.slice a2 S.length c2)] 25)).alloc (.cells #[u32 q.fr,u32 q.to',u64 q.at_,u64 q.size,i64 q.most,(Value.slice a4 q.no.length c4)] 29)).alloc (.cells #[u64 til,i64 many] 31)).alloc (.cells #[.bool false] 4)) w.heap.size [(Value.slice a1 P.length c1),(Value.slice a2 S.length c2)] := (Blk.new w [(Value.slice a1 P.length c1),(Value.slice a2 S.length c2)] 25).ext ((((Ext.refl _).alloc _).alloc _).alloc _)
 have b2 : Blk ((((w.alloc (.cells #[(Value.slice a1 P.length c1), (Value.slice a2 S.length c2)] 25)).alloc (.cells #[u32 q.fr, u32 q.to', u64 q.at_, u64 q.size, i64 q.most, (Value.slice a4 q.no.length c4)] 29)).alloc (.cells #[u64 til, i64 many] 31)).alloc (.cells #[.bool false] 4)) (w.heap.size + 1) (quC q (Value.slice a4 q.no.length c4)) := by
  have := (Blk.new (w.alloc (.cells #[(Value.slice a1 P.length c1),(Value.slice a2 S.length c2)] 25)) (quC q (Value.slice a4 q.no.length c4)) 29).ext (((Ext.refl _).alloc (.cells #[u64 til,i64 many] 31)).alloc (.cells #[.bool false] 4))
  simpa using this
 have bA : Blk ((((w.alloc (.cells #[(Value.slice a1 P.length c1), (Value.slice a2 S.length c2)] 25)).alloc (.cells #[u32 q.fr, u32 q.to', u64 q.at_, u64 q.size, i64 q.most, (Value.slice a4 q.no.length c4)] 29)).alloc (.cells #[u64 til, i64 many] 31)).alloc (.cells #[.bool false] 4)) (w.heap.size + 1 + 1) [u64 til, i64 many] := by
  have := (Blk.new ((w.alloc (.cells #[(Value.slice a1 P.length c1),(Value.slice a2 S.length c2)] 25)).alloc (.cells #[u32 q.fr,u32 q.to',u64 q.at_,u64 q.size,i64 q.most,(Value.slice a4 q.no.length c4)] 29)) [u64 til,i64 many] 31).ext ((Ext.refl _).alloc (.cells #[.bool false] 4))
  simpa using this
 have r0 : Var ((((w.alloc (.cells #[(Value.slice a1 P.length c1), (Value.slice a2 S.length c2)] 25)).alloc (.cells #[u32 q.fr, u32 q.to', u64 q.at_, u64 q.size, i64 q.most, (Value.slice a4 q.no.length c4)] 29)).alloc (.cells #[u64 til, i64 many] 31)).alloc (.cells #[.bool false] 4)) (w.heap.size + 1 + 1 + 1) (.bool false) := by
  have := Var.new (((w.alloc (.cells #[(Value.slice a1 P.length c1),(Value.slice a2 S.length c2)] 25)).alloc (.cells #[u32 q.fr,u32 q.to',u64 q.at_,u64 q.size,i64 q.most,(Value.slice a4 q.no.length c4)] 29)).alloc (.cells #[u64 til,i64 many] 31)) (.bool false) 4
  simpa using this
 have hsz : ((((w.alloc (.cells #[(Value.slice a1 P.length c1),(Value.slice a2 S.length c2)] 25)).alloc (.cells #[u32 q.fr,u32 q.to',u64 q.at_,u64 q.size,i64 q.most,(Value.slice a4 q.no.length c4)] 29)).alloc (.cells #[u64 til,i64 many] 31)).alloc (.cells #[.bool false] 4)).heap.size = w.heap.size + 4 := by simp
 simp
 generalize ((((w.alloc (.cells #[(Value.slice a1 P.length c1),(Value.slice a2 S.length c2)] 25)).alloc (.cells #[u32 q.fr,u32 q.to',u64 q.at_,u64 q.size,i64 q.most,(Value.slice a4 q.no.length c4)] 29)).alloc (.cells #[u64 til,i64 many] 31)).alloc (.cells #[.bool false] 4)) = w1 at *
 refine FN.mono (few_c (w := w1) (a := P.length) (b := S.length) ⟨_,_,rfl⟩ ⟨_,_,rfl⟩ 12) ?_
 rintro _ w2 ⟨rfl,hE2⟩
 have hX2 := hE.trans hE2
 have r2 := r0.ext hE2
 have q2 := b2.ext hE2
 have fin : ∀ (W : World) (x : Bool), Ext w2 W → Ext w (W.setCell ⟨w.heap.size + 1 + 1 + 1, 0, none⟩ (.bool x)) := fun W x h =>
  ((hX2.trans h).mod (S := fun k => w.heap.size ≤ k)).trans ((Mod.setCell (S := fun k => k = w.heap.size + 1 + 1 + 1) (Mod.refl _ W) ⟨w.heap.size + 1 + 1 + 1,0,none⟩ (.bool x) (.inl rfl)).weaken fun k hk => by omega) |>.ext fun _ h => h
 cases hf : fewB P.length S.length 12 with
 | false =>
  simp
  refine FN.mono (works_c w2) ?_
  rintro _ w3 ⟨rfl,hE3⟩
  simp [(r2.ext hE3).cell,(r2.ext hE3).thaw,((r2.ext hE3).set _).cell]
  exact fin _ _ hE3
 | true =>
  simp [(q2).cell 5 _ rfl]
  by_cases hn : (10 : Int) < (q.no.length : Int)
  ·simp [hn]
   refine FN.mono (works_c w2) ?_
   rintro _ w3 ⟨rfl,hE3⟩
   simp [(r2.ext hE3).cell,(r2.ext hE3).thaw,((r2.ext hE3).set _).cell]
   exact fin _ _ hE3
  simp [hn]
  simp [fewB] at hf
  refine WC_drawL 11 (.F 0 <| .F 2 <| .D 8 <| .L 1 <| .L 3 <| .F 4 <| .F 5 <| .F 6 <| .F 7 <| .W 8 <| .F 9 <| .S 10 <| .Z) (fun _ => false) (fun _ => false) (fun _ u W => ∃ j, u = ptr j ∧ w2.heap.size ≤ j ∧ Blk W j [Value.slice none 0 0, Value.slice none 0 0, Value.slice none 0 0]) rfl (by kernel_rfl) (fun _ h => h)
   (fun _ _ _ _ ⟨j,h1,h2,h3⟩ hA => ⟨j,h1,h2,h3.ext (agr_ext hA)⟩) fun W hW => ?_
  have hWE : Ext w2 W := hW ▸ Ext.drew w2
  simp [((b1.ext hE2).ext hWE).cell 0 _ rfl,((b1.ext hE2).ext hWE).cell 1 _ rfl]
  refine RL_float (fun W' h' => ?_) ?_
  ·simp
   have hs := (hWE.trans (agr_ext h')).size
   exact ⟨(Ext.refl _).alloc _,hs,Blk.new W' [Value.slice none 0 0,Value.slice none 0 0,Value.slice none 0 0] 43⟩
  simp
  refine RL_loose fun W3 h3 => ?_
  simp
  refine FN.mono (vnew_c W3) ?_
  rintro _ W4 ⟨lq,lr,rfl,hL4,hE4,-,-⟩
  simp
  refine KR_ext hE4 ?_
  simp
  refine RL_loose fun W5 h5 => ?_
  have hX5 := hWE.trans (h3.trans (hE4.trans h5))
  have hso : SetOk W5 (Value.slice a1 P.length c1) (Value.slice a2 S.length c2) P S := ⟨hG.p.ext (hX2.trans hX5),hG.s.ext (hX2.trans hX5),hG.op,hG.os,by omega,by omega⟩
  simp
  refine FN.mono (made_c hso (hL4.ext h5)) ?_
  rintro _ W6 ⟨⟨g,vp,vt,L,M,rfl,hMd,hLP⟩,hE6⟩
  simp
  refine KR_ext hE6 ?_
  obtain ⟨a5,c5,rfl⟩ := hMd.pl.isSlice
  obtain ⟨a6,c6,rfl⟩ := hMd.tb.isSlice
  simp
  refine RL_wait fun v6 W7 h7 ⟨j,hj,hjs,hjb⟩ => ?_
  subst hj
  have hMs : Mod (fun k => k = j) W7 (((W7.setCell ⟨j,0,none⟩ (Value.slice a5 L.length c5)).setCell ⟨j,1,none⟩ (Value.slice a6 (S.foldl rsetL []).length c6)).setCell ⟨j,2,none⟩ (.slice none 0 0)) := (((Mod.refl _ _).setC _ _).setC _ _).setC _ _
  have kj : Blk (((W7.setCell ⟨j,0,none⟩ (Value.slice a5 L.length c5)).setCell ⟨j,1,none⟩ (Value.slice a6 (S.foldl rsetL []).length c6)).setCell ⟨j,2,none⟩ (.slice none 0 0)) j [(Value.slice a5 L.length c5),(Value.slice a6 (S.foldl rsetL []).length c6),.slice none 0 0] := ((hjb.set 0 (Value.slice a5 L.length c5)).set 1 (Value.slice a6 (S.foldl rsetL []).length c6)).set 2 (.slice none 0 0)
  have hMd7 := (hMd.ext h7).zmod hjb hMs
  have hX7 : Ext w2 (((W7.setCell ⟨j,0,none⟩ (Value.slice a5 L.length c5)).setCell ⟨j,1,none⟩ (Value.slice a6 (S.foldl rsetL []).length c6)).setCell ⟨j,2,none⟩ (.slice none 0 0)) := ((hX5.trans (hE6.trans h7)).mod (S := fun k => w2.heap.size ≤ k)).trans (hMs.weaken fun k hk => by omega) |>.ext fun _ h => h
  simp [(hjb).cell 0 _ rfl,(hjb).cell 1 _ rfl,(hjb).cell 2 _ rfl,hjb.thaw,cell_setCell]
  refine KR_mk (agr_any (hMs.weaken fun _ _ => trivial)) ?_
  generalize (((W7.setCell ⟨j,0,none⟩ (Value.slice a5 L.length c5)).setCell ⟨j,1,none⟩ (Value.slice a6 (S.foldl rsetL []).length c6)).setCell ⟨j,2,none⟩ (.slice none 0 0)) = w4 at *
  have hA := fs_apart hMd7.so.so q
  have hdg := hMd7.d
  obtain ⟨p,v,t,R,q',r,hGr⟩ := hMd7.g
  have hvm : vmOk [] := fun x hx => (by cases hx)
  have q4 := q2.ext hX7
  have bA4 := (bA.ext hE2).ext hX7
  have hno4 := hno.ext (hX2.trans hX7)
  have hLl : L.length ≤ 14 := hMd7.bl
  have hL12 : L.length ≤ 12 := by omega
  simp [(q4).cell 0 _ rfl,(q4).cell 1 _ rfl,(q4).cell 2 _ rfl,(q4).cell 3 _ rfl,(q4).cell 4 _ rfl,(q4).cell 5 _ rfl,(bA4).cell 0 _ rfl,(bA4).cell 1 _ rfl]
  refine FN.mono (rways_c (til := til) (many := many) hGr hno4 hMd7.gd hvm hMd7.sl hq hMd7.so.ok hLl (by omega)) ?_
  rintro _ w5 ⟨⟨va,la,na,rfl,hSa,hTa,-⟩,hE5⟩
  have q5 := q4.ext hE5
  have bA5 := bA4.ext hE5
  have k5 := kj.ext hE5
  obtain ⟨aa,ca,rfl⟩ := hSa.isSlice
  simp [(q5).cell 0 _ rfl,(q5).cell 1 _ rfl,(q5).cell 2 _ rfl,(q5).cell 3 _ rfl,(q5).cell 4 _ rfl,(q5).cell 5 _ rfl,(bA5).cell 0 _ rfl,(bA5).cell 1 _ rfl,(k5).cell 0 _ rfl,(k5).cell 1 _ rfl,(k5).cell 2 _ rfl]
  refine FN.mono (rdways_c (hdg.ext hE5) hMd7.gd hq (hno4.ext hE5) (by omega) til many) ?_
  rintro _ w6 ⟨⟨vb,lb,nb,rfl,hSb,hTb,-⟩,hE6b⟩
  obtain ⟨hll,hnn⟩ := hTa.uniq hA hTb
  subst hll hnn
  obtain ⟨ab,cb,rfl⟩ := hSb.isSlice
  simp
  have hlen := hTa.len
  refine FN.mono (same_c (wt_sl (hSa.ext hE6b)) (wt_sl hSb) (by simp; omega)) ?_
  rintro _ w7 ⟨rfl,hE7⟩
  simp
  refine FN.mono (knum_c na w7) ?_
  rintro _ _ ⟨rfl,rfl⟩
  rename_i w7
  have hX47 := hE5.trans (hE6b.trans hE7)
  have hE8 : Ext w7 (w7.alloc (.cells #[.slice none 0 0] 48)) := (Ext.refl w7).alloc _
  have v14 : Var (w7.alloc (.cells #[.slice none 0 0] 48)) w7.heap.size (.slice none 0 0) := Var.new w7 _ 48
  have q8 := (q4.ext hX47).ext hE8
  have bA8 := (bA4.ext hX47).ext hE8
  have k8 := (kj.ext hX47).ext hE8
  simp [(q4.ext hX47).cell 0 _ rfl,(q4.ext hX47).cell 1 _ rfl,(q4.ext hX47).cell 2 _ rfl,(q4.ext hX47).cell 3 _ rfl,(q4.ext hX47).cell 4 _ rfl,(q4.ext hX47).cell 5 _ rfl]
  generalize (w7.alloc (.cells #[.slice none 0 0] 48)) = w8 at *
  have hX48 := hX47.trans hE8
  refine FN.mono (dright_c q hq (Value.slice a4 q.no.length c4) ⟨_,_,_,rfl⟩ w8) ?_
  rintro _ w9 ⟨rfl,hE9⟩
  obtain ⟨snt,hsnt⟩ : ∃ snt,snt = gSnt M [] q.size := ⟨_,rfl⟩
  refine with_tail (T := ∀ (σ : Env) (W : World) (vA : Value) (A : List Tl),(σ 4 = ptr (w.heap.size + 1) ∧ σ 5 = ptr (w.heap.size + 1 + 1) ∧ σ 6 = ptr (w.heap.size + 1 + 1 + 1) ∧ σ 7 = ptr g ∧ σ 14 = ptr w7.heap.size) → Var W w7.heap.size vA → SlB W 8 vA A.length (A.flatMap wtC) → (A ≠ [] → w8.heap.size ≤ slB vA) → EachS L snt q til A → Mod (fun k => k = w7.heap.size) w8 W → FNt Tryz.prog 17 [ptr g,quV q (Value.slice a4 q.no.length c4),u64 til] W (RC ?dA ?KA ?QA σ []) Tok.mk) (fun tail => ?br) ?jn
  case br =>
   by_cases hr : (badQ q || badE q) = true
   ·simp [hr,(q8.ext hE9).cell 0 _ rfl,(q8.ext hE9).cell 1 _ rfl,(q8.ext hE9).cell 2 _ rfl,(q8.ext hE9).cell 3 _ rfl,(q8.ext hE9).cell 4 _ rfl,(q8.ext hE9).cell 5 _ rfl,(bA8.ext hE9).cell 0 _ rfl]
    refine tail _ _ (.slice none 0 0) [] ⟨?_,?_,?_,?_,?_⟩ (v14.ext hE9) (SlB.nil _ _ _) (fun h => (h rfl).elim) (by unfold EachS badW; simp [hr]) hE9.mod <;> simp
   ·have hr : (badQ q || badE q) = false := by simpa using hr
    by_cases hf2 : til ≤ 4611686018427387903
    ·simp [hr,hf2,(q8.ext hE9).cell 0 _ rfl,(q8.ext hE9).cell 1 _ rfl,(q8.ext hE9).cell 2 _ rfl,(q8.ext hE9).cell 3 _ rfl,(q8.ext hE9).cell 4 _ rfl,(q8.ext hE9).cell 5 _ rfl,(bA8.ext hE9).cell 0 _ rfl,(k8.ext hE9).cell 0 _ rfl,(k8.ext hE9).cell 1 _ rfl,(k8.ext hE9).cell 2 _ rfl]
     refine FN.mono (rall_c (hdg.ext (hX48.trans hE9)) hMd7.gd hq (hno4.ext (hX48.trans hE9)) (by omega) til) ?_
     rintro _ w10 ⟨⟨vA,A,rfl,hSA,hTA,hgA⟩,hE10⟩
     obtain ⟨aA,cA,rfl⟩ := hSA.isSlice
     have v15 := (v14.ext hE9).ext hE10
     have hMs9 := Mod.setCell (S := fun k => k = w7.heap.size) (Mod.refl _ w10) ⟨w7.heap.size,0,none⟩ (.slice aA A.length cA) (.inl rfl)
     have l8 := q8.lt
     have l9 := bA8.lt
     have l14 := v14.lt
     have zq4 := q4.lt
     have za4 := bA4.lt
     have z47 := hX47.size
     have z9 := hE9.size
     have q10 := ((q8.ext hE9).ext hE10).mod hMs9 (by omega)
     have bA10 := ((bA8.ext hE9).ext hE10).mod hMs9 (by omega)
     have hSA10 : SlB (w10.setCell ⟨w7.heap.size, 0, none⟩ (.slice aA A.length cA)) 8 (.slice aA A.length cA) A.length (A.flatMap wtC) := hSA.mod hMs9 fun hn => by
      have := hgA (fun e => hn (by rw [e]; rfl)); omega
     simp [v15.cell,v15.thaw,(q10).cell 0 _ rfl,(q10).cell 1 _ rfl,(q10).cell 2 _ rfl,(q10).cell 3 _ rfl,(q10).cell 4 _ rfl,(q10).cell 5 _ rfl,(bA10).cell 0 _ rfl]
     refine tail _ _ (.slice aA A.length cA) A ⟨?_, ?_, ?_, ?_, ?_⟩ (v15.set _) hSA10 (fun h => by have := hgA h; omega) (by
      unfold EachS badW
      simp only [hr,Bool.false_or]
      rw [if_neg (by simp; omega)]
      rw [hsnt]
      exact hTA.ok hr) ((hE9.mod.trans hE10.mod).trans hMs9) <;> simp
    ·simp [hr,hf2,(q8.ext hE9).cell 0 _ rfl,(q8.ext hE9).cell 1 _ rfl,(q8.ext hE9).cell 2 _ rfl,(q8.ext hE9).cell 3 _ rfl,(q8.ext hE9).cell 4 _ rfl,(q8.ext hE9).cell 5 _ rfl,(bA8.ext hE9).cell 0 _ rfl]
     refine tail _ _ (.slice none 0 0) [] ⟨?_,?_,?_,?_,?_⟩ (v14.ext hE9) (SlB.nil _ _ _) (fun h => (h rfl).elim) (by unfold EachS badW; simp; omega) hE9.mod <;> simp
  case jn =>
   rintro σ W vA A ⟨f4,f5,f6,f7,f14⟩ hv hSA hgA hEA hM9
   obtain ⟨aA,cA,rfl⟩ := hSA.isSlice
   have l8 := q8.lt
   have l14 := v14.lt
   have zq4 := q4.lt
   have za4 := bA4.lt
   have z47 := hX47.size
   have zR2 := r2.lt
   have zX7 := hX7.size
   have hX4W : Mod (fun k => k = w7.heap.size) w4 W := hX48.mod.trans hM9
   have hE4W : Ext w2 W := ((hX7.mod (S := fun k => w2.heap.size ≤ k)).trans (hX4W.weaken fun k hk => by omega)).ext fun _ h => h
   have qW := q8.mod hM9 (by omega)
   have bAW := bA8.mod hM9 (by have := bA8.lt; omega)
   have rW := r2.ext hE4W
   have hnoW := hno.ext (hX2.trans hE4W)
   have hGW : GrAt W g p v L t R M q' r [] := hGr.mod hX4W (by have := hGr.blk.lt; omega) (by have := hGr.plan.lt; omega) (fun hn => by have := hGr.plan.rlt hn; omega) (fun k hk => by have := hGr.tab.lt k hk; omega) (by have := hGr.led.lt; omega) (by have := hGr.led.lt; omega)
   refine FN.mono (each_c W (ptr g) q (Value.slice a4 q.no.length c4) til ⟨_,_,_,rfl⟩ ⟨_,rfl⟩) ?_
   rintro _ w10 ⟨bg,bq,bt,rfl,vg,vq,vt,hE10,y1,y2,y3⟩
   have hGB := hGW.ext hE10
   have hnoB := hnoW.ext hE10
   have hWst : Wst w10 (fun k => k < w10.heap.size) g p v L t R M q' r [] bg bq q (Value.slice a4 q.no.length c4) := ⟨vg, vq, hGB, hnoB, vg.lt, vq.lt, hGB.blk.lt, hGB.plan.lt, fun h => hGB.plan.rlt h, hGB.tab.lt, hGB.led.lt.1, hGB.led.lt.2, fun hn => hnoB.lt (List.length_pos_iff.2 fun e => hn (by
    cases hq0 : q.no with
    | nil => rfl
    | cons c cs => rw [hq0] at e; simp at e))⟩
   have hAl := hEA.len
   have hSa7 := hSA.ext hE10
   have vA7 := hv.ext hE10
   have m7 := bAW.ext hE10
   have r7 := rW.ext hE10
   have qq7 := qW.ext hE10
   have lA := vA7.lt
   have lv := vg.lt
   have lq := vq.lt
   have lt' := vt.lt
   have lm := m7.lt
   have lr := r7.lt
   have zW := hE10.size
   have hw0 : IntKind.i64.wrap 0 = 0 := by decide
   have h8 : Var (w10.alloc (.cells #[i64 0] 3)) w10.heap.size (i64 0) := Var.new w10 _ 3
   have hE8' : Ext w10 (w10.alloc (.cells #[i64 0] 3)) := (Ext.refl w10).alloc _
   simp
   refine WC_loop (RwI w10 (.func (.func 39) #[] #[ptr bq, ptr bt, ptr bg]) (w.heap.size + 1) (w.heap.size + 1 + 1) (w.heap.size + 1 + 1 + 1) w7.heap.size) 2 ?_ ?_
   ·refine ⟨0,w10.heap.size,[],⟨rfl,by omega⟩,⟨?_,?_,?_,?_,?_,?_⟩,h8,Nat.le_refl _,rfl,List.nodup_nil,by simp,hE8'⟩ <;> simp [f4,f5,f6,f14]
   rintro k ρ ds W0 ⟨turn,tb,Ds,⟨rfl,ht2⟩,⟨e15,e4,e5,e6,e14,e16⟩,hT,htb,rfl,hDn,hDs,hXW⟩
   by_cases ht : turn < 2
   ·have htb' : (turn : Int) < 2 := by omega
    simp [e16,hT.cell,htb',e15]
    have hE1 : Ext W0 (W0.alloc (.cells #[i64 0] 3)) := (Ext.refl W0).alloc _
    have vn : Var (W0.alloc (.cells #[i64 0] 3)) W0.heap.size (i64 0) := Var.new W0 _ 3
    have hT1 := hT.ext hE1
    have z1 : (W0.alloc (.cells #[i64 0] 3)).heap.size = W0.heap.size + 1 := by simp
    have hXW1 := hXW.trans hE1
    have hlT := hT.lt
    have hlW := hXW.size
    obtain ⟨nb,hnb⟩ : ∃ n,n = W0.heap.size := ⟨_,rfl⟩
    have hDs1 : ∀ D ∈ Ds, w10.heap.size ≤ D ∧ D ≠ tb ∧ D < nb ∧ (W0.alloc (.cells #[i64 0] 3)).heap[D]? = some (.deferred (some [])) := fun D hD => by
     obtain ⟨h1,h2,h3⟩ := hDs D hD
     exact ⟨h1,h2,by have := (Array.getElem?_eq_some_iff.1 h3).1; omega,hE1.obj h3⟩
    rw [← hnb] at vn z1 ⊢
    generalize (W0.alloc (.cells #[i64 0] 3)) = W1 at *
    have hit := each_it (til := til) (hWst.ext hXW1) (vt.ext hXW1) lt' hMd7.gd hvm hMd7.sl hq hMd7.so.ok hLl (by omega) (fun k hk => by have := hXW1.size; omega)
    rw [← hsnt] at hit
    have rep : ∀ (W' : World),Mod (fun k => k = nb) W1 W' → Ext w10 W' := fun W' hM => (hXW1.mod (S := fun k => w10.heap.size ≤ k)).trans (hM.weaken fun k hk => by omega) |>.ext fun _ h => h
    have nxt : ∀ (W' : World), Mod (fun k => k = nb) W1 W' → W'.heap[W1.heap.size]? = some (.deferred (some [])) → w10.heap.size ≤ W'.heap.size ∧ ({ target := .collected W1.heap.size, args := #[] } :: Ds.map dmark = (W1.heap.size :: Ds).map dmark) ∧ (W1.heap.size :: Ds).Nodup ∧
      (∀ u,(∀ D ∈ W1.heap.size :: Ds,w10.heap.size ≤ D ∧ D ≠ W'.heap.size ∧ (W'.alloc (.cells #[u] 3)).heap[D]? = some (.deferred (some []))) ∧ Ext w10 (W'.alloc (.cells #[u] 3))) := by
     intro W' hM hD
     have hs := hM.size
     have hDl := (Array.getElem?_eq_some_iff.1 hD).1
     refine ⟨by omega,rfl,List.nodup_cons.2 ⟨fun hm => by have := hDs1 _ hm; omega,hDn⟩,fun u => ⟨fun D hm => ?_,(rep W' hM).trans ((Ext.refl _).alloc _)⟩⟩
     have hEa : Ext W' (W'.alloc (.cells #[u] 3)) := (Ext.refl _).alloc _
     rcases List.mem_cons.1 hm with rfl | hm
     ·exact ⟨by omega,by omega,hEa.obj hD⟩
     ·obtain ⟨k1,k2,k3,k4⟩ := hDs1 D hm
      exact ⟨k1,by omega,hEa.obj (hM.obj k4 (by omega))⟩
    have hw1 : IntKind.i64.wrap 1 = 1 := by decide
    have q2' : IntKind.i64.wrap ((turn : Int) + 1) = ((turn + 1 : Nat) : Int) := by rw [wrap64 _ (by omega) (by omega)]; rfl
    refine WC_rangeFuncA (gf := 39) (first := #[]) (caps := #[ptr bq, ptr bt, ptr bg]) (enc := fun x : Tl => [wyV (tlWy x)]) (by simp) (fun _ _ => callFunc_enter Tryz.func39 rfl rfl _ _) hit (fun x => rfl) (fun k => k = nb)
     (fun C pre W' => Var W' nb (i64 pre.length) ∧ (∀ k,C k ↔ k = nb) ∧ Mod (fun k => k = nb) W1 W' ∧ (turn = 0 → pre ≠ [] → (pre.length : Int) < many))
     (fun c C pre W' => c = .exit 2 ∧ Var W' nb (i64 pre.length) ∧ (turn = 0 ∧ many ≤ pre.length ∧ ((pre.length : Int) - 1 < many ∨ pre.length = 1) ∧ 0 < pre.length) ∧ Mod (fun k => k = nb) W1 W' ∧ (∀ k,C k ↔ k = nb))
     (fun k hk => by have := hXW1.size; omega) (fun k hk => by omega) ?_ ?_ ⟨vn,fun _ => Iff.rfl,Mod.refl _ _,fun _ h => (h rfl).elim⟩
     (fun x B ρ' W' => ∃ b',ρ' 18 = ptr b' ∧ B ≤ b' ∧ Blk W' b' (wtC x) ∧ ρ' 17 = ptr nb ∧ (ρ' 5 = ptr (w.heap.size + 1 + 1) ∧ ρ' 6 = ptr (w.heap.size + 1 + 1 + 1) ∧ ρ' 14 = ptr w7.heap.size ∧ ρ' 16 = ptr tb))
     ?_ ?_ ?_ ?_ ?_
    ·rintro C pre W' W'' ⟨h1,h2,h3,h4⟩ hag
     exact ⟨h1.agr hag (.inr ((h2 _).2 rfl)),h2,h3.agr_old hag,h4⟩
    ·rintro c C pre W' W'' ⟨h0,h1,h2,h3,h4⟩ hag
     exact ⟨h0,h1.agr hag (.inr ((h4 _).2 rfl)),h2,h3.agr_old hag,h4⟩
    ·rintro x B ρ' W' W'' ⟨b',h1,h2,h3,h4⟩ hag
     exact ⟨b',h1,h2,h3.agr hag h2,h4⟩
    ·intro lp x W'
     simp [e5,e6,e14,e16]
     exact ⟨(Ext.refl W').alloc _,Blk.new W' (wtC x) 66⟩
    ·rintro lp C pre x B ρ' W' hsp ⟨h1,h2,h3,h4⟩ hl1 hl2 - hBW ⟨b',f18,hB,hyb,f17,f5,f6,f14,f16⟩
     obtain ⟨suf,hsuf⟩ := eachP_pre hA hsp hEA
     have hql : pre.length < A.length := by rw [hsuf]; simp
     have hxq : A[pre.length] = x := by simp [hsuf]
     have hqB : pre.length < (A.map tlWy).length := by simpa using hql
     have hyq : (A.map tlWy)[pre.length] = tlWy x := by simp [hxq]
     have hXa := rep W' h3
     refine WC_drawC 10 (.F 0 <| .F 1 <| .F 2 <| .F 3 <| .F 4 <| .F 5 <| .F 6 <| .F 7 <| .F 8 <| .F 9 <| .Z) (fun _ => false) rfl (by kernel_rfl) fun W2 hW2 => ?_
     have hd : Ext W' W2 := hW2 ▸ Ext.drew _
     have hXd := hXa.trans hd
     have sA := hSa7.ext hXd
     have lenA := fun ty W' => sA.isLen (P := Tryz.prog) (t := 48) (by simp) ty W'
     have sB := (wt_sl sA).toSl (by simp; omega)
     have rB := wyRow sB hqB
     have xB := wyIndex sB pre.length hqB W2
     rw [hyq] at rB
     have hnl : ¬ A.length ≤ pre.length := by omega
     have hyb2 := hyb.ext hd
     have n2 := h1.ext hd
     have hne := neqWy (tlWy x) (tlWy x) W2
     simp at hne
     have q1 : IntKind.i64.wrap ((pre.length : Int) + 1) = (pre.length : Int) + 1 := wrap64 _ (by omega) (by omega)
     simp [f14,f17,f18,n2.cell,(vA7.ext hXd).cell,lenA,hnl,xB,rB.c0,rB.c1,rB.c2,rB.c3,rB.c4,rB.c5,rB.c6,rB.c7,(hyb2).cell 0 _ rfl,(hyb2).cell 1 _ rfl,(hyb2).cell 2 _ rfl,(hyb2).cell 3 _ rfl,(hyb2).cell 4 _ rfl,(hyb2).cell 5 _ rfl,(hyb2).cell 6 _ rfl,(hyb2).cell 7 _ rfl,hne,q1]
     have hset := n2.set (i64 ((pre.length : Int) + 1))
     have m3 := (Mod.refl (fun k => k = nb) W2).setC 0 (i64 ((pre.length : Int) + 1))
     have t3 := ((hT1.mod h3 (by omega)).ext hd).mod m3 (by omega)
     have mm3 := ((((m7.ext hXa).ext hd)).mod m3 (by omega))
     have hth := n2.thaw
     obtain ⟨W3,hW3⟩ : ∃ W3,W3 = W2.setCell ⟨nb,0,none⟩ (i64 ((pre.length : Int) + 1)) := ⟨_,rfl⟩
     rw [← hW3] at hset m3 t3 mm3
     have hMW := hd.mod.trans m3
     have hl3 : (((pre ++ [x]).length : Nat) : Int) = (pre.length : Int) + 1 := by simp
     by_cases h0 : turn = 0
     ·have h0' : ((turn : Int) == 0) = true := by simp; omega
      have h0'' : decide ((turn : Int) = 0) = true := by simp; omega
      by_cases hz : many ≤ (pre.length : Int) + 1
      ·simp [hth,← hW3,f5,f16,f17,hset.cell,mm3.cell 1 _ rfl,t3.cell,h0,hz]
       refine ⟨C,⟨hset,?_,h3.trans hMW,h2⟩,Own.of_mod (hMW.weaken fun k hk => (h2 k).2 hk)⟩
       by_cases hp : pre = []
       ·right; exact hp
       ·left; exact h4 h0 hp
      ·simp [hth,← hW3,f5,f16,f17,hset.cell,mm3.cell 1 _ rfl,t3.cell,h0,hz]
       exact ⟨C,⟨hset,h2,h3.trans hMW,by omega⟩,Own.of_mod (hMW.weaken fun k hk => (h2 k).2 hk)⟩
     ·have h0' : ((turn : Int) == 0) = false := by simp; omega
      have h0'' : decide ((turn : Int) = 0) = false := by simp; omega
      simp [hth,← hW3,f16,t3.cell,h0',h0]
      exact ⟨C,⟨hset,h2,h3.trans hMW⟩,Own.of_mod (hMW.weaken fun k hk => (h2 k).2 hk)⟩
    ·rintro C xs W' hxs ⟨h1,h2,h3,h4⟩ hD
     have hxs' : xs = A := eachS_uniq hA hxs hEA
     rw [hxs'] at h1 h4
     have hXa := rep W' h3
     have lenA := fun ty W' => hSa7.isLen (P := Tryz.prog) (t := 48) (by simp) ty W'
     have vAW := vA7.ext hXa
     have mW := m7.ext hXa
     have tW := hT1.mod h3 (by omega)
     obtain ⟨n1,n2,n3,n4⟩ := nxt W' h3 hD
     have hvn := Var.new W' (i64 ((turn + 1 : Nat) : Int)) 3
     by_cases h0 : turn = 0
     ·have h0' : ((turn : Int) == 0) = true := by simp; omega
      have h0'' : decide ((turn : Int) = 0) = true := by simp; omega
      have hvn : Var (W'.alloc (.cells #[i64 1] 3)) W'.heap.size (i64 ((turn + 1 : Nat) : Int)) := by rw [h0]; exact Var.new W' (i64 1) 3
      have hmn : (A.length : Int) = min (A.length : Int) (max 1 many) := by
       by_cases hy0 : A = []
       ·rw [hy0]; simp; omega
       ·have := h4 h0 hy0; omega
      simp [e5,e14,e16,h1.cell,vAW.cell,mW.cell 1 _ rfl,tW.cell,lenA,← hmn,h0,beq_dec,hw1]
      refine ⟨2 - (turn + 1),by omega,turn + 1,W'.heap.size,W1.heap.size :: Ds,⟨rfl,by omega⟩,⟨?_,?_,?_,?_,?_,?_⟩,hvn,n1,n2,n3,(n4 _).1,(n4 _).2⟩ <;> simp [e4,e5,e6,e14,e15]
     ·have h0' : ((turn : Int) == 0) = false := by simp; omega
      have h0'' : decide ((turn : Int) = 0) = false := by simp; omega
      have h1' : ((turn : Int) == 1) = true := by simp; omega
      have h1'' : decide ((turn : Int) = 1) = true := by simp; omega
      simp [e14,e16,h1.cell,vAW.cell,tW.cell,lenA,h0',h1',q2']
      refine ⟨2 - (turn + 1),by omega,turn + 1,W'.heap.size,W1.heap.size :: Ds,⟨rfl,by omega⟩,⟨?_,?_,?_,?_,?_,?_⟩,hvn,n1,n2,n3,(n4 _).1,(n4 _).2⟩ <;> simp [e4,e5,e6,e14,e15]
    ·rintro c C pre W' hsp ⟨rfl,h1,⟨g1,g2,g3,hq0⟩,h3,h4⟩ hD
     obtain ⟨suf,hsuf⟩ := eachP_pre hA hsp hEA
     have hXa := rep W' h3
     have lenA := fun ty W' => hSa7.isLen (P := Tryz.prog) (t := 48) (by simp) ty W'
     have vAW := vA7.ext hXa
     have mW := m7.ext hXa
     have tW := hT1.mod h3 (by omega)
     obtain ⟨n1,n2,n3,n4⟩ := nxt W' h3 hD
     have h0 := g1
     have hvn : Var (W'.alloc (.cells #[i64 1] 3)) W'.heap.size (i64 ((turn + 1 : Nat) : Int)) := by rw [h0]; exact Var.new W' (i64 1) 3
     have hql : pre.length ≤ A.length := by rw [hsuf]; simp
     have hmn : (pre.length : Int) = min (A.length : Int) (max 1 many) := by omega
     have h0' : ((turn : Int) == 0) = true := by simp; omega
     have h0'' : decide ((turn : Int) = 0) = true := by simp; omega
     simp [e5,e14,e16,h1.cell,vAW.cell,mW.cell 1 _ rfl,tW.cell,lenA,← hmn,h0,beq_dec,hw1]
     refine ⟨2 - (turn + 1),by omega,turn + 1,W'.heap.size,W1.heap.size :: Ds,⟨rfl,by omega⟩,⟨?_,?_,?_,?_,?_,?_⟩,hvn,n1,n2,n3,(n4 _).1,(n4 _).2⟩ <;> simp [e4,e5,e6,e14,e15]
   ·obtain rfl : turn = 2 := by omega
    have hqW := qq7.ext hXW
    have hmW := m7.ext hXW
    simp [e4,e5,e16,hT.cell,(hqW).cell 0 _ rfl,(hqW).cell 1 _ rfl,(hqW).cell 2 _ rfl,(hqW).cell 3 _ rfl,(hqW).cell 4 _ rfl,(hqW).cell 5 _ rfl,(hmW).cell 0 _ rfl,(hmW).cell 1 _ rfl]
    refine FN.mono (rways_n (w := W0) (q := q) (nv := (Value.slice a4 q.no.length c4)) (til := til) (many := many) ⟨_,_,_,rfl⟩) ?_
    rintro _ W1 ⟨rfl,hE1⟩
    simp [e4,e5,(hqW.ext hE1).cell 0 _ rfl,(hqW.ext hE1).cell 1 _ rfl,(hqW.ext hE1).cell 2 _ rfl,(hqW.ext hE1).cell 3 _ rfl,(hqW.ext hE1).cell 4 _ rfl,(hqW.ext hE1).cell 5 _ rfl,(hmW.ext hE1).cell 0 _ rfl]
    refine FN.mono (each_c W1 (.pointer none) q (Value.slice a4 q.no.length c4) til ⟨_,_,_,rfl⟩ ⟨_,rfl⟩) ?_
    rintro _ W2 ⟨bg2,bq2,bt2,rfl,vg2,vq2,vt2,hE2',x1,x2,x3⟩
    have hitN := each_itN vg2 vq2 vt2 ⟨_,_,_,rfl⟩
    have hXW2 := hXW.trans (hE1.trans hE2')
    have c1 := vg2.lt
    have c2 := vq2.lt
    have c3 := vt2.lt
    simp
    refine WC_rangeFunc (gf := 39) (first := #[]) (caps := #[ptr bq2, ptr bt2, ptr bg2]) (enc := fun x : Tl => [wyV (tlWy x)]) (by simp) (fun _ _ => callFunc_enter Tryz.func39 rfl rfl _ _) hitN (fun x => rfl) (fun _ => False)
     (fun C pre W' => Ext W2 W') (fun cd C pre W' => False)
     (fun k hk => ⟨by omega,_root_.id⟩) (fun k hk => hk.elim) ?_ (fun _ _ _ _ _ h _ => h.elim) (Ext.refl _) ?ρ ?ha ?_ ?_ (fun _ _ _ _ _ h _ => h.elim)
    case ha =>
     intro l x W
     simp
     exact rfl
    ·intro C pre W W' h6 hag
     exact ⟨hag.os.trans h6.os,hag.tape.trans h6.tape,hag.out.trans h6.out,Nat.le_trans h6.size hag.size,fun i hi => (hag.blk i (Nat.lt_of_lt_of_le hi h6.size) (.inl hi)).trans (h6.blk i hi)⟩
    ·rintro lp C pre x W hsp
     exact hsp.elim
    ·rintro C xs W3 rfl h6 hD
     simp
     refine FN.mono (knum_c 1 W3) ?_
     rintro _ _ ⟨rfl,rfl⟩
     rename_i W3
     simp
     refine FN.mono (works_c W3) ?_
     rintro _ W4 ⟨rfl,hE4'⟩
     have hXW4 := hXW2.trans (h6.trans hE4')
     have rz := r7.ext hXW4
     simp [e6,rz.cell,rz.thaw]
     have hM : Mod (fun k => k = w.heap.size + 1 + 1 + 1) W4 (W4.setCell ⟨w.heap.size + 1 + 1 + 1,0,none⟩ (.bool true)) := (Mod.refl _ _).setC _ _
     have z1 := rz.set (.bool true)
     have hF := fin W4 true (((hE4W.trans hE10).trans hXW4))
     have hDl := (Array.getElem?_eq_some_iff.1 hD).1
     have zXW := hXW.size
     have zE1 := (hE1.trans hE2').size
     have hD4 := hM.obj (hE4'.obj hD) (by omega)
     have hDs4 : ∀ D ∈ Ds,(W4.setCell ⟨w.heap.size + 1 + 1 + 1,0,none⟩ (.bool true)).heap[D]? = some (.deferred (some [])) := fun D hDm => hM.obj (((hE1.trans hE2').trans (h6.trans hE4')).obj (hDs D hDm).2.2) (by have := (hDs D hDm).1; omega)
     generalize (W4.setCell ⟨w.heap.size + 1 + 1 + 1,0,none⟩ (.bool true)) = w9 at hM z1 hF hD4 hDs4 ⊢
     refine LV_marks (W2.heap.size :: Ds) w9 (List.nodup_cons.2 ⟨fun hm => ?_, hDn⟩) (fun D hDm => ?_) fun w' hM' => ?_
     ·have h3 := (hDs _ hm).2.2
      have := (Array.getElem?_eq_some_iff.1 h3).1
      omega
     ·rcases List.mem_cons.1 hDm with rfl | hDm
      ·exact hD4
      ·exact hDs4 D hDm
     ·have z9 := z1.mod hM' (fun h => by
       rcases List.mem_cons.1 h with h | h
       ·omega
       ·have := (hDs _ h).1; omega)
      simp [z9.cell,e6]
      exact ((hF.mod (S := fun k => w.heap.size ≤ k)).trans (hM'.weaken fun k hk => by
       rcases List.mem_cons.1 hk with h | h
       ·omega
       ·have := (hDs _ h).1; omega)).ext fun _ h => h
end Go.Proofs