/-
  Contracts of the functions that the law reaches,step by step.
-/
import Derived.Test.YtmmneeomcefgbaaGreatDoorScO
namespace Go.Proofs
open Pk
set_option maxRecDepth 100000
attribute [local simp] beq_dec bne_dec
/-! ### The document's: which turns are the same -/
theorem neqCt (a b : Ctc) (w : World) : (binOp .neq 33 (ctV a) (ctV b)).run Tryz.prog w = .ok (.bool !(decide (a = b))) w := by
  rw [← eqcs_dec (a := [u32 a.fr,u32 a.to',u64 a.sf,u64 a.su,u64 a.rate]) (b := [u32 b.fr,u32 b.to',u64 b.sf,u64 b.su,u64 b.rate]) (by cases a; cases b; simp [eqcs,eqc])]
  exact run_neq_flat w fCt _ _ rfl rfl
theorem neqSt (a b : Stp) (w : World) : (binOp .neq 35 (stV a) (stV b)).run Tryz.prog w = .ok (.bool !(decide (a = b))) w := by
  rw [← eqcs_dec (a := [u32 a.fr,u32 a.to',u64 a.at',u64 a.tk]) (b := [u32 b.fr,u32 b.to',u64 b.at',u64 b.tk]) (by cases a; cases b; simp [eqcs,eqc])]
  exact run_neq_flat w fSt _ _ rfl rfl
theorem neqMb (a b c : Int) (d : Bool) (a' b' c' : Int) (d' : Bool) (w : World) : (binOp .neq 37 (mbV a b c d) (mbV a' b' c' d')).run Tryz.prog w = .ok (.bool !(decide (a = a' ∧ b = b' ∧ c = c' ∧ d = d'))) w := by
  rw [← eqcs_dec (a := [u32 a,u32 b,u32 c,.bool d]) (b := [u32 a',u32 b',u32 c',.bool d']) (by simp [eqcs,eqc])]
  exact run_neq_flat w fMb _ _ rfl rfl
theorem neqEp (a b a' b' : Int) (w : World) : (binOp .neq 26 (epV a b) (epV a' b')).run Tryz.prog w = .ok (.bool !(decide (a = a' ∧ b = b'))) w := by
  rw [← eqcs_dec (a := [u32 a,u32 b]) (b := [u32 a',u32 b']) (by simp [eqcs,eqc])]
  exact run_neq_flat w fEp _ _ rfl rfl
theorem neqRc (a b : Rec) (w : World) : (binOp .neq 42 (recV a) (recV b)).run Tryz.prog w = .ok (.bool !(decide (a = b))) w := by
  rw [← eqcs_dec (a := recC a) (b := recC b) (by cases a; cases b; simp [eqcs,eqc])]
  exact run_neq_flat w fRc _ _ rfl rfl
set_option maxHeartbeats 8000000 in
theorem dsame_c {w : World} {a b : Trn} {vp vk vp' vk' : Value} (hp : SlB w 1 vp a.pay.length (a.pay.map encB)) (hk : SlB w 1 vk a.keep.length (a.keep.map Value.bool)) (hp' : SlB w 1 vp' b.pay.length (b.pay.map encB)) (hk' : SlB w 1 vk' b.keep.length (b.keep.map Value.bool))
    (hkl : b.keep.length ≤ 1000000) : FN Tryz.prog 14 [trV a vp vk,trV b vp' vk'] w fun e w' => e = .returned (.bool (sameT a b)) ∧ Ext w w' := by
  refine FN_enter Tryz.func14 rfl rfl (by kernel_rfl) ?_
  have E0 : Ext w ((w.alloc (.cells (trC a vp vk).toArray 45)).alloc (.cells (trC b vp' vk').toArray 45)) := ((Ext.refl _).alloc _).alloc _
  have x0 : Blk ((w.alloc (.cells (trC a vp vk).toArray 45)).alloc (.cells (trC b vp' vk').toArray 45)) w.heap.size (trC a vp vk) := (Blk.new w _ _).ext ((Ext.refl _).alloc _)
  have y0 : Blk ((w.alloc (.cells (trC a vp vk).toArray 45)).alloc (.cells (trC b vp' vk').toArray 45)) (w.heap.size + 1) (trC b vp' vk') := by
    have := Blk.new (w.alloc (.cells (trC a vp vk).toArray 45)) (trC b vp' vk') 45
    simpa using this
  have z0 : ((w.alloc (.cells (trC a vp vk).toArray 45)).alloc (.cells (trC b vp' vk').toArray 45)).heap.size = w.heap.size + 2 := by simp
  simp
  generalize ((w.alloc (.cells (trC a vp vk).toArray 45)).alloc (.cells (trC b vp' vk').toArray 45)) = w0 at *
  obtain ⟨p,hpe⟩ : ∃ p,w.heap.size = p := ⟨_,rfl⟩
  rw [hpe] at x0 y0 z0 ⊢
  have hv1 : oneV vp = true := by obtain ⟨_,_,rfl⟩ := hp.isSlice; rfl
  have hv2 : oneV vp' = true := by obtain ⟨_,_,rfl⟩ := hp'.isSlice; rfl
  have hst1 := fun (p : Addr) (W : World) => run_store_sto Tryz.prog W p vp hv1
  have hst2 := fun (p : Addr) (W : World) => run_store_sto Tryz.prog W p vp' hv2
  refine WC_drawC 7 (.F 0 <| .F 1 <| .F 2 <| .F 3 <| .E 4 (.C 5 <| .C 6 <| .Z) (.E 5 (.C 4 <| .C 6 <| .Z) .Z)) (Xf fun k => p + 2 ≤ k) rfl (by kernel_rfl) fun W hW => ?_
  have WE : Ext w0 W := hW ▸ Ext.drew _
  have zW := WE.size
  have xW := x0.ext WE
  have yW := y0.ext WE

  simp [xW.cell 6 _ rfl,yW.cell 6 _ rfl,xW.cell 7 _ rfl,yW.cell 7 _ rfl,xW.cell 8 _ rfl,yW.cell 8 _ rfl,xW.cell 9 _ rfl,yW.cell 9 _ rfl,xW.cell 10 _ rfl,yW.cell 10 _ rfl,xW.cell 11 _ rfl,yW.cell 11 _ rfl,xW.cell 12 _ rfl,yW.cell 12 _ rfl,xW.cell 13 _ rfl,yW.cell 13 _ rfl,xW.cell 14 _ rfl,yW.cell 14 _ rfl]
  refine ⟨Xf_f (by omega),Xf_f (by omega),?_⟩
  refine with_tail (T := ∀ (σ : Env) (W3 : World) (j1 j2 : Nat),(σ 2 = ptr p ∧ σ 3 = ptr (p + 1) ∧ σ 5 = ptr j1 ∧ σ 6 = ptr j2 ∧ σ 11 = .agg #[u32 b.lton,u32 b.ltos,u32 b.lsvc,u32 b.lflg,u32 b.lren,u32 b.lres,u64 b.life,u8 b.lim,vp']) ∧ Ext w0 W3 ∧ Blk W3 j1 [u32 a.lton,u32 a.ltos,u32 a.lsvc,u32 a.lflg,u32 a.lren,u32 a.lres,u64 a.life,u8 a.lim,vp] ∧ Blk W3 j2 [u32 0,u32 0,u32 0,u32 0,u32 0,u32 0,u64 0,u8 0,nilS] ∧ j1 ≠ j2 ∧ p + 2 ≤ j1 ∧ p + 2 ≤ j2 → VL Tryz.prog none ?A ?Q ?ops σ [] W3) (fun tail => ?br) ?jn
  case br =>
   refine RT_alt ?_ ?_
   · skip
     simp
     refine KR_ext ((Ext.refl _).alloc _) ?_
     simp
     refine KR_ext ((Ext.refl _).alloc _) ?_
     have E2 : Ext W ((W.alloc (.cells #[u32 0,u32 0,u32 0,u32 0,u32 0,u32 0,u64 0,u8 0,nilS] 29)).alloc (.cells #[u32 0,u32 0,u32 0,u32 0,u32 0,u32 0,u64 0,u8 0,nilS] 29)) := ((Ext.refl _).alloc _).alloc _
     have l1 : Blk ((W.alloc (.cells #[u32 0,u32 0,u32 0,u32 0,u32 0,u32 0,u64 0,u8 0,nilS] 29)).alloc (.cells #[u32 0,u32 0,u32 0,u32 0,u32 0,u32 0,u64 0,u8 0,nilS] 29)) W.heap.size [u32 0,u32 0,u32 0,u32 0,u32 0,u32 0,u64 0,u8 0,nilS] := (Blk.new W _ _).ext ((Ext.refl _).alloc _)
     have l2 : Blk ((W.alloc (.cells #[u32 0, u32 0, u32 0, u32 0, u32 0, u32 0, u64 0, u8 0, nilS] 29)).alloc (.cells #[u32 0, u32 0, u32 0, u32 0, u32 0, u32 0, u64 0, u8 0, nilS] 29)) (W.heap.size + 1) [u32 0, u32 0, u32 0, u32 0, u32 0, u32 0, u64 0, u8 0, nilS] := by
       have := Blk.new (W.alloc (.cells #[u32 0,u32 0,u32 0,u32 0,u32 0,u32 0,u64 0,u8 0,nilS] 29)) [u32 0,u32 0,u32 0,u32 0,u32 0,u32 0,u64 0,u8 0,nilS] 29
       simpa using this
     generalize ((W.alloc (.cells #[u32 0,u32 0,u32 0,u32 0,u32 0,u32 0,u64 0,u8 0,nilS] 29)).alloc (.cells #[u32 0,u32 0,u32 0,u32 0,u32 0,u32 0,u64 0,u8 0,nilS] 29)) = W2 at *
     obtain ⟨jA,hjA⟩ : ∃ j,W.heap.size = j := ⟨_,rfl⟩
     obtain ⟨jB,hjB⟩ : ∃ j,(W.heap.size + 1) = j := ⟨_,rfl⟩
     rw [hjB] at l2 ⊢; rw [hjA] at l1 ⊢; have lA := l1; have lB := l2
     simp [hst1,lA.cell 0 _ rfl,lA.cell 1 _ rfl,lA.cell 2 _ rfl,lA.cell 3 _ rfl,lA.cell 4 _ rfl,lA.cell 5 _ rfl,lA.cell 6 _ rfl,lA.cell 7 _ rfl,lA.cell 8 _ rfl,lA.thaw,cell_setCell]
     have S3 : Mod (fun k => k = jA) W2 (((((((((W2.setCell ⟨jA,0,none⟩ (u32 a.lton)).setCell ⟨jA,1,none⟩ (u32 a.ltos)).setCell ⟨jA,2,none⟩ (u32 a.lsvc)).setCell ⟨jA,3,none⟩ (u32 a.lflg)).setCell ⟨jA,4,none⟩ (u32 a.lren)).setCell ⟨jA,5,none⟩ (u32 a.lres)).setCell ⟨jA,6,none⟩ (u64 a.life)).setCell ⟨jA,7,none⟩ (u8 a.lim)).setCell ⟨jA,8,none⟩ (vp)) := (((((((((Mod.refl _ _).setC 0 _).setC 1 _).setC 2 _).setC 3 _).setC 4 _).setC 5 _).setC 6 _).setC 7 _).setC 8 _
     have lA3 : Blk (((((((((W2.setCell ⟨jA,0,none⟩ (u32 a.lton)).setCell ⟨jA,1,none⟩ (u32 a.ltos)).setCell ⟨jA,2,none⟩ (u32 a.lsvc)).setCell ⟨jA,3,none⟩ (u32 a.lflg)).setCell ⟨jA,4,none⟩ (u32 a.lren)).setCell ⟨jA,5,none⟩ (u32 a.lres)).setCell ⟨jA,6,none⟩ (u64 a.life)).setCell ⟨jA,7,none⟩ (u8 a.lim)).setCell ⟨jA,8,none⟩ (vp)) jA [u32 a.lton,u32 a.ltos,u32 a.lsvc,u32 a.lflg,u32 a.lren,u32 a.lres,u64 a.life,u8 a.lim,vp] := (((((((((lA.set 0 (u32 a.lton)).set 1 (u32 a.ltos)).set 2 (u32 a.lsvc)).set 3 (u32 a.lflg)).set 4 (u32 a.lren)).set 5 (u32 a.lres)).set 6 (u64 a.life)).set 7 (u8 a.lim)).set 8 (vp))
     refine KR_mk (Xf_agr (S3.weaken fun k hk => by omega)) ?_
     refine tail _ _ jA jB ?_
     refine ⟨⟨rfl,rfl,rfl,rfl,rfl⟩,(((WE.trans E2).mod (S := fun k => w0.heap.size ≤ k)).trans (S3.weaken fun k hk => by omega)).ext fun _ h => h,lA3,lB.mod S3 (by omega),by omega,by omega,by omega⟩
   · skip
     simp
     refine KR_ext ((Ext.refl _).alloc _) ?_
     simp
     refine KR_ext ((Ext.refl _).alloc _) ?_
     have E2 : Ext W ((W.alloc (.cells #[u32 0,u32 0,u32 0,u32 0,u32 0,u32 0,u64 0,u8 0,nilS] 29)).alloc (.cells #[u32 0,u32 0,u32 0,u32 0,u32 0,u32 0,u64 0,u8 0,nilS] 29)) := ((Ext.refl _).alloc _).alloc _
     have l1 : Blk ((W.alloc (.cells #[u32 0,u32 0,u32 0,u32 0,u32 0,u32 0,u64 0,u8 0,nilS] 29)).alloc (.cells #[u32 0,u32 0,u32 0,u32 0,u32 0,u32 0,u64 0,u8 0,nilS] 29)) W.heap.size [u32 0,u32 0,u32 0,u32 0,u32 0,u32 0,u64 0,u8 0,nilS] := (Blk.new W _ _).ext ((Ext.refl _).alloc _)
     have l2 : Blk ((W.alloc (.cells #[u32 0, u32 0, u32 0, u32 0, u32 0, u32 0, u64 0, u8 0, nilS] 29)).alloc (.cells #[u32 0, u32 0, u32 0, u32 0, u32 0, u32 0, u64 0, u8 0, nilS] 29)) (W.heap.size + 1) [u32 0, u32 0, u32 0, u32 0, u32 0, u32 0, u64 0, u8 0, nilS] := by
       have := Blk.new (W.alloc (.cells #[u32 0,u32 0,u32 0,u32 0,u32 0,u32 0,u64 0,u8 0,nilS] 29)) [u32 0,u32 0,u32 0,u32 0,u32 0,u32 0,u64 0,u8 0,nilS] 29
       simpa using this
     generalize ((W.alloc (.cells #[u32 0,u32 0,u32 0,u32 0,u32 0,u32 0,u64 0,u8 0,nilS] 29)).alloc (.cells #[u32 0,u32 0,u32 0,u32 0,u32 0,u32 0,u64 0,u8 0,nilS] 29)) = W2 at *
     obtain ⟨jA,hjA⟩ : ∃ j,(W.heap.size + 1) = j := ⟨_,rfl⟩
     obtain ⟨jB,hjB⟩ : ∃ j,W.heap.size = j := ⟨_,rfl⟩
     rw [hjA] at l2 ⊢; rw [hjB] at l1 ⊢; have lA := l2; have lB := l1
     simp [hst1,lA.cell 0 _ rfl,lA.cell 1 _ rfl,lA.cell 2 _ rfl,lA.cell 3 _ rfl,lA.cell 4 _ rfl,lA.cell 5 _ rfl,lA.cell 6 _ rfl,lA.cell 7 _ rfl,lA.cell 8 _ rfl,lA.thaw,cell_setCell]
     have S3 : Mod (fun k => k = jA) W2 (((((((((W2.setCell ⟨jA,0,none⟩ (u32 a.lton)).setCell ⟨jA,1,none⟩ (u32 a.ltos)).setCell ⟨jA,2,none⟩ (u32 a.lsvc)).setCell ⟨jA,3,none⟩ (u32 a.lflg)).setCell ⟨jA,4,none⟩ (u32 a.lren)).setCell ⟨jA,5,none⟩ (u32 a.lres)).setCell ⟨jA,6,none⟩ (u64 a.life)).setCell ⟨jA,7,none⟩ (u8 a.lim)).setCell ⟨jA,8,none⟩ (vp)) := (((((((((Mod.refl _ _).setC 0 _).setC 1 _).setC 2 _).setC 3 _).setC 4 _).setC 5 _).setC 6 _).setC 7 _).setC 8 _
     have lA3 : Blk (((((((((W2.setCell ⟨jA,0,none⟩ (u32 a.lton)).setCell ⟨jA,1,none⟩ (u32 a.ltos)).setCell ⟨jA,2,none⟩ (u32 a.lsvc)).setCell ⟨jA,3,none⟩ (u32 a.lflg)).setCell ⟨jA,4,none⟩ (u32 a.lren)).setCell ⟨jA,5,none⟩ (u32 a.lres)).setCell ⟨jA,6,none⟩ (u64 a.life)).setCell ⟨jA,7,none⟩ (u8 a.lim)).setCell ⟨jA,8,none⟩ (vp)) jA [u32 a.lton,u32 a.ltos,u32 a.lsvc,u32 a.lflg,u32 a.lren,u32 a.lres,u64 a.life,u8 a.lim,vp] := (((((((((lA.set 0 (u32 a.lton)).set 1 (u32 a.ltos)).set 2 (u32 a.lsvc)).set 3 (u32 a.lflg)).set 4 (u32 a.lren)).set 5 (u32 a.lres)).set 6 (u64 a.life)).set 7 (u8 a.lim)).set 8 (vp))
     refine KR_mk (Xf_agr (S3.weaken fun k hk => by omega)) ?_
     refine tail _ _ jA jB ?_
     refine ⟨⟨rfl,rfl,rfl,rfl,rfl⟩,(((WE.trans E2).mod (S := fun k => w0.heap.size ≤ k)).trans (S3.weaken fun k hk => by omega)).ext fun _ h => h,lA3,lB.mod S3 (by omega),by omega,by omega,by omega⟩
  case jn =>
  rintro σ W3 j1 j2 ⟨⟨e2,e3,e5,e6,e11⟩,EW,lA,lB,hne,hj1,hj2⟩
  have x3 := x0.ext EW
  have y3 := y0.ext EW
  have n1 : ¬ p = j2 := by omega
  have n2 : ¬ p + 1 = j2 := by omega
  simp [e2,e3,e6,e11,hst2,n1,n2,x3.cell 0 _ rfl,y3.cell 0 _ rfl,lB.cell 0 _ rfl,lB.cell 1 _ rfl,lB.cell 2 _ rfl,lB.cell 3 _ rfl,lB.cell 4 _ rfl,lB.cell 5 _ rfl,lB.cell 6 _ rfl,lB.cell 7 _ rfl,lB.cell 8 _ rfl,lB.thaw,cell_setCell]
  have S4 : Mod (fun k => k = j2) W3 (((((((((W3.setCell ⟨j2,0,none⟩ (u32 b.lton)).setCell ⟨j2,1,none⟩ (u32 b.ltos)).setCell ⟨j2,2,none⟩ (u32 b.lsvc)).setCell ⟨j2,3,none⟩ (u32 b.lflg)).setCell ⟨j2,4,none⟩ (u32 b.lren)).setCell ⟨j2,5,none⟩ (u32 b.lres)).setCell ⟨j2,6,none⟩ (u64 b.life)).setCell ⟨j2,7,none⟩ (u8 b.lim)).setCell ⟨j2,8,none⟩ (vp')) := (((((((((Mod.refl _ _).setC 0 _).setC 1 _).setC 2 _).setC 3 _).setC 4 _).setC 5 _).setC 6 _).setC 7 _).setC 8 _
  have lB4 : Blk (((((((((W3.setCell ⟨j2,0,none⟩ (u32 b.lton)).setCell ⟨j2,1,none⟩ (u32 b.ltos)).setCell ⟨j2,2,none⟩ (u32 b.lsvc)).setCell ⟨j2,3,none⟩ (u32 b.lflg)).setCell ⟨j2,4,none⟩ (u32 b.lren)).setCell ⟨j2,5,none⟩ (u32 b.lres)).setCell ⟨j2,6,none⟩ (u64 b.life)).setCell ⟨j2,7,none⟩ (u8 b.lim)).setCell ⟨j2,8,none⟩ (vp')) j2 [u32 b.lton,u32 b.ltos,u32 b.lsvc,u32 b.lflg,u32 b.lren,u32 b.lres,u64 b.life,u8 b.lim,vp'] := (((((((((lB.set 0 (u32 b.lton)).set 1 (u32 b.ltos)).set 2 (u32 b.lsvc)).set 3 (u32 b.lflg)).set 4 (u32 b.lren)).set 5 (u32 b.lres)).set 6 (u64 b.life)).set 7 (u8 b.lim)).set 8 (vp'))
  have lA4 := lA.mod S4 hne
  have EW4 : Ext w0 (((((((((W3.setCell ⟨j2,0,none⟩ (u32 b.lton)).setCell ⟨j2,1,none⟩ (u32 b.ltos)).setCell ⟨j2,2,none⟩ (u32 b.lsvc)).setCell ⟨j2,3,none⟩ (u32 b.lflg)).setCell ⟨j2,4,none⟩ (u32 b.lren)).setCell ⟨j2,5,none⟩ (u32 b.lres)).setCell ⟨j2,6,none⟩ (u64 b.life)).setCell ⟨j2,7,none⟩ (u8 b.lim)).setCell ⟨j2,8,none⟩ (vp')) := ((EW.mod (S := fun k => w0.heap.size ≤ k)).trans (S4.weaken fun k hk => by omega)).ext fun _ h => h
  generalize (((((((((W3.setCell ⟨j2,0,none⟩ (u32 b.lton)).setCell ⟨j2,1,none⟩ (u32 b.ltos)).setCell ⟨j2,2,none⟩ (u32 b.lsvc)).setCell ⟨j2,3,none⟩ (u32 b.lflg)).setCell ⟨j2,4,none⟩ (u32 b.lren)).setCell ⟨j2,5,none⟩ (u32 b.lres)).setCell ⟨j2,6,none⟩ (u64 b.life)).setCell ⟨j2,7,none⟩ (u8 b.lim)).setCell ⟨j2,8,none⟩ (vp')) = W4 at *
  have x4 := x0.ext EW4
  have y4 := y0.ext EW4
  have hE4 := E0.trans EW4

  have cvA := conv_t (hp.ext hE4) 9 (by simp)
  have cvB := conv_t (hp'.ext hE4) 9 (by simp)
  have lnA := fun ty W => hk.isLen (P := Tryz.prog) (t := 43) (by simp) ty W
  have lnB := fun ty W => hk'.isLen (P := Tryz.prog) (t := 43) (by simp) ty W
  by_cases h0 : a.kind = b.kind
  case neg =>
    simp [h0]
    exact ⟨by simp [sameT,h0],hE4⟩
  by_cases h1 : a.node = b.node
  case neg =>
    simp [e2,e3,x4.cell 1 _ rfl,y4.cell 1 _ rfl,h0,h1]
    exact ⟨by simp [sameT,h1],hE4⟩
  by_cases h2 : a.to' = b.to'
  case neg =>
    simp [e2,e3,x4.cell 1 _ rfl,y4.cell 1 _ rfl,x4.cell 2 _ rfl,y4.cell 2 _ rfl,h0,h1,h2]
    exact ⟨by simp [sameT,h2],hE4⟩
  by_cases h3 : a.n = b.n
  case neg =>
    simp [e2,e3,x4.cell 1 _ rfl,y4.cell 1 _ rfl,x4.cell 2 _ rfl,y4.cell 2 _ rfl,x4.cell 3 _ rfl,y4.cell 3 _ rfl,h0,h1,h2,h3]
    exact ⟨by simp [sameT,h3],hE4⟩
  by_cases h4 : a.yes = b.yes
  case neg =>
    have hy : (a.yes == b.yes) = false := by revert h4; cases a.yes <;> cases b.yes <;> simp
    simp [e2,e3,x4.cell 1 _ rfl,y4.cell 1 _ rfl,x4.cell 2 _ rfl,y4.cell 2 _ rfl,x4.cell 3 _ rfl,y4.cell 3 _ rfl,x4.cell 4 _ rfl,y4.cell 4 _ rfl,h0,h1,h2,h3,hy]
    exact ⟨by simp [sameT,h4],hE4⟩
  by_cases h5 : a.fate = b.fate
  case neg =>
    simp [e2,e3,x4.cell 1 _ rfl,y4.cell 1 _ rfl,x4.cell 2 _ rfl,y4.cell 2 _ rfl,x4.cell 3 _ rfl,y4.cell 3 _ rfl,x4.cell 4 _ rfl,y4.cell 4 _ rfl,x4.cell 5 _ rfl,y4.cell 5 _ rfl,h0,h1,h2,h3,h4,h5]
    exact ⟨by simp [sameT,h5],hE4⟩
  by_cases h6 : a.c = b.c
  case neg =>
    simp [e2,e3,x4.cell 1 _ rfl,y4.cell 1 _ rfl,x4.cell 2 _ rfl,y4.cell 2 _ rfl,x4.cell 3 _ rfl,y4.cell 3 _ rfl,x4.cell 4 _ rfl,y4.cell 4 _ rfl,x4.cell 5 _ rfl,y4.cell 5 _ rfl,x4.cell 15 _ rfl,y4.cell 15 _ rfl,x4.cell 16 _ rfl,y4.cell 16 _ rfl,x4.cell 17 _ rfl,y4.cell 17 _ rfl,x4.cell 18 _ rfl,y4.cell 18 _ rfl,x4.cell 19 _ rfl,y4.cell 19 _ rfl,neqCt,h0,h1,h2,h3,h4,h5,h6]
    exact ⟨by simp [sameT,h6],hE4⟩
  by_cases h7 : a.s = b.s
  case neg =>
    simp [e2,e3,x4.cell 1 _ rfl,y4.cell 1 _ rfl,x4.cell 2 _ rfl,y4.cell 2 _ rfl,x4.cell 3 _ rfl,y4.cell 3 _ rfl,x4.cell 4 _ rfl,y4.cell 4 _ rfl,x4.cell 5 _ rfl,y4.cell 5 _ rfl,x4.cell 15 _ rfl,y4.cell 15 _ rfl,x4.cell 16 _ rfl,y4.cell 16 _ rfl,x4.cell 17 _ rfl,y4.cell 17 _ rfl,x4.cell 18 _ rfl,y4.cell 18 _ rfl,x4.cell 19 _ rfl,y4.cell 19 _ rfl,x4.cell 20 _ rfl,y4.cell 20 _ rfl,x4.cell 21 _ rfl,y4.cell 21 _ rfl,x4.cell 22 _ rfl,y4.cell 22 _ rfl,x4.cell 23 _ rfl,y4.cell 23 _ rfl,neqCt,neqSt,h0,h1,h2,h3,h4,h5,h6,h7]
    exact ⟨by simp [sameT,h7],hE4⟩
  by_cases h8 : a.mn = b.mn ∧ a.mr = b.mr ∧ a.me = b.me ∧ a.mi = b.mi
  case neg =>
    simp [e2,e3,x4.cell 1 _ rfl,y4.cell 1 _ rfl,x4.cell 2 _ rfl,y4.cell 2 _ rfl,x4.cell 3 _ rfl,y4.cell 3 _ rfl,x4.cell 4 _ rfl,y4.cell 4 _ rfl,x4.cell 5 _ rfl,y4.cell 5 _ rfl,x4.cell 15 _ rfl,y4.cell 15 _ rfl,x4.cell 16 _ rfl,y4.cell 16 _ rfl,x4.cell 17 _ rfl,y4.cell 17 _ rfl,x4.cell 18 _ rfl,y4.cell 18 _ rfl,x4.cell 19 _ rfl,y4.cell 19 _ rfl,x4.cell 20 _ rfl,y4.cell 20 _ rfl,x4.cell 21 _ rfl,y4.cell 21 _ rfl,x4.cell 22 _ rfl,y4.cell 22 _ rfl,x4.cell 23 _ rfl,y4.cell 23 _ rfl,x4.cell 24 _ rfl,y4.cell 24 _ rfl,x4.cell 25 _ rfl,y4.cell 25 _ rfl,x4.cell 26 _ rfl,y4.cell 26 _ rfl,x4.cell 27 _ rfl,y4.cell 27 _ rfl,neqCt,neqSt,neqMb,h0,h1,h2,h3,h4,h5,h6,h7,h8]
    exact ⟨by simp [sameT,h8],hE4⟩
  by_cases h9 : a.r = b.r
  case neg =>
    simp [e2,e3,x4.cell 1 _ rfl,y4.cell 1 _ rfl,x4.cell 2 _ rfl,y4.cell 2 _ rfl,x4.cell 3 _ rfl,y4.cell 3 _ rfl,x4.cell 4 _ rfl,y4.cell 4 _ rfl,x4.cell 5 _ rfl,y4.cell 5 _ rfl,x4.cell 15 _ rfl,y4.cell 15 _ rfl,x4.cell 16 _ rfl,y4.cell 16 _ rfl,x4.cell 17 _ rfl,y4.cell 17 _ rfl,x4.cell 18 _ rfl,y4.cell 18 _ rfl,x4.cell 19 _ rfl,y4.cell 19 _ rfl,x4.cell 20 _ rfl,y4.cell 20 _ rfl,x4.cell 21 _ rfl,y4.cell 21 _ rfl,x4.cell 22 _ rfl,y4.cell 22 _ rfl,x4.cell 23 _ rfl,y4.cell 23 _ rfl,x4.cell 24 _ rfl,y4.cell 24 _ rfl,x4.cell 25 _ rfl,y4.cell 25 _ rfl,x4.cell 26 _ rfl,y4.cell 26 _ rfl,x4.cell 27 _ rfl,y4.cell 27 _ rfl,x4.cell 28 _ rfl,y4.cell 28 _ rfl,x4.cell 29 _ rfl,y4.cell 29 _ rfl,x4.cell 30 _ rfl,y4.cell 30 _ rfl,x4.cell 31 _ rfl,y4.cell 31 _ rfl,x4.cell 32 _ rfl,y4.cell 32 _ rfl,x4.cell 33 _ rfl,y4.cell 33 _ rfl,x4.cell 34 _ rfl,y4.cell 34 _ rfl,x4.cell 35 _ rfl,y4.cell 35 _ rfl,x4.cell 36 _ rfl,y4.cell 36 _ rfl,x4.cell 37 _ rfl,y4.cell 37 _ rfl,x4.cell 38 _ rfl,y4.cell 38 _ rfl,x4.cell 39 _ rfl,y4.cell 39 _ rfl,x4.cell 40 _ rfl,y4.cell 40 _ rfl,x4.cell 41 _ rfl,y4.cell 41 _ rfl,x4.cell 42 _ rfl,y4.cell 42 _ rfl,neqCt,neqSt,neqMb,neqRc,h0,h1,h2,h3,h4,h5,h6,h7,h8,h9]
    exact ⟨by simp [sameT,h9],hE4⟩
  by_cases g0 : a.lton = b.lton ∧ a.ltos = b.ltos
  case neg =>
    simp [e2,e3,e5,e6,x4.cell 1 _ rfl,y4.cell 1 _ rfl,x4.cell 2 _ rfl,y4.cell 2 _ rfl,x4.cell 3 _ rfl,y4.cell 3 _ rfl,x4.cell 4 _ rfl,y4.cell 4 _ rfl,x4.cell 5 _ rfl,y4.cell 5 _ rfl,x4.cell 15 _ rfl,y4.cell 15 _ rfl,x4.cell 16 _ rfl,y4.cell 16 _ rfl,x4.cell 17 _ rfl,y4.cell 17 _ rfl,x4.cell 18 _ rfl,y4.cell 18 _ rfl,x4.cell 19 _ rfl,y4.cell 19 _ rfl,x4.cell 20 _ rfl,y4.cell 20 _ rfl,x4.cell 21 _ rfl,y4.cell 21 _ rfl,x4.cell 22 _ rfl,y4.cell 22 _ rfl,x4.cell 23 _ rfl,y4.cell 23 _ rfl,x4.cell 24 _ rfl,y4.cell 24 _ rfl,x4.cell 25 _ rfl,y4.cell 25 _ rfl,x4.cell 26 _ rfl,y4.cell 26 _ rfl,x4.cell 27 _ rfl,y4.cell 27 _ rfl,x4.cell 28 _ rfl,y4.cell 28 _ rfl,x4.cell 29 _ rfl,y4.cell 29 _ rfl,x4.cell 30 _ rfl,y4.cell 30 _ rfl,x4.cell 31 _ rfl,y4.cell 31 _ rfl,x4.cell 32 _ rfl,y4.cell 32 _ rfl,x4.cell 33 _ rfl,y4.cell 33 _ rfl,x4.cell 34 _ rfl,y4.cell 34 _ rfl,x4.cell 35 _ rfl,y4.cell 35 _ rfl,x4.cell 36 _ rfl,y4.cell 36 _ rfl,x4.cell 37 _ rfl,y4.cell 37 _ rfl,x4.cell 38 _ rfl,y4.cell 38 _ rfl,x4.cell 39 _ rfl,y4.cell 39 _ rfl,x4.cell 40 _ rfl,y4.cell 40 _ rfl,x4.cell 41 _ rfl,y4.cell 41 _ rfl,x4.cell 42 _ rfl,y4.cell 42 _ rfl,neqEp,neqCt,neqSt,neqMb,neqRc,h0,h1,h2,h3,h4,h5,h6,h7,h8,h9,lA4.cell 0 _ rfl,lB4.cell 0 _ rfl,lA4.cell 1 _ rfl,lB4.cell 1 _ rfl,g0]
    exact ⟨by simp [sameT,g0],hE4⟩
  by_cases g1 : a.lsvc = b.lsvc
  case neg =>
    simp [e2,e3,e5,e6,x4.cell 1 _ rfl,y4.cell 1 _ rfl,x4.cell 2 _ rfl,y4.cell 2 _ rfl,x4.cell 3 _ rfl,y4.cell 3 _ rfl,x4.cell 4 _ rfl,y4.cell 4 _ rfl,x4.cell 5 _ rfl,y4.cell 5 _ rfl,x4.cell 15 _ rfl,y4.cell 15 _ rfl,x4.cell 16 _ rfl,y4.cell 16 _ rfl,x4.cell 17 _ rfl,y4.cell 17 _ rfl,x4.cell 18 _ rfl,y4.cell 18 _ rfl,x4.cell 19 _ rfl,y4.cell 19 _ rfl,x4.cell 20 _ rfl,y4.cell 20 _ rfl,x4.cell 21 _ rfl,y4.cell 21 _ rfl,x4.cell 22 _ rfl,y4.cell 22 _ rfl,x4.cell 23 _ rfl,y4.cell 23 _ rfl,x4.cell 24 _ rfl,y4.cell 24 _ rfl,x4.cell 25 _ rfl,y4.cell 25 _ rfl,x4.cell 26 _ rfl,y4.cell 26 _ rfl,x4.cell 27 _ rfl,y4.cell 27 _ rfl,x4.cell 28 _ rfl,y4.cell 28 _ rfl,x4.cell 29 _ rfl,y4.cell 29 _ rfl,x4.cell 30 _ rfl,y4.cell 30 _ rfl,x4.cell 31 _ rfl,y4.cell 31 _ rfl,x4.cell 32 _ rfl,y4.cell 32 _ rfl,x4.cell 33 _ rfl,y4.cell 33 _ rfl,x4.cell 34 _ rfl,y4.cell 34 _ rfl,x4.cell 35 _ rfl,y4.cell 35 _ rfl,x4.cell 36 _ rfl,y4.cell 36 _ rfl,x4.cell 37 _ rfl,y4.cell 37 _ rfl,x4.cell 38 _ rfl,y4.cell 38 _ rfl,x4.cell 39 _ rfl,y4.cell 39 _ rfl,x4.cell 40 _ rfl,y4.cell 40 _ rfl,x4.cell 41 _ rfl,y4.cell 41 _ rfl,x4.cell 42 _ rfl,y4.cell 42 _ rfl,neqEp,neqCt,neqSt,neqMb,neqRc,h0,h1,h2,h3,h4,h5,h6,h7,h8,h9,lA4.cell 0 _ rfl,lB4.cell 0 _ rfl,lA4.cell 1 _ rfl,lB4.cell 1 _ rfl,lA4.cell 2 _ rfl,lB4.cell 2 _ rfl,g0,g1]
    exact ⟨by simp [sameT,g1],hE4⟩
  by_cases g2 : a.lflg = b.lflg
  case neg =>
    simp [e2,e3,e5,e6,x4.cell 1 _ rfl,y4.cell 1 _ rfl,x4.cell 2 _ rfl,y4.cell 2 _ rfl,x4.cell 3 _ rfl,y4.cell 3 _ rfl,x4.cell 4 _ rfl,y4.cell 4 _ rfl,x4.cell 5 _ rfl,y4.cell 5 _ rfl,x4.cell 15 _ rfl,y4.cell 15 _ rfl,x4.cell 16 _ rfl,y4.cell 16 _ rfl,x4.cell 17 _ rfl,y4.cell 17 _ rfl,x4.cell 18 _ rfl,y4.cell 18 _ rfl,x4.cell 19 _ rfl,y4.cell 19 _ rfl,x4.cell 20 _ rfl,y4.cell 20 _ rfl,x4.cell 21 _ rfl,y4.cell 21 _ rfl,x4.cell 22 _ rfl,y4.cell 22 _ rfl,x4.cell 23 _ rfl,y4.cell 23 _ rfl,x4.cell 24 _ rfl,y4.cell 24 _ rfl,x4.cell 25 _ rfl,y4.cell 25 _ rfl,x4.cell 26 _ rfl,y4.cell 26 _ rfl,x4.cell 27 _ rfl,y4.cell 27 _ rfl,x4.cell 28 _ rfl,y4.cell 28 _ rfl,x4.cell 29 _ rfl,y4.cell 29 _ rfl,x4.cell 30 _ rfl,y4.cell 30 _ rfl,x4.cell 31 _ rfl,y4.cell 31 _ rfl,x4.cell 32 _ rfl,y4.cell 32 _ rfl,x4.cell 33 _ rfl,y4.cell 33 _ rfl,x4.cell 34 _ rfl,y4.cell 34 _ rfl,x4.cell 35 _ rfl,y4.cell 35 _ rfl,x4.cell 36 _ rfl,y4.cell 36 _ rfl,x4.cell 37 _ rfl,y4.cell 37 _ rfl,x4.cell 38 _ rfl,y4.cell 38 _ rfl,x4.cell 39 _ rfl,y4.cell 39 _ rfl,x4.cell 40 _ rfl,y4.cell 40 _ rfl,x4.cell 41 _ rfl,y4.cell 41 _ rfl,x4.cell 42 _ rfl,y4.cell 42 _ rfl,neqEp,neqCt,neqSt,neqMb,neqRc,h0,h1,h2,h3,h4,h5,h6,h7,h8,h9,lA4.cell 0 _ rfl,lB4.cell 0 _ rfl,lA4.cell 1 _ rfl,lB4.cell 1 _ rfl,lA4.cell 2 _ rfl,lB4.cell 2 _ rfl,lA4.cell 3 _ rfl,lB4.cell 3 _ rfl,g0,g1,g2]
    exact ⟨by simp [sameT,g2],hE4⟩
  by_cases g3 : a.lren = b.lren ∧ a.lres = b.lres
  case neg =>
    simp [e2,e3,e5,e6,x4.cell 1 _ rfl,y4.cell 1 _ rfl,x4.cell 2 _ rfl,y4.cell 2 _ rfl,x4.cell 3 _ rfl,y4.cell 3 _ rfl,x4.cell 4 _ rfl,y4.cell 4 _ rfl,x4.cell 5 _ rfl,y4.cell 5 _ rfl,x4.cell 15 _ rfl,y4.cell 15 _ rfl,x4.cell 16 _ rfl,y4.cell 16 _ rfl,x4.cell 17 _ rfl,y4.cell 17 _ rfl,x4.cell 18 _ rfl,y4.cell 18 _ rfl,x4.cell 19 _ rfl,y4.cell 19 _ rfl,x4.cell 20 _ rfl,y4.cell 20 _ rfl,x4.cell 21 _ rfl,y4.cell 21 _ rfl,x4.cell 22 _ rfl,y4.cell 22 _ rfl,x4.cell 23 _ rfl,y4.cell 23 _ rfl,x4.cell 24 _ rfl,y4.cell 24 _ rfl,x4.cell 25 _ rfl,y4.cell 25 _ rfl,x4.cell 26 _ rfl,y4.cell 26 _ rfl,x4.cell 27 _ rfl,y4.cell 27 _ rfl,x4.cell 28 _ rfl,y4.cell 28 _ rfl,x4.cell 29 _ rfl,y4.cell 29 _ rfl,x4.cell 30 _ rfl,y4.cell 30 _ rfl,x4.cell 31 _ rfl,y4.cell 31 _ rfl,x4.cell 32 _ rfl,y4.cell 32 _ rfl,x4.cell 33 _ rfl,y4.cell 33 _ rfl,x4.cell 34 _ rfl,y4.cell 34 _ rfl,x4.cell 35 _ rfl,y4.cell 35 _ rfl,x4.cell 36 _ rfl,y4.cell 36 _ rfl,x4.cell 37 _ rfl,y4.cell 37 _ rfl,x4.cell 38 _ rfl,y4.cell 38 _ rfl,x4.cell 39 _ rfl,y4.cell 39 _ rfl,x4.cell 40 _ rfl,y4.cell 40 _ rfl,x4.cell 41 _ rfl,y4.cell 41 _ rfl,x4.cell 42 _ rfl,y4.cell 42 _ rfl,neqEp,neqCt,neqSt,neqMb,neqRc,h0,h1,h2,h3,h4,h5,h6,h7,h8,h9,lA4.cell 0 _ rfl,lB4.cell 0 _ rfl,lA4.cell 1 _ rfl,lB4.cell 1 _ rfl,lA4.cell 2 _ rfl,lB4.cell 2 _ rfl,lA4.cell 3 _ rfl,lB4.cell 3 _ rfl,lA4.cell 4 _ rfl,lB4.cell 4 _ rfl,lA4.cell 5 _ rfl,lB4.cell 5 _ rfl,g0,g1,g2,g3]
    exact ⟨by simp [sameT,g3],hE4⟩
  by_cases g4 : a.life = b.life
  case neg =>
    simp [e2,e3,e5,e6,x4.cell 1 _ rfl,y4.cell 1 _ rfl,x4.cell 2 _ rfl,y4.cell 2 _ rfl,x4.cell 3 _ rfl,y4.cell 3 _ rfl,x4.cell 4 _ rfl,y4.cell 4 _ rfl,x4.cell 5 _ rfl,y4.cell 5 _ rfl,x4.cell 15 _ rfl,y4.cell 15 _ rfl,x4.cell 16 _ rfl,y4.cell 16 _ rfl,x4.cell 17 _ rfl,y4.cell 17 _ rfl,x4.cell 18 _ rfl,y4.cell 18 _ rfl,x4.cell 19 _ rfl,y4.cell 19 _ rfl,x4.cell 20 _ rfl,y4.cell 20 _ rfl,x4.cell 21 _ rfl,y4.cell 21 _ rfl,x4.cell 22 _ rfl,y4.cell 22 _ rfl,x4.cell 23 _ rfl,y4.cell 23 _ rfl,x4.cell 24 _ rfl,y4.cell 24 _ rfl,x4.cell 25 _ rfl,y4.cell 25 _ rfl,x4.cell 26 _ rfl,y4.cell 26 _ rfl,x4.cell 27 _ rfl,y4.cell 27 _ rfl,x4.cell 28 _ rfl,y4.cell 28 _ rfl,x4.cell 29 _ rfl,y4.cell 29 _ rfl,x4.cell 30 _ rfl,y4.cell 30 _ rfl,x4.cell 31 _ rfl,y4.cell 31 _ rfl,x4.cell 32 _ rfl,y4.cell 32 _ rfl,x4.cell 33 _ rfl,y4.cell 33 _ rfl,x4.cell 34 _ rfl,y4.cell 34 _ rfl,x4.cell 35 _ rfl,y4.cell 35 _ rfl,x4.cell 36 _ rfl,y4.cell 36 _ rfl,x4.cell 37 _ rfl,y4.cell 37 _ rfl,x4.cell 38 _ rfl,y4.cell 38 _ rfl,x4.cell 39 _ rfl,y4.cell 39 _ rfl,x4.cell 40 _ rfl,y4.cell 40 _ rfl,x4.cell 41 _ rfl,y4.cell 41 _ rfl,x4.cell 42 _ rfl,y4.cell 42 _ rfl,neqEp,neqCt,neqSt,neqMb,neqRc,h0,h1,h2,h3,h4,h5,h6,h7,h8,h9,lA4.cell 0 _ rfl,lB4.cell 0 _ rfl,lA4.cell 1 _ rfl,lB4.cell 1 _ rfl,lA4.cell 2 _ rfl,lB4.cell 2 _ rfl,lA4.cell 3 _ rfl,lB4.cell 3 _ rfl,lA4.cell 4 _ rfl,lB4.cell 4 _ rfl,lA4.cell 5 _ rfl,lB4.cell 5 _ rfl,lA4.cell 6 _ rfl,lB4.cell 6 _ rfl,g0,g1,g2,g3,g4]
    exact ⟨by simp [sameT,g4],hE4⟩
  by_cases g5 : a.lim = b.lim
  case neg =>
    simp [e2,e3,e5,e6,x4.cell 1 _ rfl,y4.cell 1 _ rfl,x4.cell 2 _ rfl,y4.cell 2 _ rfl,x4.cell 3 _ rfl,y4.cell 3 _ rfl,x4.cell 4 _ rfl,y4.cell 4 _ rfl,x4.cell 5 _ rfl,y4.cell 5 _ rfl,x4.cell 15 _ rfl,y4.cell 15 _ rfl,x4.cell 16 _ rfl,y4.cell 16 _ rfl,x4.cell 17 _ rfl,y4.cell 17 _ rfl,x4.cell 18 _ rfl,y4.cell 18 _ rfl,x4.cell 19 _ rfl,y4.cell 19 _ rfl,x4.cell 20 _ rfl,y4.cell 20 _ rfl,x4.cell 21 _ rfl,y4.cell 21 _ rfl,x4.cell 22 _ rfl,y4.cell 22 _ rfl,x4.cell 23 _ rfl,y4.cell 23 _ rfl,x4.cell 24 _ rfl,y4.cell 24 _ rfl,x4.cell 25 _ rfl,y4.cell 25 _ rfl,x4.cell 26 _ rfl,y4.cell 26 _ rfl,x4.cell 27 _ rfl,y4.cell 27 _ rfl,x4.cell 28 _ rfl,y4.cell 28 _ rfl,x4.cell 29 _ rfl,y4.cell 29 _ rfl,x4.cell 30 _ rfl,y4.cell 30 _ rfl,x4.cell 31 _ rfl,y4.cell 31 _ rfl,x4.cell 32 _ rfl,y4.cell 32 _ rfl,x4.cell 33 _ rfl,y4.cell 33 _ rfl,x4.cell 34 _ rfl,y4.cell 34 _ rfl,x4.cell 35 _ rfl,y4.cell 35 _ rfl,x4.cell 36 _ rfl,y4.cell 36 _ rfl,x4.cell 37 _ rfl,y4.cell 37 _ rfl,x4.cell 38 _ rfl,y4.cell 38 _ rfl,x4.cell 39 _ rfl,y4.cell 39 _ rfl,x4.cell 40 _ rfl,y4.cell 40 _ rfl,x4.cell 41 _ rfl,y4.cell 41 _ rfl,x4.cell 42 _ rfl,y4.cell 42 _ rfl,neqEp,neqCt,neqSt,neqMb,neqRc,h0,h1,h2,h3,h4,h5,h6,h7,h8,h9,lA4.cell 0 _ rfl,lB4.cell 0 _ rfl,lA4.cell 1 _ rfl,lB4.cell 1 _ rfl,lA4.cell 2 _ rfl,lB4.cell 2 _ rfl,lA4.cell 3 _ rfl,lB4.cell 3 _ rfl,lA4.cell 4 _ rfl,lB4.cell 4 _ rfl,lA4.cell 5 _ rfl,lB4.cell 5 _ rfl,lA4.cell 6 _ rfl,lB4.cell 6 _ rfl,lA4.cell 7 _ rfl,lB4.cell 7 _ rfl,g0,g1,g2,g3,g4,g5]
    exact ⟨by simp [sameT,g5],hE4⟩
  by_cases g6 : a.pay = b.pay
  case neg =>
    have hy : (a.pay == b.pay) = false := by simpa using g6
    simp [e2,e3,e5,e6,x4.cell 1 _ rfl,y4.cell 1 _ rfl,x4.cell 2 _ rfl,y4.cell 2 _ rfl,x4.cell 3 _ rfl,y4.cell 3 _ rfl,x4.cell 4 _ rfl,y4.cell 4 _ rfl,x4.cell 5 _ rfl,y4.cell 5 _ rfl,x4.cell 15 _ rfl,y4.cell 15 _ rfl,x4.cell 16 _ rfl,y4.cell 16 _ rfl,x4.cell 17 _ rfl,y4.cell 17 _ rfl,x4.cell 18 _ rfl,y4.cell 18 _ rfl,x4.cell 19 _ rfl,y4.cell 19 _ rfl,x4.cell 20 _ rfl,y4.cell 20 _ rfl,x4.cell 21 _ rfl,y4.cell 21 _ rfl,x4.cell 22 _ rfl,y4.cell 22 _ rfl,x4.cell 23 _ rfl,y4.cell 23 _ rfl,x4.cell 24 _ rfl,y4.cell 24 _ rfl,x4.cell 25 _ rfl,y4.cell 25 _ rfl,x4.cell 26 _ rfl,y4.cell 26 _ rfl,x4.cell 27 _ rfl,y4.cell 27 _ rfl,x4.cell 28 _ rfl,y4.cell 28 _ rfl,x4.cell 29 _ rfl,y4.cell 29 _ rfl,x4.cell 30 _ rfl,y4.cell 30 _ rfl,x4.cell 31 _ rfl,y4.cell 31 _ rfl,x4.cell 32 _ rfl,y4.cell 32 _ rfl,x4.cell 33 _ rfl,y4.cell 33 _ rfl,x4.cell 34 _ rfl,y4.cell 34 _ rfl,x4.cell 35 _ rfl,y4.cell 35 _ rfl,x4.cell 36 _ rfl,y4.cell 36 _ rfl,x4.cell 37 _ rfl,y4.cell 37 _ rfl,x4.cell 38 _ rfl,y4.cell 38 _ rfl,x4.cell 39 _ rfl,y4.cell 39 _ rfl,x4.cell 40 _ rfl,y4.cell 40 _ rfl,x4.cell 41 _ rfl,y4.cell 41 _ rfl,x4.cell 42 _ rfl,y4.cell 42 _ rfl,neqEp,neqCt,neqSt,neqMb,neqRc,h0,h1,h2,h3,h4,h5,h6,h7,h8,h9,lA4.cell 0 _ rfl,lB4.cell 0 _ rfl,lA4.cell 1 _ rfl,lB4.cell 1 _ rfl,lA4.cell 2 _ rfl,lB4.cell 2 _ rfl,lA4.cell 3 _ rfl,lB4.cell 3 _ rfl,lA4.cell 4 _ rfl,lB4.cell 4 _ rfl,lA4.cell 5 _ rfl,lB4.cell 5 _ rfl,lA4.cell 6 _ rfl,lB4.cell 6 _ rfl,lA4.cell 7 _ rfl,lB4.cell 7 _ rfl,lA4.cell 8 _ rfl,lB4.cell 8 _ rfl,cvA,cvB,g0,g1,g2,g3,g4,g5,hy]
    exact ⟨by simp [sameT,g6],hE4⟩
  by_cases g7 : a.keep.length = b.keep.length
  case neg =>
    have hkn : a.keep ≠ b.keep := fun e => g7 (by rw [e])
    have hy : ¬ ((a.keep.length : Int) = b.keep.length) := by omega
    simp [e2,e3,e5,e6,x4.cell 1 _ rfl,y4.cell 1 _ rfl,x4.cell 2 _ rfl,y4.cell 2 _ rfl,x4.cell 3 _ rfl,y4.cell 3 _ rfl,x4.cell 4 _ rfl,y4.cell 4 _ rfl,x4.cell 5 _ rfl,y4.cell 5 _ rfl,x4.cell 15 _ rfl,y4.cell 15 _ rfl,x4.cell 16 _ rfl,y4.cell 16 _ rfl,x4.cell 17 _ rfl,y4.cell 17 _ rfl,x4.cell 18 _ rfl,y4.cell 18 _ rfl,x4.cell 19 _ rfl,y4.cell 19 _ rfl,x4.cell 20 _ rfl,y4.cell 20 _ rfl,x4.cell 21 _ rfl,y4.cell 21 _ rfl,x4.cell 22 _ rfl,y4.cell 22 _ rfl,x4.cell 23 _ rfl,y4.cell 23 _ rfl,x4.cell 24 _ rfl,y4.cell 24 _ rfl,x4.cell 25 _ rfl,y4.cell 25 _ rfl,x4.cell 26 _ rfl,y4.cell 26 _ rfl,x4.cell 27 _ rfl,y4.cell 27 _ rfl,x4.cell 28 _ rfl,y4.cell 28 _ rfl,x4.cell 29 _ rfl,y4.cell 29 _ rfl,x4.cell 30 _ rfl,y4.cell 30 _ rfl,x4.cell 31 _ rfl,y4.cell 31 _ rfl,x4.cell 32 _ rfl,y4.cell 32 _ rfl,x4.cell 33 _ rfl,y4.cell 33 _ rfl,x4.cell 34 _ rfl,y4.cell 34 _ rfl,x4.cell 35 _ rfl,y4.cell 35 _ rfl,x4.cell 36 _ rfl,y4.cell 36 _ rfl,x4.cell 37 _ rfl,y4.cell 37 _ rfl,x4.cell 38 _ rfl,y4.cell 38 _ rfl,x4.cell 39 _ rfl,y4.cell 39 _ rfl,x4.cell 40 _ rfl,y4.cell 40 _ rfl,x4.cell 41 _ rfl,y4.cell 41 _ rfl,x4.cell 42 _ rfl,y4.cell 42 _ rfl,neqEp,neqCt,neqSt,neqMb,neqRc,h0,h1,h2,h3,h4,h5,h6,h7,h8,h9,lA4.cell 0 _ rfl,lB4.cell 0 _ rfl,lA4.cell 1 _ rfl,lB4.cell 1 _ rfl,lA4.cell 2 _ rfl,lB4.cell 2 _ rfl,lA4.cell 3 _ rfl,lB4.cell 3 _ rfl,lA4.cell 4 _ rfl,lB4.cell 4 _ rfl,lA4.cell 5 _ rfl,lB4.cell 5 _ rfl,lA4.cell 6 _ rfl,lB4.cell 6 _ rfl,lA4.cell 7 _ rfl,lB4.cell 7 _ rfl,lA4.cell 8 _ rfl,lB4.cell 8 _ rfl,x4.cell 43 _ rfl,y4.cell 43 _ rfl,cvA,cvB,lnA,lnB,g0,g1,g2,g3,g4,g5,g6,hy]
    exact ⟨by simp [sameT,hkn],hE4⟩
  simp [e2,e3,e5,e6,x4.cell 1 _ rfl,y4.cell 1 _ rfl,x4.cell 2 _ rfl,y4.cell 2 _ rfl,x4.cell 3 _ rfl,y4.cell 3 _ rfl,x4.cell 4 _ rfl,y4.cell 4 _ rfl,x4.cell 5 _ rfl,y4.cell 5 _ rfl,x4.cell 15 _ rfl,y4.cell 15 _ rfl,x4.cell 16 _ rfl,y4.cell 16 _ rfl,x4.cell 17 _ rfl,y4.cell 17 _ rfl,x4.cell 18 _ rfl,y4.cell 18 _ rfl,x4.cell 19 _ rfl,y4.cell 19 _ rfl,x4.cell 20 _ rfl,y4.cell 20 _ rfl,x4.cell 21 _ rfl,y4.cell 21 _ rfl,x4.cell 22 _ rfl,y4.cell 22 _ rfl,x4.cell 23 _ rfl,y4.cell 23 _ rfl,x4.cell 24 _ rfl,y4.cell 24 _ rfl,x4.cell 25 _ rfl,y4.cell 25 _ rfl,x4.cell 26 _ rfl,y4.cell 26 _ rfl,x4.cell 27 _ rfl,y4.cell 27 _ rfl,x4.cell 28 _ rfl,y4.cell 28 _ rfl,x4.cell 29 _ rfl,y4.cell 29 _ rfl,x4.cell 30 _ rfl,y4.cell 30 _ rfl,x4.cell 31 _ rfl,y4.cell 31 _ rfl,x4.cell 32 _ rfl,y4.cell 32 _ rfl,x4.cell 33 _ rfl,y4.cell 33 _ rfl,x4.cell 34 _ rfl,y4.cell 34 _ rfl,x4.cell 35 _ rfl,y4.cell 35 _ rfl,x4.cell 36 _ rfl,y4.cell 36 _ rfl,x4.cell 37 _ rfl,y4.cell 37 _ rfl,x4.cell 38 _ rfl,y4.cell 38 _ rfl,x4.cell 39 _ rfl,y4.cell 39 _ rfl,x4.cell 40 _ rfl,y4.cell 40 _ rfl,x4.cell 41 _ rfl,y4.cell 41 _ rfl,x4.cell 42 _ rfl,y4.cell 42 _ rfl,neqEp,neqCt,neqSt,neqMb,neqRc,h0,h1,h2,h3,h4,h5,h6,h7,h8,h9,lA4.cell 0 _ rfl,lB4.cell 0 _ rfl,lA4.cell 1 _ rfl,lB4.cell 1 _ rfl,lA4.cell 2 _ rfl,lB4.cell 2 _ rfl,lA4.cell 3 _ rfl,lB4.cell 3 _ rfl,lA4.cell 4 _ rfl,lB4.cell 4 _ rfl,lA4.cell 5 _ rfl,lB4.cell 5 _ rfl,lA4.cell 6 _ rfl,lB4.cell 6 _ rfl,lA4.cell 7 _ rfl,lB4.cell 7 _ rfl,lA4.cell 8 _ rfl,lB4.cell 8 _ rfl,x4.cell 43 _ rfl,y4.cell 43 _ rfl,cvA,cvB,lnA,lnB,g0,g1,g2,g3,g4,g5,g6,g7]
  refine WC_loop (fun m ρ ds w' => ∃ i : Nat,m = b.keep.length - i ∧ i ≤ b.keep.length ∧ ρ 2 = ptr p ∧ ρ 3 = ptr (p + 1) ∧ ρ 7 = i64 i ∧ ds = [] ∧ Ext W4 w' ∧ a.keep.take i = b.keep.take i) b.keep.length ⟨0,by simp,by simp,by simp [e2],by simp [e3],by simp,rfl,Ext.refl _,rfl⟩ ?_
  rintro m ρ ds W5 ⟨i,rfl,hi,f2,f3,f7,rfl,hE5,ht⟩
  have x5 := x4.ext hE5
  have y5 := y4.ext hE5
  have ln := fun ty W => hk.isLen (P := Tryz.prog) (t := 43) (by simp) ty W
  by_cases hlt : i < b.keep.length
  · have hlt' : i < a.keep.length := by omega
    have hlt2 : (i : Int) < (a.keep.length : Int) := by omega
    simp [f2,f7,x5.cell 43 _ rfl,ln,hlt']
    refine WC_drawQ 10 rfl (by kernel_rfl) ?_
    have hd := hE5.trans (Ext.drew W5)
    have xd := x4.ext hd
    have yd := y4.ext hd
    have s1 := hk.ext (hE4.trans hd)
    have s2 := hk'.ext (hE4.trans hd)
    have i1 := s1.index (P := Tryz.prog) (t := 43) (by simp) .i64 i (by omega) (by omega) W5.drew
    have i2 := s2.index (P := Tryz.prog) (t := 43) (by simp) .i64 i (by omega) (by omega) W5.drew
    have a1 := s1.at_ i (.bool a.keep[i]) (by simp [hlt'])
    have a2 := s2.at_ i (.bool b.keep[i]) (by simp [hlt])
    simp at i1 i2
    have t1 : a.keep.take (i + 1) = a.keep.take i ++ [a.keep[i]] := by rw [List.take_add_one,List.getElem?_eq_getElem hlt']; rfl
    have t2 : b.keep.take (i + 1) = b.keep.take i ++ [b.keep[i]] := by rw [List.take_add_one,List.getElem?_eq_getElem hlt]; rfl
    have wi : IntKind.i64.wrap ((i : Int) + 1) = i + 1 := wrap64 _ (by omega) (by omega)
    by_cases he : a.keep[i] = b.keep[i]
    · simp [f2,f3,f7,xd.cell 43 _ rfl,yd.cell 43 _ rfl,i1,i2,a1,a2,he,wi]
      exact ⟨b.keep.length - (i + 1),by omega,i + 1,rfl,by omega,by omega,hd,by rw [t1,t2,ht,he]⟩
    · have hn : (a.keep[i] == b.keep[i]) = false := by revert he; cases a.keep[i] <;> cases b.keep[i] <;> simp
      simp [f2,f3,f7,xd.cell 43 _ rfl,yd.cell 43 _ rfl,i1,i2,a1,a2,hn]
      have hkn : a.keep ≠ b.keep := fun e => he (by simp [e])
      exact ⟨by simp [sameT,hkn],hE4.trans hd⟩
  · have hi' : i = b.keep.length := by omega
    have hlt2 : ¬ i < a.keep.length := by omega
    simp [f2,f7,x5.cell 43 _ rfl,ln,hlt2]
    rw [hi',List.take_length,← g7,List.take_length] at ht
    exact ⟨by simp [sameT,h0,h1,h2,h3,h4,h5,h6,h7,h8,h9,g0,g1,g2,g3,g4,g5,g6,ht],hE4.trans hE5⟩
end Go.Proofs
