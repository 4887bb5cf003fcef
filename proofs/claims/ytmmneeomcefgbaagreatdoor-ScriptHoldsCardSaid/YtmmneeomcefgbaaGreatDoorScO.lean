/-
 Contracts of the functions that the law reaches,step by step.
-/
import Derived.Test.YtmmneeomcefgbaaGreatDoorScN
namespace Go.Proofs
open Pk
set_option maxRecDepth 100000
attribute [local simp] beq_dec bne_dec
theorem eqby_c {w : World} {v v' : Value} {b b' : List UInt8} (h : SlB w 1 v b.length (b.map encB)) (h' : SlB w 1 v' b'.length (b'.map encB)) (hb : b'.length ≤ 9223372036854775807) :
  FN Tryz.prog 37 [v,v'] w fun e w' => e = .returned (.bool (decide (b = b'))) ∧ Ext w w' := by
 refine FN_enter Tryz.func37 rfl rfl (by kernel_rfl) ?_
 have l1 := fun ty W => h.isLen (P := Tryz.prog) (t := 27) (by simp) ty W
 have l2 := fun ty W => h'.isLen (P := Tryz.prog) (t := 27) (by simp) ty W
 by_cases hl : b.length = b'.length
 ·simp [l1,l2,hl]
  rw [← hl]
  refine WC_loop (fun k ρ ds w' => ∃ i : Nat,k = b.length - i ∧ i ≤ b.length ∧ ρ 0 = v ∧ ρ 1 = v' ∧ ρ 12 = i64 b.length ∧ ρ 13 = i64 i ∧ ds = [] ∧ Ext w w' ∧ b.take i = b'.take i) b.length ⟨0,by simp,by simp,by simp,by simp,by simp,by simp,rfl,Ext.refl _,rfl⟩ ?_
  rintro k ρ ds w1 ⟨i,rfl,hi,e0,e1,e12,e13,rfl,hE,ht⟩
  by_cases hlt : i < b.length
  ·have hlt' : i < b'.length := by omega
   simp [e12,e13,hlt]
   refine WC_drawQ 8 rfl (by kernel_rfl) ?_
   have hd := hE.trans (Ext.drew w1)
   have s1 := h.ext hd
   have s2 := h'.ext hd
   have i1 := s1.index (P := Tryz.prog) (t := 27) (by simp) .i64 i (by omega) (by omega) w1.drew
   have i2 := s2.index (P := Tryz.prog) (t := 27) (by simp) .i64 i (by omega) (by omega) w1.drew
   have a1 := s1.at_ i (encB b[i]) (by simp [hlt])
   have a2 := s2.at_ i (encB b'[i]) (by simp [hlt'])
   simp at i1 i2
   have t1 : b.take (i + 1) = b.take i ++ [b[i]] := by rw [List.take_add_one,List.getElem?_eq_getElem hlt]; rfl
   have t2 : b'.take (i + 1) = b'.take i ++ [b'[i]] := by rw [List.take_add_one,List.getElem?_eq_getElem hlt']; rfl
   by_cases he : b[i] = b'[i]
   ·simp [e0,e1,e12,e13,i1,i2,a1,a2,he]
    exact ⟨b.length - (i + 1),by omega,i + 1,rfl,by omega,by rw [wrap64 _ (by omega) (by omega)]; rfl,hd,by rw [t1,t2,ht,he]⟩
   ·have hn : ¬ (b[i].toNat : Int) = b'[i].toNat := u8ne he
    simp [e0,e1,i1,i2,a1,a2,hn]
    refine ⟨fun h => he ?_,hd⟩
    simp [h]
  ·have : i = b.length := by omega
   subst this
   simp [e12,e13]
   rw [List.take_length,hl,List.take_length] at ht
   exact ⟨ht,hE⟩
 ·have hn : ¬ b = b' := fun e => hl (by rw [e])
  have hl2 : ¬ ((b.length : Int) = (b'.length : Int)) := by omega
  simp [l1,l2,hl2,hn]
  exact Ext.refl w
theorem eqbo_c {w : World} {v v' : Value} {b b' : List Bool} (h : SlB w 1 v b.length (b.map Value.bool)) (h' : SlB w 1 v' b'.length (b'.map Value.bool)) (hb : b'.length ≤ 9223372036854775807) :
  FN Tryz.prog 38 [v,v'] w fun e w' => e = .returned (.bool (decide (b = b'))) ∧ Ext w w' := by
 refine FN_enter Tryz.func38 rfl rfl (by kernel_rfl) ?_
 have l1 := fun ty W => h.isLen (P := Tryz.prog) (t := 43) (by simp) ty W
 have l2 := fun ty W => h'.isLen (P := Tryz.prog) (t := 43) (by simp) ty W
 by_cases hl : b.length = b'.length
 ·simp [l1,l2,hl]
  rw [← hl]
  refine WC_loop (fun k ρ ds w' => ∃ i : Nat,k = b.length - i ∧ i ≤ b.length ∧ ρ 0 = v ∧ ρ 1 = v' ∧ ρ 12 = i64 b.length ∧ ρ 13 = i64 i ∧ ds = [] ∧ Ext w w' ∧ b.take i = b'.take i) b.length ⟨0,by simp,by simp,by simp,by simp,by simp,by simp,rfl,Ext.refl _,rfl⟩ ?_
  rintro k ρ ds w1 ⟨i,rfl,hi,e0,e1,e12,e13,rfl,hE,ht⟩
  by_cases hlt : i < b.length
  ·have hlt' : i < b'.length := by omega
   simp [e12,e13,hlt]
   refine WC_drawQ 8 rfl (by kernel_rfl) ?_
   have hd := hE.trans (Ext.drew w1)
   have s1 := h.ext hd
   have s2 := h'.ext hd
   have i1 := s1.index (P := Tryz.prog) (t := 43) (by simp) .i64 i (by omega) (by omega) w1.drew
   have i2 := s2.index (P := Tryz.prog) (t := 43) (by simp) .i64 i (by omega) (by omega) w1.drew
   have a1 := s1.at_ i (Value.bool b[i]) (by simp [hlt])
   have a2 := s2.at_ i (Value.bool b'[i]) (by simp [hlt'])
   simp at i1 i2
   have t1 : b.take (i + 1) = b.take i ++ [b[i]] := by rw [List.take_add_one,List.getElem?_eq_getElem hlt]; rfl
   have t2 : b'.take (i + 1) = b'.take i ++ [b'[i]] := by rw [List.take_add_one,List.getElem?_eq_getElem hlt']; rfl
   by_cases he : b[i] = b'[i]
   ·simp [e0,e1,e12,e13,i1,i2,a1,a2,he]
    exact ⟨b.length - (i + 1),by omega,i + 1,rfl,by omega,by rw [wrap64 _ (by omega) (by omega)]; rfl,hd,by rw [t1,t2,ht,he]⟩
   ·have hn : (b[i] == b'[i]) = false ∧ decide (b[i] = b'[i]) = false := (fun h => ⟨by revert h; cases b[i] <;> cases b'[i] <;> simp,decide_eq_false h⟩) he
    simp [e0,e1,i1,i2,a1,a2,hn]
    refine ⟨fun h => he ?_,hd⟩
    simp [h]
  ·have : i = b.length := by omega
   subst this
   simp [e12,e13]
   rw [List.take_length,hl,List.take_length] at ht
   exact ⟨ht,hE⟩
 ·have hn : ¬ b = b' := fun e => hl (by rw [e])
  have hl2 : ¬ ((b.length : Int) = (b'.length : Int)) := by omega
  simp [l1,l2,hl2,hn]
  exact Ext.refl w
theorem eqcs_dec {a b : List Value} {p : Prop} [Decidable p] (h : eqcs a b = true ↔ p) : eqcs a b = decide p := by rw [Bool.eq_iff_iff,h]; simp
instance : DecidableEq Ctc := fun a b => decidable_of_iff (a.fr = b.fr ∧ a.to' = b.to' ∧ a.sf = b.sf ∧ a.su = b.su ∧ a.rate = b.rate) (by cases a; cases b; simp)
instance : DecidableEq Stp := fun a b => decidable_of_iff (a.fr = b.fr ∧ a.to' = b.to' ∧ a.at' = b.at' ∧ a.tk = b.tk) (by cases a; cases b; simp)
theorem fCt : flatA Tryz.prog 33 = some [.int .u32,.int .u32,.int .u64,.int .u64,.int .u64] := by kernel_rfl
theorem fSt : flatA Tryz.prog 35 = some [.int .u32,.int .u32,.int .u64,.int .u64] := by kernel_rfl
theorem fMb : flatA Tryz.prog 37 = some [.int .u32,.int .u32,.int .u32,.bool] := by kernel_rfl
theorem fEp : flatA Tryz.prog 26 = some [.int .u32,.int .u32] := by kernel_rfl
theorem fA3 : flatA Tryz.prog 108 = some [.int .u32,.int .u32,.int .u32] := by kernel_rfl
theorem fRc : flatA Tryz.prog 42 = some [.int .i64,.int .u32,.int .u32,.int .u64,.int .u32,.int .i64,.int .i64,.int .u64,.int .u64,.int .u32,.int .u32,.bool,.int .u64,.int .u64,.int .u8] := by kernel_rfl
abbrev ctV (c : Ctc) : Value := .agg #[u32 c.fr,u32 c.to',u64 c.sf,u64 c.su,u64 c.rate]
abbrev stV (c : Stp) : Value := .agg #[u32 c.fr,u32 c.to',u64 c.at',u64 c.tk]
abbrev mbV (a b c : Int) (d : Bool) : Value := .agg #[u32 a,u32 b,u32 c,.bool d]
abbrev a3V (a b c : Int) : Value := .agg #[u32 a,u32 b,u32 c]
abbrev epV (a b : Int) : Value := .agg #[u32 a,u32 b]
theorem eqCt (a b : Ctc) (w : World) : (binOp .eql 33 (ctV a) (ctV b)).run Tryz.prog w = .ok (.bool (decide (a = b))) w := by
 rw [← eqcs_dec (a := [u32 a.fr,u32 a.to',u64 a.sf,u64 a.su,u64 a.rate]) (b := [u32 b.fr,u32 b.to',u64 b.sf,u64 b.su,u64 b.rate]) (by cases a; cases b; simp [eqcs,eqc])]
 exact run_eql_flat w fCt _ _ rfl rfl
theorem eqSt (a b : Stp) (w : World) : (binOp .eql 35 (stV a) (stV b)).run Tryz.prog w = .ok (.bool (decide (a = b))) w := by
 rw [← eqcs_dec (a := [u32 a.fr,u32 a.to',u64 a.at',u64 a.tk]) (b := [u32 b.fr,u32 b.to',u64 b.at',u64 b.tk]) (by cases a; cases b; simp [eqcs,eqc])]
 exact run_eql_flat w fSt _ _ rfl rfl
theorem eqMb (a b c : Int) (d : Bool) (a' b' c' : Int) (d' : Bool) (w : World) : (binOp .eql 37 (mbV a b c d) (mbV a' b' c' d')).run Tryz.prog w = .ok (.bool (decide (a = a' ∧ b = b' ∧ c = c' ∧ d = d'))) w := by
 rw [← eqcs_dec (a := [u32 a,u32 b,u32 c,.bool d]) (b := [u32 a',u32 b',u32 c',.bool d']) (by simp [eqcs,eqc])]
 exact run_eql_flat w fMb _ _ rfl rfl
theorem eqA3 (a b c a' b' c' : Int) (w : World) : (binOp .eql 108 (a3V a b c) (a3V a' b' c')).run Tryz.prog w = .ok (.bool (decide (a = a' ∧ b = b' ∧ c = c'))) w := by
 rw [← eqcs_dec (a := [u32 a,u32 b,u32 c]) (b := [u32 a',u32 b',u32 c']) (by simp [eqcs,eqc])]
 exact run_eql_flat w fA3 _ _ rfl rfl
theorem eqEp (a b a' b' : Int) (w : World) : (binOp .eql 26 (epV a b) (epV a' b')).run Tryz.prog w = .ok (.bool (decide (a = a' ∧ b = b'))) w := by
 rw [← eqcs_dec (a := [u32 a,u32 b]) (b := [u32 a',u32 b']) (by simp [eqcs,eqc])]
 exact run_eql_flat w fEp _ _ rfl rfl
theorem eqRc (a b : Rec) (w : World) : (binOp .eql 42 (recV a) (recV b)).run Tryz.prog w = .ok (.bool (decide (a = b))) w := by
 rw [← eqcs_dec (a := recC a) (b := recC b) (by cases a; cases b; simp [eqcs,eqc])]
 exact run_eql_flat w fRc _ _ rfl rfl
def sameT (a b : Trn) : Bool := (decide (a.lton = b.lton ∧ a.ltos = b.ltos) && decide (a.lsvc = b.lsvc) && decide (a.lflg = b.lflg) && decide (a.lren = b.lren ∧ a.lres = b.lres) && decide (a.life = b.life) && decide (a.lim = b.lim) && decide (a.pay = b.pay)) &&
 decide (a.node = b.node ∧ a.to' = b.to' ∧ a.fate = b.fate) && decide (a.kind = b.kind) && decide (a.n = b.n) && decide (a.yes = b.yes) && decide (a.c = b.c) && decide (a.s = b.s) && decide (a.mn = b.mn ∧ a.mr = b.mr ∧ a.me = b.me ∧ a.mi = b.mi) && decide (a.r = b.r) && decide (a.keep = b.keep)
theorem sameT_eq (a b : Trn) : sameT a b = true ↔ a = b := by
 cases a; cases b
 simp only [sameT,Bool.and_eq_true,decide_eq_true_eq,Trn.mk.injEq]
 constructor <;> (intro h; simp_all)
set_option maxHeartbeats 8000000 in
theorem ssame_c {w : World} {a b : Trn} {vp vk vp' vk' : Value} (hp : SlB w 1 vp a.pay.length (a.pay.map encB)) (hk : SlB w 1 vk a.keep.length (a.keep.map Value.bool)) (hp' : SlB w 1 vp' b.pay.length (b.pay.map encB)) (hk' : SlB w 1 vk' b.keep.length (b.keep.map Value.bool))
  (hpl : b.pay.length ≤ 1000000) (hkl : b.keep.length ≤ 1000000) (wa : 0 ≤ a.fate ∧ a.fate ≤ 255) (wb : 0 ≤ b.fate ∧ b.fate ≤ 255) : FN Tryz.prog 16 [trV a vp vk,trV b vp' vk'] w fun e w' => e = .returned (.bool (sameT a b)) ∧ Ext w w' := by
 refine FN_enter Tryz.func16 rfl rfl (by kernel_rfl) ?_
 have E0 : Ext w ((w.alloc (.cells (trC a vp vk).toArray 45)).alloc (.cells (trC b vp' vk').toArray 45)) := ((Ext.refl _).alloc _).alloc _
 have x0 : Blk ((w.alloc (.cells (trC a vp vk).toArray 45)).alloc (.cells (trC b vp' vk').toArray 45)) w.heap.size (trC a vp vk) := (Blk.new w _ _).ext ((Ext.refl _).alloc _)
 have y0 : Blk ((w.alloc (.cells (trC a vp vk).toArray 45)).alloc (.cells (trC b vp' vk').toArray 45)) (w.heap.size + 1) (trC b vp' vk') := by
  have := Blk.new (w.alloc (.cells (trC a vp vk).toArray 45)) (trC b vp' vk') 45
  simpa using this
 have z0 : ((w.alloc (.cells (trC a vp vk).toArray 45)).alloc (.cells (trC b vp' vk').toArray 45)).heap.size = w.heap.size + 2 := by simp
 simp
 generalize ((w.alloc (.cells (trC a vp vk).toArray 45)).alloc (.cells (trC b vp' vk').toArray 45)) = w0 at *
 obtain ⟨p,hpe⟩ : ∃ p,w.heap.size = p := ⟨_,rfl⟩
 rw [hpe] at x0 y0 z0 ⊢
 have hv1 : oneV vp = true := by obtain ⟨_,_,rfl⟩ := hp.isSlice; rfl
 have hv2 : oneV vp' = true := by obtain ⟨_,_,rfl⟩ := hp'.isSlice; rfl
 have hst1 := fun (p : Addr) (W : World) => run_store_sto Tryz.prog W p vp hv1
 have hst2 := fun (p : Addr) (W : World) => run_store_sto Tryz.prog W p vp' hv2
 have wf1 : IntKind.u32.wrap a.fate = a.fate := wrap32u _ (by omega) (by omega)
 have wf2 : IntKind.u32.wrap b.fate = b.fate := wrap32u _ (by omega) (by omega)
 refine WC_drawC 7 (.F 0 <| .F 1 <| .F 2 <| .F 3 <| .E 4 (.C 5 <| .C 6 <| .Z) (.E 5 (.C 4 <| .C 6 <| .Z) .Z)) (Xf fun k => p + 2 ≤ k) rfl (by kernel_rfl) fun W hW => ?_
 have WE : Ext w0 W := hW ▸ Ext.drew _
 have zW := WE.size
 have xW := x0.ext WE
 have yW := y0.ext WE
 simp [xW.cell 6 _ rfl,yW.cell 6 _ rfl,xW.cell 7 _ rfl,yW.cell 7 _ rfl,xW.cell 8 _ rfl,yW.cell 8 _ rfl,xW.cell 9 _ rfl,yW.cell 9 _ rfl,xW.cell 10 _ rfl,yW.cell 10 _ rfl,xW.cell 11 _ rfl,yW.cell 11 _ rfl,xW.cell 12 _ rfl,yW.cell 12 _ rfl,xW.cell 13 _ rfl,yW.cell 13 _ rfl,xW.cell 14 _ rfl,yW.cell 14 _ rfl]
 refine ⟨Xf_f (by omega),Xf_f (by omega),?_⟩
 refine with_tail (T := ∀ (σ : Env) (W3 : World) (j1 j2 : Nat),(σ 2 = ptr p ∧ σ 3 = ptr (p + 1) ∧ σ 5 = ptr j1 ∧ σ 6 = ptr j2 ∧ σ 12 = .agg #[u32 b.lton,u32 b.ltos,u32 b.lsvc,u32 b.lflg,u32 b.lren,u32 b.lres,u64 b.life,u8 b.lim,vp']) ∧ Ext w0 W3 ∧ Blk W3 j1 [u32 a.lton,u32 a.ltos,u32 a.lsvc,u32 a.lflg,u32 a.lren,u32 a.lres,u64 a.life,u8 a.lim,vp] ∧ Blk W3 j2 [u32 0,u32 0,u32 0,u32 0,u32 0,u32 0,u64 0,u8 0,nilS] ∧ j1 ≠ j2 ∧ p + 2 ≤ j1 ∧ p + 2 ≤ j2 → VL Tryz.prog none ?A ?Q ?ops σ [] W3) (fun tail => ?br) ?jn
 case br =>
  refine RT_alt ?_ ?_
  ·skip
   simp
   refine KR_ext ((Ext.refl _).alloc _) ?_
   simp
   refine KR_ext ((Ext.refl _).alloc _) ?_
   have E2 : Ext W ((W.alloc (.cells #[u32 0,u32 0,u32 0,u32 0,u32 0,u32 0,u64 0,u8 0,nilS] 29)).alloc (.cells #[u32 0,u32 0,u32 0,u32 0,u32 0,u32 0,u64 0,u8 0,nilS] 29)) := ((Ext.refl _).alloc _).alloc _
   have l1 : Blk ((W.alloc (.cells #[u32 0,u32 0,u32 0,u32 0,u32 0,u32 0,u64 0,u8 0,nilS] 29)).alloc (.cells #[u32 0,u32 0,u32 0,u32 0,u32 0,u32 0,u64 0,u8 0,nilS] 29)) W.heap.size [u32 0,u32 0,u32 0,u32 0,u32 0,u32 0,u64 0,u8 0,nilS] := (Blk.new W _ _).ext ((Ext.refl _).alloc _)
   have l2 : Blk ((W.alloc (.cells #[u32 0, u32 0, u32 0, u32 0, u32 0, u32 0, u64 0, u8 0, nilS] 29)).alloc (.cells #[u32 0, u32 0, u32 0, u32 0, u32 0, u32 0, u64 0, u8 0, nilS] 29)) (W.heap.size + 1) [u32 0, u32 0, u32 0, u32 0, u32 0, u32 0, u64 0, u8 0, nilS] := by
    have := Blk.new (W.alloc (.cells #[u32 0,u32 0,u32 0,u32 0,u32 0,u32 0,u64 0,u8 0,nilS] 29)) [u32 0,u32 0,u32 0,u32 0,u32 0,u32 0,u64 0,u8 0,nilS] 29
    simpa using this
   generalize ((W.alloc (.cells #[u32 0,u32 0,u32 0,u32 0,u32 0,u32 0,u64 0,u8 0,nilS] 29)).alloc (.cells #[u32 0,u32 0,u32 0,u32 0,u32 0,u32 0,u64 0,u8 0,nilS] 29)) = W2 at *
   obtain ⟨jA,hjA⟩ : ∃ j,W.heap.size = j := ⟨_,rfl⟩
   obtain ⟨jB,hjB⟩ : ∃ j,(W.heap.size + 1) = j := ⟨_,rfl⟩
   rw [hjB] at l2 ⊢; rw [hjA] at l1 ⊢; have lA := l1; have lB := l2
   simp [hst1,lA.cell 0 _ rfl,lA.cell 1 _ rfl,lA.cell 2 _ rfl,lA.cell 3 _ rfl,lA.cell 4 _ rfl,lA.cell 5 _ rfl,lA.cell 6 _ rfl,lA.cell 7 _ rfl,lA.cell 8 _ rfl,lA.thaw,cell_setCell]
   have S3 : Mod (fun k => k = jA) W2 (((((((((W2.setCell ⟨jA,0,none⟩ (u32 a.lton)).setCell ⟨jA,1,none⟩ (u32 a.ltos)).setCell ⟨jA,2,none⟩ (u32 a.lsvc)).setCell ⟨jA,3,none⟩ (u32 a.lflg)).setCell ⟨jA,4,none⟩ (u32 a.lren)).setCell ⟨jA,5,none⟩ (u32 a.lres)).setCell ⟨jA,6,none⟩ (u64 a.life)).setCell ⟨jA,7,none⟩ (u8 a.lim)).setCell ⟨jA,8,none⟩ (vp)) := (((((((((Mod.refl _ _).setC 0 _).setC 1 _).setC 2 _).setC 3 _).setC 4 _).setC 5 _).setC 6 _).setC 7 _).setC 8 _
   have lA3 : Blk (((((((((W2.setCell ⟨jA,0,none⟩ (u32 a.lton)).setCell ⟨jA,1,none⟩ (u32 a.ltos)).setCell ⟨jA,2,none⟩ (u32 a.lsvc)).setCell ⟨jA,3,none⟩ (u32 a.lflg)).setCell ⟨jA,4,none⟩ (u32 a.lren)).setCell ⟨jA,5,none⟩ (u32 a.lres)).setCell ⟨jA,6,none⟩ (u64 a.life)).setCell ⟨jA,7,none⟩ (u8 a.lim)).setCell ⟨jA,8,none⟩ (vp)) jA [u32 a.lton,u32 a.ltos,u32 a.lsvc,u32 a.lflg,u32 a.lren,u32 a.lres,u64 a.life,u8 a.lim,vp] := (((((((((lA.set 0 (u32 a.lton)).set 1 (u32 a.ltos)).set 2 (u32 a.lsvc)).set 3 (u32 a.lflg)).set 4 (u32 a.lren)).set 5 (u32 a.lres)).set 6 (u64 a.life)).set 7 (u8 a.lim)).set 8 (vp))
   refine KR_mk (Xf_agr (S3.weaken fun k hk => by omega)) ?_
   refine tail _ _ jA jB ?_
   refine ⟨⟨rfl,rfl,rfl,rfl,rfl⟩,(((WE.trans E2).mod (S := fun k => w0.heap.size ≤ k)).trans (S3.weaken fun k hk => by omega)).ext fun _ h => h,lA3,lB.mod S3 (by omega),by omega,by omega,by omega⟩
  ·skip
   simp
   refine KR_ext ((Ext.refl _).alloc _) ?_
   simp
   refine KR_ext ((Ext.refl _).alloc _) ?_
   have E2 : Ext W ((W.alloc (.cells #[u32 0,u32 0,u32 0,u32 0,u32 0,u32 0,u64 0,u8 0,nilS] 29)).alloc (.cells #[u32 0,u32 0,u32 0,u32 0,u32 0,u32 0,u64 0,u8 0,nilS] 29)) := ((Ext.refl _).alloc _).alloc _
   have l1 : Blk ((W.alloc (.cells #[u32 0,u32 0,u32 0,u32 0,u32 0,u32 0,u64 0,u8 0,nilS] 29)).alloc (.cells #[u32 0,u32 0,u32 0,u32 0,u32 0,u32 0,u64 0,u8 0,nilS] 29)) W.heap.size [u32 0,u32 0,u32 0,u32 0,u32 0,u32 0,u64 0,u8 0,nilS] := (Blk.new W _ _).ext ((Ext.refl _).alloc _)
   have l2 : Blk ((W.alloc (.cells #[u32 0, u32 0, u32 0, u32 0, u32 0, u32 0, u64 0, u8 0, nilS] 29)).alloc (.cells #[u32 0, u32 0, u32 0, u32 0, u32 0, u32 0, u64 0, u8 0, nilS] 29)) (W.heap.size + 1) [u32 0, u32 0, u32 0, u32 0, u32 0, u32 0, u64 0, u8 0, nilS] := by
    have := Blk.new (W.alloc (.cells #[u32 0,u32 0,u32 0,u32 0,u32 0,u32 0,u64 0,u8 0,nilS] 29)) [u32 0,u32 0,u32 0,u32 0,u32 0,u32 0,u64 0,u8 0,nilS] 29
    simpa using this
   generalize ((W.alloc (.cells #[u32 0,u32 0,u32 0,u32 0,u32 0,u32 0,u64 0,u8 0,nilS] 29)).alloc (.cells #[u32 0,u32 0,u32 0,u32 0,u32 0,u32 0,u64 0,u8 0,nilS] 29)) = W2 at *
   obtain ⟨jA,hjA⟩ : ∃ j,(W.heap.size + 1) = j := ⟨_,rfl⟩
   obtain ⟨jB,hjB⟩ : ∃ j,W.heap.size = j := ⟨_,rfl⟩
   rw [hjA] at l2 ⊢; rw [hjB] at l1 ⊢; have lA := l2; have lB := l1
   simp [hst1,lA.cell 0 _ rfl,lA.cell 1 _ rfl,lA.cell 2 _ rfl,lA.cell 3 _ rfl,lA.cell 4 _ rfl,lA.cell 5 _ rfl,lA.cell 6 _ rfl,lA.cell 7 _ rfl,lA.cell 8 _ rfl,lA.thaw,cell_setCell]
   have S3 : Mod (fun k => k = jA) W2 (((((((((W2.setCell ⟨jA,0,none⟩ (u32 a.lton)).setCell ⟨jA,1,none⟩ (u32 a.ltos)).setCell ⟨jA,2,none⟩ (u32 a.lsvc)).setCell ⟨jA,3,none⟩ (u32 a.lflg)).setCell ⟨jA,4,none⟩ (u32 a.lren)).setCell ⟨jA,5,none⟩ (u32 a.lres)).setCell ⟨jA,6,none⟩ (u64 a.life)).setCell ⟨jA,7,none⟩ (u8 a.lim)).setCell ⟨jA,8,none⟩ (vp)) := (((((((((Mod.refl _ _).setC 0 _).setC 1 _).setC 2 _).setC 3 _).setC 4 _).setC 5 _).setC 6 _).setC 7 _).setC 8 _
   have lA3 : Blk (((((((((W2.setCell ⟨jA,0,none⟩ (u32 a.lton)).setCell ⟨jA,1,none⟩ (u32 a.ltos)).setCell ⟨jA,2,none⟩ (u32 a.lsvc)).setCell ⟨jA,3,none⟩ (u32 a.lflg)).setCell ⟨jA,4,none⟩ (u32 a.lren)).setCell ⟨jA,5,none⟩ (u32 a.lres)).setCell ⟨jA,6,none⟩ (u64 a.life)).setCell ⟨jA,7,none⟩ (u8 a.lim)).setCell ⟨jA,8,none⟩ (vp)) jA [u32 a.lton,u32 a.ltos,u32 a.lsvc,u32 a.lflg,u32 a.lren,u32 a.lres,u64 a.life,u8 a.lim,vp] := (((((((((lA.set 0 (u32 a.lton)).set 1 (u32 a.ltos)).set 2 (u32 a.lsvc)).set 3 (u32 a.lflg)).set 4 (u32 a.lren)).set 5 (u32 a.lres)).set 6 (u64 a.life)).set 7 (u8 a.lim)).set 8 (vp))
   refine KR_mk (Xf_agr (S3.weaken fun k hk => by omega)) ?_
   refine tail _ _ jA jB ?_
   refine ⟨⟨rfl,rfl,rfl,rfl,rfl⟩,(((WE.trans E2).mod (S := fun k => w0.heap.size ≤ k)).trans (S3.weaken fun k hk => by omega)).ext fun _ h => h,lA3,lB.mod S3 (by omega),by omega,by omega,by omega⟩
 case jn =>
 rintro σ W3 j1 j2 ⟨⟨e2,e3,e5,e6,e12⟩,EW,lA,lB,hne,hj1,hj2⟩
 simp [e5,e6,e12,hst2,lB.cell 0 _ rfl,lB.cell 1 _ rfl,lB.cell 2 _ rfl,lB.cell 3 _ rfl,lB.cell 4 _ rfl,lB.cell 5 _ rfl,lB.cell 6 _ rfl,lB.cell 7 _ rfl,lB.cell 8 _ rfl,lB.thaw,cell_setCell,hne,lA.cell 0 _ rfl,lA.cell 1 _ rfl]
 have S4 : Mod (fun k => k = j2) W3 (((((((((W3.setCell ⟨j2,0,none⟩ (u32 b.lton)).setCell ⟨j2,1,none⟩ (u32 b.ltos)).setCell ⟨j2,2,none⟩ (u32 b.lsvc)).setCell ⟨j2,3,none⟩ (u32 b.lflg)).setCell ⟨j2,4,none⟩ (u32 b.lren)).setCell ⟨j2,5,none⟩ (u32 b.lres)).setCell ⟨j2,6,none⟩ (u64 b.life)).setCell ⟨j2,7,none⟩ (u8 b.lim)).setCell ⟨j2,8,none⟩ (vp')) := (((((((((Mod.refl _ _).setC 0 _).setC 1 _).setC 2 _).setC 3 _).setC 4 _).setC 5 _).setC 6 _).setC 7 _).setC 8 _
 have lB4 : Blk (((((((((W3.setCell ⟨j2,0,none⟩ (u32 b.lton)).setCell ⟨j2,1,none⟩ (u32 b.ltos)).setCell ⟨j2,2,none⟩ (u32 b.lsvc)).setCell ⟨j2,3,none⟩ (u32 b.lflg)).setCell ⟨j2,4,none⟩ (u32 b.lren)).setCell ⟨j2,5,none⟩ (u32 b.lres)).setCell ⟨j2,6,none⟩ (u64 b.life)).setCell ⟨j2,7,none⟩ (u8 b.lim)).setCell ⟨j2,8,none⟩ (vp')) j2 [u32 b.lton,u32 b.ltos,u32 b.lsvc,u32 b.lflg,u32 b.lren,u32 b.lres,u64 b.life,u8 b.lim,vp'] := (((((((((lB.set 0 (u32 b.lton)).set 1 (u32 b.ltos)).set 2 (u32 b.lsvc)).set 3 (u32 b.lflg)).set 4 (u32 b.lren)).set 5 (u32 b.lres)).set 6 (u64 b.life)).set 7 (u8 b.lim)).set 8 (vp'))
 have lA4 := lA.mod S4 hne
 have EW4 : Ext w0 (((((((((W3.setCell ⟨j2,0,none⟩ (u32 b.lton)).setCell ⟨j2,1,none⟩ (u32 b.ltos)).setCell ⟨j2,2,none⟩ (u32 b.lsvc)).setCell ⟨j2,3,none⟩ (u32 b.lflg)).setCell ⟨j2,4,none⟩ (u32 b.lren)).setCell ⟨j2,5,none⟩ (u32 b.lres)).setCell ⟨j2,6,none⟩ (u64 b.life)).setCell ⟨j2,7,none⟩ (u8 b.lim)).setCell ⟨j2,8,none⟩ (vp')) := ((EW.mod (S := fun k => w0.heap.size ≤ k)).trans (S4.weaken fun k hk => by omega)).ext fun _ h => h
 generalize (((((((((W3.setCell ⟨j2,0,none⟩ (u32 b.lton)).setCell ⟨j2,1,none⟩ (u32 b.ltos)).setCell ⟨j2,2,none⟩ (u32 b.lsvc)).setCell ⟨j2,3,none⟩ (u32 b.lflg)).setCell ⟨j2,4,none⟩ (u32 b.lren)).setCell ⟨j2,5,none⟩ (u32 b.lres)).setCell ⟨j2,6,none⟩ (u64 b.life)).setCell ⟨j2,7,none⟩ (u8 b.lim)).setCell ⟨j2,8,none⟩ (vp')) = W4 at *
 have x4 := x0.ext EW4
 have y4 := y0.ext EW4
 have hE4 := E0.trans EW4
 by_cases h0 : a.lton = b.lton ∧ a.ltos = b.ltos
 case neg =>
  simp [e2,e3,x4.cell 1 _ rfl,x4.cell 2 _ rfl,x4.cell 5 _ rfl,y4.cell 1 _ rfl,y4.cell 2 _ rfl,y4.cell 5 _ rfl,eqEp,eqA3,wf1,wf2,h0]
  exact ⟨by simp [sameT,h0],hE4⟩
 by_cases h1 : a.lsvc = b.lsvc
 case neg =>
  simp [e2,e3,e5,e6,lA4.cell 2 _ rfl,lB4.cell 2 _ rfl,x4.cell 1 _ rfl,x4.cell 2 _ rfl,x4.cell 5 _ rfl,y4.cell 1 _ rfl,y4.cell 2 _ rfl,y4.cell 5 _ rfl,eqEp,eqA3,wf1,wf2,h0,h1]
  exact ⟨by simp [sameT,h1],hE4⟩
 by_cases h2 : a.lflg = b.lflg
 case neg =>
  simp [e2,e3,e5,e6,lA4.cell 2 _ rfl,lB4.cell 2 _ rfl,lA4.cell 3 _ rfl,lB4.cell 3 _ rfl,x4.cell 1 _ rfl,x4.cell 2 _ rfl,x4.cell 5 _ rfl,y4.cell 1 _ rfl,y4.cell 2 _ rfl,y4.cell 5 _ rfl,eqEp,eqA3,wf1,wf2,h0,h1,h2]
  exact ⟨by simp [sameT,h2],hE4⟩
 by_cases h3 : a.lren = b.lren ∧ a.lres = b.lres
 case neg =>
  simp [e2,e3,e5,e6,lA4.cell 2 _ rfl,lB4.cell 2 _ rfl,lA4.cell 3 _ rfl,lB4.cell 3 _ rfl,lA4.cell 4 _ rfl,lA4.cell 5 _ rfl,lB4.cell 4 _ rfl,lB4.cell 5 _ rfl,x4.cell 1 _ rfl,x4.cell 2 _ rfl,x4.cell 5 _ rfl,y4.cell 1 _ rfl,y4.cell 2 _ rfl,y4.cell 5 _ rfl,eqEp,eqA3,wf1,wf2,h0,h1,h2,h3]
  exact ⟨by simp [sameT,h3],hE4⟩
 by_cases h4 : a.life = b.life
 case neg =>
  simp [e2,e3,e5,e6,lA4.cell 2 _ rfl,lB4.cell 2 _ rfl,lA4.cell 3 _ rfl,lB4.cell 3 _ rfl,lA4.cell 4 _ rfl,lA4.cell 5 _ rfl,lB4.cell 4 _ rfl,lB4.cell 5 _ rfl,lA4.cell 6 _ rfl,lB4.cell 6 _ rfl,x4.cell 1 _ rfl,x4.cell 2 _ rfl,x4.cell 5 _ rfl,y4.cell 1 _ rfl,y4.cell 2 _ rfl,y4.cell 5 _ rfl,eqEp,eqA3,wf1,wf2,h0,h1,h2,h3,h4]
  exact ⟨by simp [sameT,h4],hE4⟩
 by_cases h5 : a.lim = b.lim
 case neg =>
  simp [e2,e3,e5,e6,lA4.cell 2 _ rfl,lB4.cell 2 _ rfl,lA4.cell 3 _ rfl,lB4.cell 3 _ rfl,lA4.cell 4 _ rfl,lA4.cell 5 _ rfl,lB4.cell 4 _ rfl,lB4.cell 5 _ rfl,lA4.cell 6 _ rfl,lB4.cell 6 _ rfl,lA4.cell 7 _ rfl,lB4.cell 7 _ rfl,x4.cell 1 _ rfl,x4.cell 2 _ rfl,x4.cell 5 _ rfl,y4.cell 1 _ rfl,y4.cell 2 _ rfl,y4.cell 5 _ rfl,eqEp,eqA3,wf1,wf2,h0,h1,h2,h3,h4,h5]
  exact ⟨by simp [sameT,h5],hE4⟩
 simp [e5,e6,lA4.cell 2 _ rfl,lB4.cell 2 _ rfl,lA4.cell 3 _ rfl,lB4.cell 3 _ rfl,lA4.cell 4 _ rfl,lA4.cell 5 _ rfl,lB4.cell 4 _ rfl,lB4.cell 5 _ rfl,lA4.cell 6 _ rfl,lB4.cell 6 _ rfl,lA4.cell 7 _ rfl,lB4.cell 7 _ rfl,lA4.cell 8 _ rfl,lB4.cell 8 _ rfl,eqEp,h0,h1,h2,h3,h4,h5]
 refine FN.mono (eqby_c (hp.ext hE4) (hp'.ext hE4) (by omega)) ?_
 rintro _ W5 ⟨rfl,E5⟩
 have x5 := x4.ext E5
 have y5 := y4.ext E5
 have hE5 := hE4.trans E5
 by_cases h6 : a.pay = b.pay
 case neg =>
  simp [e2,e3,x5.cell 1 _ rfl,x5.cell 2 _ rfl,x5.cell 5 _ rfl,y5.cell 1 _ rfl,y5.cell 2 _ rfl,y5.cell 5 _ rfl,eqA3,wf1,wf2,h6]
  exact ⟨by simp [sameT,h6],hE5⟩
 by_cases h7 : a.node = b.node ∧ a.to' = b.to' ∧ a.fate = b.fate
 case neg =>
  simp [e2,e3,x5.cell 1 _ rfl,x5.cell 2 _ rfl,x5.cell 5 _ rfl,y5.cell 1 _ rfl,y5.cell 2 _ rfl,y5.cell 5 _ rfl,eqA3,wf1,wf2,h6,h7]
  exact ⟨by simp [sameT,h7],hE5⟩
 by_cases h8 : a.kind = b.kind
 case neg =>
  simp [e2,e3,x5.cell 1 _ rfl,x5.cell 2 _ rfl,x5.cell 5 _ rfl,y5.cell 1 _ rfl,y5.cell 2 _ rfl,y5.cell 5 _ rfl,x5.cell 0 _ rfl,y5.cell 0 _ rfl,eqA3,wf2,h6,h7,h8]
  exact ⟨by simp [sameT,h8],hE5⟩
 by_cases h9 : a.n = b.n
 case neg =>
  simp [e2,e3,x5.cell 1 _ rfl,x5.cell 2 _ rfl,x5.cell 5 _ rfl,y5.cell 1 _ rfl,y5.cell 2 _ rfl,y5.cell 5 _ rfl,x5.cell 0 _ rfl,y5.cell 0 _ rfl,x5.cell 3 _ rfl,y5.cell 3 _ rfl,eqA3,wf2,h6,h7,h8,h9]
  exact ⟨by simp [sameT,h9],hE5⟩
 by_cases h10 : a.yes = b.yes
 case neg =>
  have hy : (a.yes == b.yes) = false := by revert h10; cases a.yes <;> cases b.yes <;> simp
  simp [e2,e3,x5.cell 1 _ rfl,x5.cell 2 _ rfl,x5.cell 5 _ rfl,y5.cell 1 _ rfl,y5.cell 2 _ rfl,y5.cell 5 _ rfl,x5.cell 0 _ rfl,y5.cell 0 _ rfl,x5.cell 3 _ rfl,y5.cell 3 _ rfl,x5.cell 4 _ rfl,y5.cell 4 _ rfl,eqA3,wf2,h6,h7,h8,h9,hy]
  exact ⟨by simp [sameT,h10],hE5⟩
 by_cases h11 : a.c = b.c
 case neg =>
  simp [e2,e3,x5.cell 1 _ rfl,x5.cell 2 _ rfl,x5.cell 5 _ rfl,y5.cell 1 _ rfl,y5.cell 2 _ rfl,y5.cell 5 _ rfl,x5.cell 0 _ rfl,y5.cell 0 _ rfl,x5.cell 3 _ rfl,y5.cell 3 _ rfl,x5.cell 4 _ rfl,y5.cell 4 _ rfl,x5.cell 15 _ rfl,x5.cell 16 _ rfl,x5.cell 17 _ rfl,x5.cell 18 _ rfl,x5.cell 19 _ rfl,y5.cell 15 _ rfl,y5.cell 16 _ rfl,y5.cell 17 _ rfl,y5.cell 18 _ rfl,y5.cell 19 _ rfl,eqA3,eqCt,wf2,h6,h7,h8,h9,h10,h11]
  exact ⟨by simp [sameT,h11],hE5⟩
 by_cases h12 : a.s = b.s
 case neg =>
  simp [e2,e3,x5.cell 1 _ rfl,x5.cell 2 _ rfl,x5.cell 5 _ rfl,y5.cell 1 _ rfl,y5.cell 2 _ rfl,y5.cell 5 _ rfl,x5.cell 0 _ rfl,y5.cell 0 _ rfl,x5.cell 3 _ rfl,y5.cell 3 _ rfl,x5.cell 4 _ rfl,y5.cell 4 _ rfl,x5.cell 15 _ rfl,x5.cell 16 _ rfl,x5.cell 17 _ rfl,x5.cell 18 _ rfl,x5.cell 19 _ rfl,y5.cell 15 _ rfl,y5.cell 16 _ rfl,y5.cell 17 _ rfl,y5.cell 18 _ rfl,y5.cell 19 _ rfl,x5.cell 20 _ rfl,x5.cell 21 _ rfl,x5.cell 22 _ rfl,x5.cell 23 _ rfl,y5.cell 20 _ rfl,y5.cell 21 _ rfl,y5.cell 22 _ rfl,y5.cell 23 _ rfl,eqA3,eqCt,eqSt,wf2,h6,h7,h8,h9,h10,h11,h12]
  exact ⟨by simp [sameT,h12],hE5⟩
 by_cases h13 : a.mn = b.mn ∧ a.mr = b.mr ∧ a.me = b.me ∧ a.mi = b.mi
 case neg =>
  simp [e2,e3,x5.cell 1 _ rfl,x5.cell 2 _ rfl,x5.cell 5 _ rfl,y5.cell 1 _ rfl,y5.cell 2 _ rfl,y5.cell 5 _ rfl,x5.cell 0 _ rfl,y5.cell 0 _ rfl,x5.cell 3 _ rfl,y5.cell 3 _ rfl,x5.cell 4 _ rfl,y5.cell 4 _ rfl,x5.cell 15 _ rfl,x5.cell 16 _ rfl,x5.cell 17 _ rfl,x5.cell 18 _ rfl,x5.cell 19 _ rfl,y5.cell 15 _ rfl,y5.cell 16 _ rfl,y5.cell 17 _ rfl,y5.cell 18 _ rfl,y5.cell 19 _ rfl,x5.cell 20 _ rfl,x5.cell 21 _ rfl,x5.cell 22 _ rfl,x5.cell 23 _ rfl,y5.cell 20 _ rfl,y5.cell 21 _ rfl,y5.cell 22 _ rfl,y5.cell 23 _ rfl,x5.cell 24 _ rfl,x5.cell 25 _ rfl,x5.cell 26 _ rfl,x5.cell 27 _ rfl,y5.cell 24 _ rfl,y5.cell 25 _ rfl,y5.cell 26 _ rfl,y5.cell 27 _ rfl,eqA3,eqCt,eqSt,eqMb,wf2,h6,h7,h8,h9,h10,h11,h12,h13]
  exact ⟨by simp [sameT,h13],hE5⟩
 by_cases h14 : a.r = b.r
 case neg =>
  simp [e2,e3,x5.cell 1 _ rfl,x5.cell 2 _ rfl,x5.cell 5 _ rfl,y5.cell 1 _ rfl,y5.cell 2 _ rfl,y5.cell 5 _ rfl,x5.cell 0 _ rfl,y5.cell 0 _ rfl,x5.cell 3 _ rfl,y5.cell 3 _ rfl,x5.cell 4 _ rfl,y5.cell 4 _ rfl,x5.cell 15 _ rfl,x5.cell 16 _ rfl,x5.cell 17 _ rfl,x5.cell 18 _ rfl,x5.cell 19 _ rfl,y5.cell 15 _ rfl,y5.cell 16 _ rfl,y5.cell 17 _ rfl,y5.cell 18 _ rfl,y5.cell 19 _ rfl,x5.cell 20 _ rfl,x5.cell 21 _ rfl,x5.cell 22 _ rfl,x5.cell 23 _ rfl,y5.cell 20 _ rfl,y5.cell 21 _ rfl,y5.cell 22 _ rfl,y5.cell 23 _ rfl,x5.cell 24 _ rfl,x5.cell 25 _ rfl,x5.cell 26 _ rfl,x5.cell 27 _ rfl,y5.cell 24 _ rfl,y5.cell 25 _ rfl,y5.cell 26 _ rfl,y5.cell 27 _ rfl,x5.cell 28 _ rfl,x5.cell 29 _ rfl,x5.cell 30 _ rfl,x5.cell 31 _ rfl,x5.cell 32 _ rfl,x5.cell 33 _ rfl,x5.cell 34 _ rfl,x5.cell 35 _ rfl,x5.cell 36 _ rfl,x5.cell 37 _ rfl,x5.cell 38 _ rfl,x5.cell 39 _ rfl,x5.cell 40 _ rfl,x5.cell 41 _ rfl,x5.cell 42 _ rfl,y5.cell 28 _ rfl,y5.cell 29 _ rfl,y5.cell 30 _ rfl,y5.cell 31 _ rfl,y5.cell 32 _ rfl,y5.cell 33 _ rfl,y5.cell 34 _ rfl,y5.cell 35 _ rfl,y5.cell 36 _ rfl,y5.cell 37 _ rfl,y5.cell 38 _ rfl,y5.cell 39 _ rfl,y5.cell 40 _ rfl,y5.cell 41 _ rfl,y5.cell 42 _ rfl,eqA3,eqCt,eqSt,eqMb,eqRc,wf2,h6,h7,h8,h9,h10,h11,h12,h13,h14]
  exact ⟨by simp [sameT,h14],hE5⟩
 simp [e2,e3,x5.cell 1 _ rfl,x5.cell 2 _ rfl,x5.cell 5 _ rfl,y5.cell 1 _ rfl,y5.cell 2 _ rfl,y5.cell 5 _ rfl,x5.cell 0 _ rfl,y5.cell 0 _ rfl,x5.cell 3 _ rfl,y5.cell 3 _ rfl,x5.cell 4 _ rfl,y5.cell 4 _ rfl,x5.cell 15 _ rfl,x5.cell 16 _ rfl,x5.cell 17 _ rfl,x5.cell 18 _ rfl,x5.cell 19 _ rfl,y5.cell 15 _ rfl,y5.cell 16 _ rfl,y5.cell 17 _ rfl,y5.cell 18 _ rfl,y5.cell 19 _ rfl,x5.cell 20 _ rfl,x5.cell 21 _ rfl,x5.cell 22 _ rfl,x5.cell 23 _ rfl,y5.cell 20 _ rfl,y5.cell 21 _ rfl,y5.cell 22 _ rfl,y5.cell 23 _ rfl,x5.cell 24 _ rfl,x5.cell 25 _ rfl,x5.cell 26 _ rfl,x5.cell 27 _ rfl,y5.cell 24 _ rfl,y5.cell 25 _ rfl,y5.cell 26 _ rfl,y5.cell 27 _ rfl,x5.cell 28 _ rfl,x5.cell 29 _ rfl,x5.cell 30 _ rfl,x5.cell 31 _ rfl,x5.cell 32 _ rfl,x5.cell 33 _ rfl,x5.cell 34 _ rfl,x5.cell 35 _ rfl,x5.cell 36 _ rfl,x5.cell 37 _ rfl,x5.cell 38 _ rfl,x5.cell 39 _ rfl,x5.cell 40 _ rfl,x5.cell 41 _ rfl,x5.cell 42 _ rfl,y5.cell 28 _ rfl,y5.cell 29 _ rfl,y5.cell 30 _ rfl,y5.cell 31 _ rfl,y5.cell 32 _ rfl,y5.cell 33 _ rfl,y5.cell 34 _ rfl,y5.cell 35 _ rfl,y5.cell 36 _ rfl,y5.cell 37 _ rfl,y5.cell 38 _ rfl,y5.cell 39 _ rfl,y5.cell 40 _ rfl,y5.cell 41 _ rfl,y5.cell 42 _ rfl,x5.cell 43 _ rfl,y5.cell 43 _ rfl,eqA3,eqCt,eqSt,eqMb,eqRc,wf2,h6,h7,h8,h9,h10,h11,h12,h13,h14]
 refine FN.mono (eqbo_c (hk.ext hE5) (hk'.ext hE5) (by omega)) ?_
 rintro _ W6 ⟨rfl,E6⟩
 simp
 exact ⟨by simp [sameT,h0,h1,h2,h3,h4,h5,h6,h7,h8,h9,h10,h11,h12,h13,h14],hE5.trans E6⟩
end Go.Proofs