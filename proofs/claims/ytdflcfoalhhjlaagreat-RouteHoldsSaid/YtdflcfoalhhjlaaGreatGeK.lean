/-
 Contracts of the functions that the law reaches,step by step.
-/
import Derived.Test.YtdflcfoalhhjlaaGreatGeJ
namespace Go.Proofs
open Pk
set_option maxRecDepth 10000
abbrev NM := List (Int × Int)
abbrev nmAt (w : World) (r : Nat) (m : NM) := MapAt (Value.int .u32) (Value.int .u64) w r m
abbrev wmAt (w : World) (r : Nat) (m : List (Int × Wy)) := MapAt (Value.int .u32) wyV w r m
theorem tmN : Tryz.prog.underlying 247 = some (.map 26 27) := by simp
theorem zU64 (w : World) : (zeroValue 27).run Tryz.prog w = .ok (u64 0) w := by simp
structure BMap (bm : List (Int × Wy)) (best : Int → Option Tl) : Prop where
 get : ∀ n,mget bm n = (best n).map tlWy
theorem BMap.put {bm : List (Int × Wy)} {best : Int → Option Tl} (h : BMap bm best) (t : Tl) (hu : best t.n = none ∨ ∃ o, best t.n = some o ∧ Gr.keyLt t o) : BMap (mset bm t.n (tlWy t)) (Gr.bet best t) := by
 refine ⟨fun n => ?_⟩
 rw [kget_mset]
 unfold Gr.bet
 by_cases e : n = t.n
 ·rw [if_pos e,if_pos e]
  unfold Gr.betO
  rcases hu with hu | ⟨o, hu, hl⟩
  ·rw [hu]; rfl
  ·rw [hu]
   simp only
   rw [if_pos hl]
   rfl
 ·rw [if_neg e,if_neg e,h.get]
theorem BMap.stay {bm : List (Int × Wy)} {best : Int → Option Tl} (h : BMap bm best) (t : Tl) {o : Tl} (hu : best t.n = some o) (hl : ¬ Gr.keyLt t o) : BMap bm (Gr.bet best t) := by
 refine ⟨fun n => ?_⟩
 unfold Gr.bet
 by_cases e : n = t.n
 ·rw [if_pos e,h.get,e,hu]
  unfold Gr.betO
  simp only
  rw [if_neg hl]
 ·rw [if_neg e,h.get]
theorem upd_mset (nm : NM) (k v : Int) : mget (mset nm k v) = Gr.upd (mget nm) k v := by
 funext n
 rw [kget_mset]
 rfl
theorem DGr.map_mod {w w' : World} {vp vt vl : Value} {L : List Ct} {sl : List St} {ll : List LR} {M : ME} {m : VM} {rb : Nat} {bm : List (Int × Wy)} (h : DGr w vp vt vl L sl ll M m) (hm : wmAt w rb bm) (hM : Mod (fun k => k = rb) w w') : DGr w' vp vt vl L sl ll M m :=
 {h with pl := h.pl.map_mod hm hM,tb := h.tb.map_mod hm hM,lg := h.lg.map_mod hm hM }
def DwR (L : List Ct) (snt : Ct → Int → Option Int) (F : List Ct) (at0 : Int) (K : Nat) (f : Ct) (done : Ct → Nat → Prop) (rb : Nat) (w w' : World) : Prop :=
 ∃ bm' best',wmAt w' rb bm' ∧ BMap bm' best' ∧ Gr.Bst L snt F at0 K (fun f' k => done f' k ∨ f' = f ∧ k ≤ K) best' ∧ Mod (fun k => k = rb) w w'
structure DwI (L : List Ct) (snt : Ct → Int → Option Int) (F : List Ct) (at0 : Int) (K : Nat) (f : Ct) (done : Ct → Nat → Prop) (rb : Nat) (w1 : World) (h : Nat) (nm : NM) (rn : Nat) (bm : List (Int × Wy)) (best : Int → Option Tl) (W : World) : Prop where
 mb : wmAt W rb bm
 mn : nmAt W rn nm
 ge : w1.heap.size ≤ rn
 bb : BMap bm best
 bd : Gr.Bst L snt F at0 K (fun f' k => done f' k ∨ f' = f ∧ k < h) best
 nw : Gr.IsNow L snt F at0 f h (mget nm)
 md : Mod (fun k => k = rb) w1 W
 h1 : 1 ≤ h
def DwL (L : List Ct) (snt : Ct → Int → Option Int) (F : List Ct) (at0 : Int) (K : Nat) (f : Ct) (done : Ct → Nat → Prop) (rb A : Nat) (w1 : World) (k : Nat) (ρ : Env) (ds : List Deferred) (W : World) : Prop :=
 ∃ h nm rn bm best,DwI L snt F at0 K f done rb w1 h nm rn bm best W ∧ k = L.length + 1 - h ∧ h ≤ L.length + 1 ∧ ρ 3 = .map (some rb) ∧ ρ 4 = ptr A ∧ ρ 5 = ptr (A + 1) ∧ ρ 6 = ptr (A + 1 + 1) ∧ ρ 10 = .map (some rn) ∧ ρ 11 = i64 h ∧ ds = []
structure DwR1 (L : List Ct) (snt : Ct → Int → Option Int) (F : List Ct) (at0 : Int) (K : Nat) (f : Ct) (done : Ct → Nat → Prop) (rb : Nat) (w1 : World) (h : Nat) (nm : NM) (rn rt ib : Nat) (idxs : List Nat) (bm : List (Int × Wy)) (best : Int → Option Tl) (W : World) : Prop where
 it : MIter (Value.int .u32) (Value.int .u64) W ib rn nm idxs
 mb : wmAt W rb bm
 mn : nmAt W rn nm
 mt : nmAt W rt []
 bb : BMap bm best
 bd : Gr.Bst L snt F at0 K (fun f' k => done f' k ∨ f' = f ∧ k < h) best
 sn : Gr.Seen f h best (seenOf nm idxs)
 md : Mod (fun k => k = rb) w1 W
def DwL1 (L : List Ct) (snt : Ct → Int → Option Int) (F : List Ct) (at0 : Int) (K : Nat) (f : Ct) (done : Ct → Nat → Prop) (rb A : Nat) (w1 : World) (h : Nat) (nm : NM) (rn rt ib : Nat) (k : Nat) (ρ : Env) (ds : List Deferred) (W : World) : Prop :=
 ∃ idxs bm best,DwR1 L snt F at0 K f done rb w1 h nm rn rt ib idxs bm best W ∧ k + idxs.length = nm.length ∧ ρ 3 = .map (some rb) ∧ ρ 4 = ptr A ∧ ρ 5 = ptr (A + 1) ∧ ρ 6 = ptr (A + 1 + 1) ∧ ρ 10 = .map (some rn) ∧ ρ 11 = i64 h ∧ ρ 12 = .map (some rt) ∧ ρ 64 = ptr ib ∧ ds = []
structure DwR2 (L : List Ct) (snt : Ct → Int → Option Int) (rb : Nat) (w1 : World) (nm : NM) (rn rt : Nat) (bm : List (Int × Wy)) (i : Nat) (am : NM) (W : World) : Prop where
 mb : wmAt W rb bm
 mn : nmAt W rn nm
 mt : nmAt W rt am
 rl : Gr.Rl snt (mget nm) (L.take i) (mget am)
 md : Mod (fun k => k = rb) w1 W
def DwL2 (L : List Ct) (snt : Ct → Int → Option Int) (rb A : Nat) (w1 : World) (h : Nat) (nm : NM) (rn rt : Nat) (bm : List (Int × Wy)) (k : Nat) (ρ : Env) (ds : List Deferred) (W : World) : Prop :=
 ∃ i am,DwR2 L snt rb w1 nm rn rt bm i am W ∧ k = L.length - i ∧ i ≤ L.length ∧ ρ 3 = .map (some rb) ∧ ρ 4 = ptr A ∧ ρ 5 = ptr (A + 1) ∧ ρ 6 = ptr (A + 1 + 1) ∧ ρ 10 = .map (some rn) ∧ ρ 11 = i64 h ∧ ρ 12 = .map (some rt) ∧ ρ 18 = i64 i ∧ ds = []
set_option maxHeartbeats 8000000 in
theorem dways_c {w : World} {vp vt vl nv : Value} {L : List Ct} {sl : List St} {ll : List LR} {M : ME} {m : VM} (h : DGr w vp vt vl L sl ll M m) (hg : gdT M) {q : Qu} (hq : QuOk q) (hnv : ∃ a n c, nv = .slice a n c) {F : List Ct} {f : Ct} (hf : f ∈ F) (hF : ∀ f ∈ F, f ∈ L)
  {rb : Nat} {bm : List (Int × Wy)} {best : Int → Option Tl} {done : Ct → Nat → Prop} (hm : wmAt w rb bm) (hB : BMap bm best) {K : Nat} (hK : K = Nat.min L.length q.most.toNat) (hD : Gr.Bst L (gSnt M m q.size) F q.at_ K done best) :
  FN Tryz.prog 130 [dgV vp vt vl,ctV f,quV q nv,.map (some rb)] w fun e w' => (∃ u,e = .returned u) ∧ DwR L (gSnt M m q.size) F q.at_ K f done rb w w' := by
 refine FN_enter Tryz.func130 rfl rfl (by kernel_rfl) ?_
 have hS := gSnt_sn hg m q.size
 have hfc : CtOk f := h.ok f (hF f hf)
 obtain ⟨pa,pc,hvp⟩ := h.pl.isSlice
 obtain ⟨ta,tc,hvt⟩ := h.tb.isSlice
 obtain ⟨la,lc,hvl⟩ := h.lg.isSlice
 obtain ⟨na,nn,nc,hnv⟩ := hnv
 have hE : Ext w (((w.alloc (.cells #[vp,vt,vl] 43)).alloc (.cells #[u32 f.fr,u32 f.to',u64 f.sf,u64 f.su,u64 f.rate] 64)).alloc (.cells #[u32 q.fr,u32 q.to',u64 q.at_,u64 q.size,i64 q.most,nv] 29)) := (((Ext.refl w).alloc _).alloc _).alloc _
 have b4 : Blk (((w.alloc (.cells #[vp,vt,vl] 43)).alloc (.cells #[u32 f.fr,u32 f.to',u64 f.sf,u64 f.su,u64 f.rate] 64)).alloc (.cells #[u32 q.fr,u32 q.to',u64 q.at_,u64 q.size,i64 q.most,nv] 29)) w.heap.size [vp,vt,vl] := (Blk.new w [vp,vt,vl] 43).ext (((Ext.refl _).alloc _).alloc _)
 have b5 : Blk (((w.alloc (.cells #[vp, vt, vl] 43)).alloc (.cells #[u32 f.fr, u32 f.to', u64 f.sf, u64 f.su, u64 f.rate] 64)).alloc (.cells #[u32 q.fr, u32 q.to', u64 q.at_, u64 q.size, i64 q.most, nv] 29)) (w.heap.size + 1) (ctC f) := by
  have := (Blk.new (w.alloc (.cells #[vp,vt,vl] 43)) (ctC f) 64).ext ((Ext.refl _).alloc (.cells #[u32 q.fr,u32 q.to',u64 q.at_,u64 q.size,i64 q.most,nv] 29))
  simpa using this
 have b6 : Blk (((w.alloc (.cells #[vp, vt, vl] 43)).alloc (.cells #[u32 f.fr, u32 f.to', u64 f.sf, u64 f.su, u64 f.rate] 64)).alloc (.cells #[u32 q.fr, u32 q.to', u64 q.at_, u64 q.size, i64 q.most, nv] 29)) (w.heap.size + 1 + 1) (quC q nv) := by
  have := Blk.new ((w.alloc (.cells #[vp,vt,vl] 43)).alloc (.cells #[u32 f.fr,u32 f.to',u64 f.sf,u64 f.su,u64 f.rate] 64)) (quC q nv) 29
  simpa using this
 have hsz : (((w.alloc (.cells #[vp,vt,vl] 43)).alloc (.cells #[u32 f.fr,u32 f.to',u64 f.sf,u64 f.su,u64 f.rate] 64)).alloc (.cells #[u32 q.fr,u32 q.to',u64 q.at_,u64 q.size,i64 q.most,nv] 29)).heap.size = w.heap.size + 1 + 1 + 1 := by simp
 rw [hvp,hvt,hvl,hnv] at hE b4 b5 b6 hsz
 rw [hvp,hvt,hvl,hnv]
 simp
 rw [← hvp,← hvt,← hvl,← hnv] at hE b4 b5 b6 hsz ⊢
 generalize (((w.alloc (.cells #[vp,vt,vl] 43)).alloc (.cells #[u32 f.fr,u32 f.to',u64 f.sf,u64 f.su,u64 f.rate] 64)).alloc (.cells #[u32 q.fr,u32 q.to',u64 q.at_,u64 q.size,i64 q.most,nv] 29)) = w1 at *
 have hrl := hm.lt
 refine FN.mono (dsent_c (h.ext hE) hfc hq.at_.1 hq.size.1) ?_
 rintro _ w2 ⟨rfl,hE2⟩
 generalize hsnt : gSnt M m q.size = snt at *
 have hX2 := hE.trans hE2
 cases hs0 : snt f q.at_ with
 | none =>
  simp
  refine ⟨bm,best,hm.ext hX2,hB,hD.done_of fun y hy hd => ?_,hX2.mod⟩
  rcases hd with hd | ⟨h1, h2⟩
  ·exact hd
  ·exact (Gr.wk_none hs0 hy h1).elim
 | some a0 =>
 have hEm := (Ext.refl w2).alloc (.map #[] 0)
 obtain ⟨w3,hrun,hm3,hM3,hsz3⟩ := (MapAt.alloc0 (Value.int .u32) (Value.int .u64) w2).update (P := Tryz.prog) kU32 tmN f.to' a0
 have hms : mset ([] : NM) f.to' a0 = [(f.to',a0)] := rfl
 rw [hms] at hm3
 simp [(b5.ext hE2).cell 1 _ rfl,hrun]
 have hs2 := hE2.size
 have hM13 : Mod (fun k => k = rb) w1 w3 := (hE2.trans hEm).mod.trans' hM3 fun i hi => .inr (by omega)
 obtain ⟨rn0,hrn0⟩ : ∃ r,r = w2.heap.size := ⟨_,rfl⟩
 rw [← hrn0] at hm3 ⊢
 have nA : ∀ j,w.heap.size ≤ j → ¬ j = rb := fun j hj e => by omega
 have hnow0 : Gr.IsNow L snt F q.at_ f 1 (mget [(f.to', a0)]) := by
  have e : mget [(f.to',a0)] = Gr.upd (fun _ => none) f.to' a0 := by rw [← hms,upd_mset]; rfl
  rw [e]
  exact Gr.isNow_one hf hs0
 refine WC_loop (fun k ρ ds w' => DwL L snt F q.at_ K f done rb w.heap.size w1 k ρ ds w') (L.length + 1 - 1) ?_ ?_
 ·refine ⟨1, [(f.to', a0)], rn0, bm, best, ⟨((hm.ext hX2).ext hEm).mod hM3 (fun e => ?_), hm3, by omega, hB, hD.done_of fun y hy hd => ?_, hnow0, hM13, Nat.le_refl _⟩, rfl, by omega, ?_⟩
  ·omega
  ·rcases hd with hd | ⟨h1, h2⟩
   ·exact hd
   ·have := hy.pos; omega
  ·simp
 rintro k ρ ds w4 ⟨h',nm,rn,bm,best,hI,rfl,hle,e3,e4,e5,e6,e10,e11,rfl⟩
 have c4 := b4.mod hI.md (nA _ (by omega))
 have c5 := b5.mod hI.md (nA _ (by omega))
 have c6 := b6.mod hI.md (nA _ (by omega))
 have hlenL := fun ty W => h.pl.isLen (P := Tryz.prog) (t := 22) (by simp) ty W
 have hixL := fun i hi W => RPl.index h.pl i hi W
 have hlenN := fun ty => hI.mn.len (P := Tryz.prog) (T := 247) (by simp) ty
 have hge := hI.ge
 have hsz4 := hI.md.size
 have hbl := h.bl
 have hX4 : Mod (fun k => k = rb) w w4 := hE.mod.trans hI.md
 have stop : (K < h' ∨ nm.length = 0) → DwR L snt F q.at_ K f done rb w w4 := fun hst => by
  refine ⟨bm,best,hI.mb,hI.bb,hI.bd.all ?_,hX4⟩
  rcases hst with hst | hst
  ·exact .inl hst
  ·have : nm = [] := List.length_eq_zero_iff.1 hst
   subst this
   exact .inr (hI.nw.empty hI.h1 fun n => rfl)
 have hh1 := hI.h1
 have hKL : K ≤ L.length := by rw [hK]; exact Nat.min_le_left _ _
 have hKM : K ≤ q.most.toNat := by rw [hK]; exact Nat.min_le_right _ _
 by_cases a0 : (h' : Int) ≤ L.length
 ·by_cases a1 : (h' : Int) ≤ q.most
  ·by_cases a2 : 0 < nm.length
   ·simp [e4,e6,e10,e11,c4.cell 0 _ rfl,(c6).cell 4 _ rfl,hlenL,hlenN,a0,a1,a2]
    have hE5 := (Ext.refl w4).alloc (.map #[] 0)
    have hmt5 := MapAt.alloc0 (Value.int .u32) (Value.int .u64) w4
    obtain ⟨o,hrg,hit6⟩ := (hI.mn.ext hE5).range (P := Tryz.prog) tmN
    have hE6 := (Ext.refl (w4.alloc (.map #[] 0))).alloc o
    have hmt6 := hmt5.ext hE6
    have hE46 := hE5.trans hE6
    have z6 : ((w4.alloc (.map #[] 0)).alloc o).heap.size = w4.heap.size + 2 := by simp
    obtain ⟨rt,hrt⟩ : ∃ r,r = w4.heap.size := ⟨_,rfl⟩
    obtain ⟨ib,hib⟩ : ∃ r,r = w4.heap.size + 1 := ⟨_,rfl⟩
    rw [show (w4.alloc (.map #[] 0)).heap.size = ib by rw [hib]; simp] at hit6 hrg
    simp [hrg]
    rw [← hrt]
    rw [← hrt] at hmt5 hmt6
    generalize (w4.alloc (.map #[] 0)).alloc o = w6 at *
    have hrnl := hI.mn.lt
    refine WC_loop (fun k ρ ds w' => DwL1 L snt F q.at_ K f done rb w.heap.size w1 h' nm rn rt ib k ρ ds w') nm.length ⟨[],bm,best,⟨hit6,hI.mb.ext hE46,hI.mn.ext hE46,hmt6,hI.bb,hI.bd,fun p hp => (by cases hp),hI.md.trans hE46.mod⟩,by simp,by simp [e3],by simp [e4],by simp [e5],by simp [e6],by simp [e10],by simp [e11],by simp,by simp,rfl⟩ ?_
    rintro k ρ2 ds w7 ⟨idxs,bm2,best2,hR,hk,f3,f4,f5,f6,f10,f11,f12,f64,rfl⟩
    have d4 := b4.mod hR.md (nA _ (by omega))
    have d5 := b5.mod hR.md (nA _ (by omega))
    have d6 := b6.mod hR.md (nA _ (by omega))
    have hs67 := hR.md.size
    rcases hR.it.next (P := Tryz.prog) 0 with ⟨hp, hrun⟩ | ⟨i, p, w8, hpi, hni, hrun, hI8, hM8, hent, hs8⟩
    ·simp [f64,hrun]
     have hbd' := hR.bd.hop hI.nw hR.sn fun n a hna => (seenOf_all hp).mem_iff.2 (mget_mem hna)
     have hbd := hbd'.next
     refine WC_loop (fun k ρ ds w' => DwL2 L snt rb w.heap.size w1 h' nm rn rt bm2 k ρ ds w') L.length ⟨0, [], ⟨hR.mb, hR.mn, hR.mt, ?_, hR.md⟩, by simp, by simp, by simp [f3], by simp [f4], by simp [f5], by simp [f6], by simp [f10], by simp [f11], by simp [f12], by simp, rfl⟩ ?_
     ·exact Gr.Rl.nil _
     rintro k ρ3 ds w8 ⟨i,am,hA,rfl,hi,g3,g4,g5,g6,g10,g11,g12,g18,rfl⟩
     have d4 := b4.mod hA.md (nA _ (by omega))
     have d6 := b6.mod hA.md (nA _ (by omega))
     have zz8 := hA.md.size
     have nx : IntKind.i64.wrap ((i : Int) + 1) = ((i + 1 : Nat) : Int) := by rw [wrap64 _ (by omega) (by omega)]; rfl
     by_cases hlt : i < L.length
     ·have hMw : Mod (fun k => k = rb) w w8 := hE.mod.trans hA.md
      have g := ctRow ((h.map_mod hm hMw).pl) hlt
      have htk : L.take (i + 1) = L.take i ++ [L[i]] := by rw [List.take_add_one,List.getElem?_eq_getElem hlt]; rfl
      have hcL : L[i] ∈ L := List.getElem_mem hlt
      have hrl' := hA.rl.snoc L[i]
      rw [← htk] at hrl'
      have hE9 : Ext w8 (w8.alloc (.cells #[u32 L[i].fr,u32 L[i].to',u64 L[i].sf,u64 L[i].su,u64 L[i].rate] 64)) := (Ext.refl w8).alloc _
      have hg9 : Blk (w8.alloc (.cells #[u32 L[i].fr,u32 L[i].to',u64 L[i].sf,u64 L[i].su,u64 L[i].rate] 64)) w8.heap.size (ctC L[i]) := Blk.new w8 (ctC L[i]) 64
      have hlk := (hA.mn.ext hE9).lookup (P := Tryz.prog) kU32 tmN (zU64 _) L[i].fr true
      simp only [if_true] at hlk
      simp [g4,g10,g18,d4.cell 0 _ rfl,hlenL,hlt,hixL i hlt,g.c0,g.c1,g.c2,g.c3,g.c4,hlk]
      generalize (w8.alloc (.cells #[u32 L[i].fr,u32 L[i].to',u64 L[i].sf,u64 L[i].su,u64 L[i].rate] 64)) = w9 at *
      generalize hc : L[i] = c at *
      have fin : ∀ (W : World) (am' : NM),mget am' = Gr.relax snt (mget nm) (mget am) c → nmAt W rt am' → wmAt W rb bm2 → nmAt W rn nm → Mod (fun k => k = rb) w1 W → DwR2 L snt rb w1 nm rn rt bm2 (i + 1) am' W := fun W am' h1 h2 h3 h4 h5 => ⟨h3,h4,h2,by rw [h1]; exact hrl',h5⟩
      cases hnt : mget nm c.fr with
      | none =>
       simp [g18,nx]
       refine ⟨L.length - (i + 1), by omega, i + 1, am, fin w9 am ?_ (hA.mt.ext hE9) (hA.mb.ext hE9) (hA.mn.ext hE9) (hA.md.trans hE9.mod), rfl, by omega, ?_⟩
       ·unfold Gr.relax; rw [hnt]
       ·simp [g3,g4,g5,g6,g10,g11,g12]
      | some tt =>
       have ht0 : 0 ≤ tt := by
        have h9 : q.at_ < tt := (hI.nw.is _ _ hnt).late hS
        have := hq.at_.1
        omega
       have d4' := d4.ext hE9
       have d6' := d6.ext hE9
       simp [g4,g6,d4'.cell 0 _ rfl,d4'.cell 1 _ rfl,d4'.cell 2 _ rfl,(d6').cell 3 _ rfl,(hg9).cell 0 _ rfl,(hg9).cell 1 _ rfl,(hg9).cell 2 _ rfl,(hg9).cell 3 _ rfl,(hg9).cell 4 _ rfl]
       refine FN.mono (dsent_c ((h.map_mod hm hMw).ext hE9) (h.ok c hcL) ht0 hq.size.1) ?_
       rintro _ wa ⟨rfl,hEa⟩
       rw [hsnt]
       have hga := hg9.ext hEa
       have hE8a := hE9.trans hEa
       have hlk2 := (hA.mt.ext hE8a).lookup (P := Tryz.prog) kU32 tmN (zU64 _) c.to' true
       simp only [if_true] at hlk2
       have hMt : ∀ (W : World) (b : Int), Mod (· = rt) wa W → wmAt W rb bm2 ∧ nmAt W rn nm ∧ Mod (fun k => k = rb) w1 W := fun W b hMW =>
        ⟨(hA.mb.ext hE8a).mod hMW (by omega),(hA.mn.ext hE8a).mod hMW (by omega),(hA.md.trans hE8a.mod).trans' hMW fun i hi => .inr (by omega)⟩
       have keep : (Gr.relax snt (mget nm) (mget am) c = mget am) → DwR2 L snt rb w1 nm rn rt bm2 (i + 1) am wa := fun he => fin wa am he.symm (hA.mt.ext hE8a) (hA.mb.ext hE8a) (hA.mn.ext hE8a) (hA.md.trans hE8a.mod)
       cases hsc : snt c tt with
       | none =>
        have hrx : Gr.relax snt (mget nm) (mget am) c = mget am := by unfold Gr.relax; rw [hnt]; simp only; rw [hsc]
        simp [g12,g18,nx,(hga).cell 1 _ rfl,hlk2]
        refine ⟨L.length - (i + 1),by omega,i + 1,am,keep hrx,rfl,by omega,?_⟩
        simp [g3,g4,g5,g6,g10,g11,g12]
       | some b =>
        obtain ⟨wc,hrunc,hmc,hMc,hsz⟩ := (hA.mt.ext hE8a).update (P := Tryz.prog) kU32 tmN c.to' b
        obtain ⟨k1,k2,k3⟩ := hMt wc b hMc
        cases hold : mget am c.to' with
        | none =>
         have hrx : mget (mset am c.to' b) = Gr.relax snt (mget nm) (mget am) c := by
          rw [upd_mset]; unfold Gr.relax; rw [hnt]; simp only; rw [hsc]; simp only; rw [hold]
         simp [g12,g18,(hga).cell 1 _ rfl,hlk2,hold,hrunc,nx]
         refine ⟨L.length - (i + 1),by omega,i + 1,_,fin wc _ hrx hmc k1 k2 k3,rfl,by omega,?_⟩
         simp [g3,g4,g5,g6,g10,g11,g12]
        | some old =>
         by_cases hbo : b < old
         ·have hrx : mget (mset am c.to' b) = Gr.relax snt (mget nm) (mget am) c := by
           rw [upd_mset]; unfold Gr.relax; rw [hnt]; simp only; rw [hsc]; simp only; rw [hold]; simp only; rw [if_pos hbo]
          simp [g12,g18,(hga).cell 1 _ rfl,hlk2,hold,hbo,hrunc,nx]
          refine ⟨L.length - (i + 1),by omega,i + 1,_,fin wc _ hrx hmc k1 k2 k3,rfl,by omega,?_⟩
          simp [g3,g4,g5,g6,g10,g11,g12]
         ·have hrx : Gr.relax snt (mget nm) (mget am) c = mget am := by
           unfold Gr.relax; rw [hnt]; simp only; rw [hsc]; simp only; rw [hold]; simp only; rw [if_neg hbo]
          simp [g12,g18,(hga).cell 1 _ rfl,hlk2,hold,hbo,nx]
          refine ⟨L.length - (i + 1),by omega,i + 1,am,keep hrx,rfl,by omega,?_⟩
          simp [g3,g4,g5,g6,g10,g11,g12]
     ·have : i = L.length := by omega
      subst this
      have hrlA := hA.rl
      rw [List.take_length] at hrlA
      simp [g4,g18,d4.cell 0 _ rfl,hlenL,g11,g12]
      have nxh : IntKind.i64.wrap ((h' : Int) + 1) = ((h' + 1 : Nat) : Int) := by rw [wrap64 _ (by omega) (by omega)]; rfl
      rw [nxh]
      refine ⟨L.length + 1 - (h' + 1),by omega,h' + 1,am,rt,bm2,best2,⟨hA.mb,hA.mt,by omega,hR.bb,hbd,hI.nw.next hS hI.h1 hrlA,hA.md,by omega⟩,rfl,by omega,?_⟩
      simp [g3,g4,g5,g6]
    ·have hlt7 := hR.it.lt
     have hx8 : ∀ k,k ≠ ib → k < w7.heap.size → w8.heap[k]? = w7.heap[k]? := fun k h1 h2 => hM8.blk k h2 h1
     have g4 := d4.mod hM8 (by omega)
     have g5 := d5.mod hM8 (by omega)
     have g6 := d6.mod hM8 (by omega)
     have mb8 := hR.mb.mod hM8 (by omega)
     have mn8 := hR.mn.mod hM8 (by omega)
     have mt8 := hR.mt.mod hM8 (by omega)
     have md8 : Mod (fun k => k = rb) w1 w8 := hR.md.trans' hM8 fun i hi => .inr (by omega)
     have hpm : mget nm p.1 = some p.2 := mget_of_mem hI.mn.nodup (List.mem_of_getElem? hpi)
     have hwk := hI.nw.is p.1 p.2 hpm
     have hb8 := hI8.bound
     simp only [List.length_append,List.length_singleton] at hb8
     obtain ⟨t,ht⟩ : ∃ t : Tl,t = ⟨p.2,h',f,p.1⟩ := ⟨_,rfl⟩
     have htn : t.n = p.1 := by rw [ht]
     have hE9 : Ext w8 (w8.alloc (.cells #[u64 p.2,i64 h',u32 f.to',u32 f.fr,u32 f.to',u64 f.sf,u64 f.su,u64 f.rate] 66)) := (Ext.refl w8).alloc _
     have hw9 : Blk (w8.alloc (.cells #[u64 p.2, i64 h', u32 f.to', u32 f.fr, u32 f.to', u64 f.sf, u64 f.su, u64 f.rate] 66)) w8.heap.size (wyC (tlWy t)) := by
      have := Blk.new w8 (wyC (tlWy t)) 66
      rw [ht] at this ⊢
      exact this
     have z9 : (w8.alloc (.cells #[u64 p.2,i64 h',u32 f.to',u32 f.fr,u32 f.to',u64 f.sf,u64 f.su,u64 f.rate] 66)).heap.size = w8.heap.size + 1 := by simp
     have hlk := (mb8.ext hE9).lookup (P := Tryz.prog) kU32 tmW (zWay _) p.1 true
     simp only [if_true] at hlk
     have hbg := hR.bb.get p.1
     simp [f64,hrun,hent,f3,f5,f11,(g5).cell 0 _ rfl,(g5).cell 1 _ rfl,(g5).cell 2 _ rfl,(g5).cell 3 _ rfl,(g5).cell 4 _ rfl,hlk]
     generalize (w8.alloc (.cells #[u64 p.2,i64 h',u32 f.to',u32 f.fr,u32 f.to',u64 f.sf,u64 f.su,u64 f.rate] 66)) = w9 at *
     have hEb : Ext w9 (w9.alloc (.cells #[u64 ((mget bm2 p.1).getD wyZ).a,i64 ((mget bm2 p.1).getD wyZ).h,u32 ((mget bm2 p.1).getD wyZ).n,u32 ((mget bm2 p.1).getD wyZ).f.fr,u32 ((mget bm2 p.1).getD wyZ).f.to',u64 ((mget bm2 p.1).getD wyZ).f.sf,u64 ((mget bm2 p.1).getD wyZ).f.su,u64 ((mget bm2 p.1).getD wyZ).f.rate] 66)) := (Ext.refl w9).alloc _
     have hwb : Blk (w9.alloc (.cells #[u64 ((mget bm2 p.1).getD wyZ).a,i64 ((mget bm2 p.1).getD wyZ).h,u32 ((mget bm2 p.1).getD wyZ).n,u32 ((mget bm2 p.1).getD wyZ).f.fr,u32 ((mget bm2 p.1).getD wyZ).f.to',u64 ((mget bm2 p.1).getD wyZ).f.sf,u64 ((mget bm2 p.1).getD wyZ).f.su,u64 ((mget bm2 p.1).getD wyZ).f.rate] 66)) w9.heap.size (wyC ((mget bm2 p.1).getD wyZ)) := Blk.new w9 (wyC ((mget bm2 p.1).getD wyZ)) 66
     generalize (w9.alloc (.cells #[u64 ((mget bm2 p.1).getD wyZ).a,i64 ((mget bm2 p.1).getD wyZ).h,u32 ((mget bm2 p.1).getD wyZ).n,u32 ((mget bm2 p.1).getD wyZ).f.fr,u32 ((mget bm2 p.1).getD wyZ).f.to',u64 ((mget bm2 p.1).getD wyZ).f.sf,u64 ((mget bm2 p.1).getD wyZ).f.su,u64 ((mget bm2 p.1).getD wyZ).f.rate] 66)) = wb at *
     rw [z9] at hwb
     have hE8b := hE9.trans hEb
     have hwt := hw9.ext hEb
     have hmbb := mb8.ext hE8b
     have fin : ∀ (W : World) (bm' : List (Int × Wy)), Mod (fun k => k = rb) wb W → wmAt W rb bm' → BMap bm' (Gr.bet best2 t) → DwR1 L snt F q.at_ K f done rb w1 h' nm rn rt ib (idxs ++ [i]) bm' (Gr.bet best2 t) W := fun W bm' hMW hmW hbW =>
      {it := ((hI8.mod (hE8b.mod (S := fun k => k = rb)) (by omega) (by omega)).mod hMW (by omega) (by omega))
       mb := hmW
       mn := (mn8.ext hE8b).mod hMW (by omega)
       mt := (mt8.ext hE8b).mod hMW (by omega)
       bb := hbW
       bd := Gr.bet_is hR.bd (by rw [ht]; exact hwk) (by rw [ht]; simp only; rw [hK]; exact Nat.le_min.2 ⟨by omega,by omega⟩)
       sn := by rw [seenOf_snoc hpi,ht]; exact hR.sn.bet p
       md := (md8.trans hE8b.mod).trans hMW }
     obtain ⟨wc,hrunc,hmc,hMc,hsc⟩ := hmbb.update (P := Tryz.prog) kU32 tmW p.1 (tlWy t)
     cases hb2 : best2 p.1 with
     | none =>
      rw [hb2] at hbg
      have hbg : mget bm2 p.1 = none := hbg
      simp only [wyV] at hrunc
      simp [hbg,f3,(hwt).cell 0 _ rfl,(hwt).cell 1 _ rfl,(hwt).cell 2 _ rfl,(hwt).cell 3 _ rfl,(hwt).cell 4 _ rfl,(hwt).cell 5 _ rfl,(hwt).cell 6 _ rfl,(hwt).cell 7 _ rfl,hrunc]
      have hbm := hR.bb.put t (.inl (by rw [htn]; exact hb2))
      rw [htn] at hbm
      refine ⟨k - 1,by omega,idxs ++ [i],_,_,fin wc _ hMc hmc hbm,by simp; omega,?_⟩
      simp [f3,f4,f5,f6,f10,f11,f12,f64]
     | some o =>
      rw [hb2] at hbg
      have hbg : mget bm2 p.1 = some (tlWy o) := hbg
      rw [hbg] at hwb
      simp [hbg,(hwt).cell 0 _ rfl,(hwt).cell 1 _ rfl,(hwt).cell 2 _ rfl,(hwt).cell 3 _ rfl,(hwt).cell 4 _ rfl,(hwt).cell 5 _ rfl,(hwt).cell 6 _ rfl,(hwt).cell 7 _ rfl,(hwb).cell 0 _ rfl,(hwb).cell 1 _ rfl,(hwb).cell 2 _ rfl,(hwb).cell 3 _ rfl,(hwb).cell 4 _ rfl,(hwb).cell 5 _ rfl,(hwb).cell 6 _ rfl,(hwb).cell 7 _ rfl]
      refine FN.mono (dbetter_c (tlWy t) (tlWy o) wb) ?_
      rintro _ wd ⟨rfl,hEd⟩
      by_cases hkl : Gr.keyLt t o
      ·rw [show decide (wyLt (tlWy t) (tlWy o)) = true from decide_eq_true ((wy_key t o).2 hkl)]
       obtain ⟨we,hrune,hme,hMe,hse⟩ := (hmbb.ext hEd).update (P := Tryz.prog) kU32 tmW p.1 (tlWy t)
       simp only [wyV] at hrune
       have hwt2 := hwt.ext hEd
       simp [f3,(hwt2).cell 0 _ rfl,(hwt2).cell 1 _ rfl,(hwt2).cell 2 _ rfl,(hwt2).cell 3 _ rfl,(hwt2).cell 4 _ rfl,(hwt2).cell 5 _ rfl,(hwt2).cell 6 _ rfl,(hwt2).cell 7 _ rfl,hrune]
       have hbm := hR.bb.put t (.inr ⟨o,by rw [htn]; exact hb2,hkl⟩)
       rw [htn] at hbm
       refine ⟨k - 1,by omega,idxs ++ [i],_,_,fin we _ (hEd.mod.trans hMe) hme hbm,by simp; omega,?_⟩
       simp [f3,f4,f5,f6,f10,f11,f12,f64]
      ·rw [show decide (wyLt (tlWy t) (tlWy o)) = false from decide_eq_false fun e => hkl ((wy_key t o).1 e)]
       simp
       have hbm := hR.bb.stay t (by rw [htn]; exact hb2) hkl
       refine ⟨k - 1,by omega,idxs ++ [i],_,_,fin wd _ hEd.mod (hmbb.ext hEd) hbm,by simp; omega,?_⟩
       simp [f3,f4,f5,f6,f10,f11,f12,f64]
   ·simp [e4,e6,e10,e11,c4.cell 0 _ rfl,(c6).cell 4 _ rfl,hlenL,hlenN,a0,a1,a2]
    exact stop (.inr (by omega))
  ·simp [e4,e6,e11,c4.cell 0 _ rfl,(c6).cell 4 _ rfl,hlenL,a0,a1]
   exact stop (.inl (by omega))
 ·simp [e4,e11,c4.cell 0 _ rfl,hlenL,a0]
  exact stop (.inl (by omega))
end Go.Proofs