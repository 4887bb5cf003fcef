/-
 Contracts of the functions that the law reaches,step by step.
-/
import Derived.Test.YtdflcfoalhhjlaaGreatGdC
namespace Go.Proofs
open Pk
set_option maxRecDepth 10000
structure HeapAt (w : World) (b base : Nat) (v : Value) (l : List Tl) : Prop where
 blk : Blk w b [v]
 row : WRow w base 173 9 v l.length (l.flatMap tlC)
 lt : b < base
theorem HeapAt.ext {w w' : World} {b base : Nat} {v : Value} {l : List Tl} (h : HeapAt w b base v l) (hE : Ext w w') : HeapAt w' b base v l := ⟨h.blk.ext hE,wrow_keep h.row fun _ hl => hE.blk _ hl,h.lt⟩
abbrev hpV (b : Nat) : Value := .iface 240 (ptr b)
theorem m_val {w : World} {b : Nat} {v : Value} (h : Blk w b [v]) (name : String) (f : FuncId) (hr : mrow Tryz.prog 240 name = some (#[], some (f, false))) : (method (Tryz.prog.types.size + Made.depth) 240 (ptr b) name).run Tryz.prog w = .ok (f, v) w := by
 obtain ⟨k,hk⟩ := fuelM
 rw [hk,method_row k (f := f) (pr := false) hr]
 simp [receiverAt,Place.get,run_wrapnil,h.cell 0 _ rfl]
theorem m_ptr (w : World) (b : Nat) (name : String) (f : FuncId) (hr : mrow Tryz.prog 240 name = some (#[], some (f, true))) : (method (Tryz.prog.types.size + Made.depth) 240 (ptr b) name).run Tryz.prog w = .ok (f, ptr b) w := by
 obtain ⟨k,hk⟩ := fuelM
 rw [hk,method_row k (f := f) (pr := true) hr]
 simp [receiverAt,Place.get]
theorem iv_len {w : World} {b base : Nat} {v : Value} {l : List Tl} (h : HeapAt w b base v l) : IV Tryz.prog "Len" [hpV b] w fun e w' => e = .returned (i64 l.length) ∧ w' = w :=
 IV_of (m_val h.blk "Len" 126 (by kernel_rfl)) (hlen_c (wrow_sl h.row))
theorem iv_less {w : World} {b base : Nat} {v : Value} {l : List Tl} (h : HeapAt w b base v l) {i j : Nat} (hi : i < l.length) (hj : j < l.length) : IV Tryz.prog "Less" [hpV b, i64 i, i64 j] w fun e w' => e = .returned (.bool (decide (Gr.keyLt l[i] l[j]))) ∧ Ext w w' :=
 IV_of (m_val h.blk "Less" 222 (by kernel_rfl)) (hless_c (wrow_sl h.row) hi hj)
theorem iv_swap {w : World} {b base : Nat} {v : Value} {l : List Tl} (h : HeapAt w b base v l) {i j : Nat} (hi : i < l.length) (hj : j < l.length) : IV Tryz.prog "Swap" [hpV b, i64 i, i64 j] w fun e w' => (∃ u, e = .returned u) ∧ HeapAt w' b base v (Gr.lsw l i j) ∧ Mod (fun k => k = slB v) w w' := by
 refine IV_of (m_val h.blk "Swap" 225 (by kernel_rfl)) (FN.mono (hswap_c h.row hi hj) ?_)
 rintro e w' ⟨h1,h2,h3⟩
 have hn := wrow_nil h.row (by omega)
 have hge := wrow_ge h.row hn
 have hlt := h.lt
 exact ⟨h1,⟨h.blk.mod h3 (by omega),h2,h.lt⟩,h3⟩
theorem up_c {w : World} {b base : Nat} {v : Value} {l : List Tl} {j : Nat} (h : HeapAt w b base v l) (hb : l.length ≤ 1048576) (hU : Gr.HeapUp (Gr.atL l) l.length j) :
  FN Tryz.prog 162 [hpV b,i64 j] w fun e w' => (∃ u,e = .returned u) ∧ ∃ l',HeapAt w' b base v l' ∧ Gr.LHeap l' ∧ l'.Perm l ∧ Mod (fun k => k = slB v) w w' := by
 refine FN_enter Tryz.func162 rfl rfl (by kernel_rfl) ?_
 simp
 refine WC_loop (fun k ρ ds w' => ∃ l',ρ 0 = hpV b ∧ ρ 1 = i64 k ∧ ds = [] ∧ HeapAt w' b base v l' ∧ Gr.HeapUp (Gr.atL l') l'.length k ∧ l'.Perm l ∧ Mod (fun k => k = slB v) w w') j ⟨l,by simp,by simp,rfl,h,hU,List.Perm.refl _,Mod.refl _ _⟩ ?_
 rintro k ρ ds w1 ⟨l',e0,e1,rfl,h1,hU1,hp,hM⟩
 have hll := hp.length_eq
 have hkl := hU1.lt
 by_cases hk0 : k = 0
 ·subst hk0
  have qz : IntKind.i64.wrap ((IntKind.i64.wrap (-1)).tdiv 2) = 0 := by decide
  simp [e1,qz]
  exact ⟨l',h1,hU1.stop (.inl rfl),hp,hM⟩
 ·have hpk := Gr.par_lt (i := k) (by omega)
  have q1 : IntKind.i64.wrap ((k : Int) - 1) = ((k - 1 : Nat) : Int) := by rw [wrap64 _ (by omega) (by omega)]; omega
  have q2 : IntKind.i64.wrap (((k - 1 : Nat) : Int) / 2) = ((Gr.par k : Nat) : Int) := by
   unfold Gr.par
   rw [wrap64 _ (by omega) (by omega)]
   omega
  have hne : ¬ ((Gr.par k : Nat) : Int) = (k : Int) := by omega
  simp [e0,e1,q1,q2,beq_dec,hne]
  refine IV.mono (iv_less h1 hkl (show Gr.par k < l'.length by omega)) ?_
  rintro _ w2 ⟨rfl,hE2⟩
  have h2 := h1.ext hE2
  have ak := atL_in hkl
  have ap := atL_in (show Gr.par k < l'.length by omega)
  by_cases hlt : Gr.keyLt l'[k] (l'[Gr.par k]'(by omega))
  ·simp [e0,e1,hlt]
   refine IV.mono (iv_swap h2 (show Gr.par k < l'.length by omega) hkl) ?_
   rintro _ w3 ⟨⟨u,rfl⟩,h3,hM3⟩
   simp [e0]
   have hst := hU1.step (by omega) (by rw [ak,ap]; exact hlt)
   rw [← Gr.lsw_at (by omega) hkl] at hst
   have hpl := (Gr.lsw_perm (l := l') (i := Gr.par k) (j := k) (by omega) hkl)
   refine ⟨Gr.par k,hpk,rfl,Gr.lsw l' (Gr.par k) k,h3,by rw [Gr.lsw_len]; exact hst,hpl.trans hp,(hM.trans hE2.mod).trans hM3⟩
  ·simp [hlt]
   exact ⟨l',h2,hU1.stop (.inr (by rw [ak,ap]; exact hlt)),hp,hM.trans hE2.mod⟩
theorem lsw_other {l : List Tl} {i j k : Nat} (hi : i < l.length) (hj : j < l.length) (h1 : k ≠ i) (h2 : k ≠ j) : Gr.atL (Gr.lsw l i j) k = Gr.atL l k := by
 rw [Gr.lsw_at hi hj]
 unfold Gr.gsw
 rw [if_neg h1,if_neg h2]
theorem par_of {i k : Nat} (h0 : 0 < k) : Gr.par k = i ↔ k = 2 * i + 1 ∨ k = 2 * i + 2 := by unfold Gr.par; omega
def DownI (w : World) (b base n : Nat) (v : Value) (l : List Tl) (k : Nat) (ρ : Env) (ds : List Deferred) (w' : World) : Prop := ∃ (i : Nat) (l' : List Tl),k = n - i ∧ i ≤ n ∧ ρ 0 = hpV b ∧ ρ 1 = i64 0 ∧ ρ 2 = i64 n ∧ ρ 7 = i64 i ∧ ds = [] ∧ HeapAt w' b base v l' ∧ Gr.HeapDown (Gr.atL l') n i ∧ l'.Perm l ∧ (∀ k,n ≤ k → Gr.atL l' k = Gr.atL l k) ∧ Mod (fun k => k = slB v) w w'
set_option maxHeartbeats 1000000 in
theorem down_c {w : World} {b base n : Nat} {v : Value} {l : List Tl} (h : HeapAt w b base v l) (hb : l.length ≤ 1048576) (hn : n ≤ l.length) (hD : Gr.HeapDown (Gr.atL l) n 0) :
  FN Tryz.prog 165 [hpV b,i64 0,i64 n] w fun e w' => (∃ u,e = .returned u) ∧ ∃ l',HeapAt w' b base v l' ∧ Gr.HeapOk (Gr.atL l') n ∧ l'.Perm l ∧ (∀ k,n ≤ k → Gr.atL l' k = Gr.atL l k) ∧ Mod (fun k => k = slB v) w w' := by
 refine FN_enter Tryz.func165 rfl rfl (by kernel_rfl) ?_
 simp
 refine WC_loop (fun k ρ ds w' => DownI w b base n v l k ρ ds w') n
  ⟨0,l,by simp,by simp,by simp,by simp,by simp,by simp,rfl,h,hD,List.Perm.refl _,fun _ _ => rfl,Mod.refl _ _⟩ ?_
 rintro k ρ ds w1 ⟨i,l',rfl,hi,e0,e1,e2,e7,rfl,h1,hD1,hp,hk,hM⟩
 have hll := hp.length_eq
 obtain ⟨a,ha⟩ : ∃ a : Nat,a = 2 * i + 1 := ⟨_,rfl⟩
 obtain ⟨c,hc⟩ : ∃ c : Nat,c = a + 1 := ⟨_,rfl⟩
 have q1 : IntKind.i64.wrap (IntKind.i64.wrap (2 * (i : Int)) + 1) = (a : Int) := by
  rw [wrap64 (2 * (i : Int)) (by omega) (by omega),wrap64 _ (by omega) (by omega)]; omega
 have q2 : IntKind.i64.wrap ((a : Int) + 1) = (c : Int) := by
  rw [wrap64 _ (by omega) (by omega)]; omega
 by_cases h1n : n ≤ a
 ·simp [e1,e2,e7,q1,h1n]
  refine ⟨l',h1,hD1.stop fun k k0 kn hk' => ?_,hp,hk,hM⟩
  have := (par_of k0).1 hk'
  omega
 ·have hneg : ¬ (a : Int) < 0 := by omega
  simp [e2,e7,q1,q2,h1n,hneg]
  have hil : i < l'.length := by omega
  have hal : a < l'.length := by omega
  refine with_tail (T := ∀ (σ : Env) (W : World) (j : Nat), (σ 0 = hpV b ∧ σ 1 = i64 0 ∧ σ 2 = i64 n ∧ σ 7 = i64 i ∧ σ 9 = i64 j) ∧ HeapAt W b base v l' ∧ Ext w1 W ∧ (j = a ∨ j = c) ∧ j < n ∧ (∀ k, 0 < k → k < n → Gr.par k = i → ¬ Gr.keyLt (Gr.atL l' k) (Gr.atL l' j)) → IV Tryz.prog "Less" [hpV b, i64 j, i64 i] W (RC (some 38) ?K ?Q σ [])) (fun tail => ?_) ?_
  rotate_left 2
  ·by_cases hcn : c < n
   ·have hcl : c < l'.length := by omega
    simp [e0,hcn]
    refine IV.mono (iv_less h1 hcl hal) ?_
    rintro _ w2 ⟨rfl,hE2⟩
    have ac := atL_in hcl
    have aa := atL_in hal
    by_cases hlt : Gr.keyLt l'[c] l'[a]
    ·simp [e0,e7,hlt]
     refine tail _ _ c ⟨?_, h1.ext hE2, hE2, .inr rfl, hcn, fun k k0 kn hk' => ?_⟩
     ·simp [e0,e1,e2,e7]
     ·rcases (par_of k0).1 hk' with e | e
      ·rw [show k = a by omega,ac,aa]; exact Gr.lt_asymm hlt
      ·rw [show k = c by omega]; exact Gr.keyLt_irrefl _
    ·simp [e0,e7,hlt]
     refine tail _ _ a ⟨?_, h1.ext hE2, hE2, .inl rfl, by omega, fun k k0 kn hk' => ?_⟩
     ·simp [e0,e1,e2,e7]
     ·rcases (par_of k0).1 hk' with e | e
      ·rw [show k = a by omega]; exact Gr.keyLt_irrefl _
      ·rw [show k = c by omega,ac,aa]; exact hlt
   ·simp [e0,e7,hcn]
    refine tail _ _ a ⟨?_, h1, Ext.refl _, .inl rfl, by omega, fun k k0 kn hk' => ?_⟩
    ·simp [e0,e1,e2,e7]
    ·rcases (par_of k0).1 hk' with e | e
     ·rw [show k = a by omega]; exact Gr.keyLt_irrefl _
     ·omega
  ·rintro σ W j ⟨⟨s0,s1,s2,s7,s9⟩,hW,hEW,hj,hjn,hmin⟩
   have hjl : j < l'.length := by omega
   refine IV.mono (iv_less hW hjl hil) ?_
   rintro _ w2 ⟨rfl,hE2⟩
   have h2 := hW.ext hE2
   have aj := atL_in hjl
   have ai := atL_in hil
   have hpj : Gr.par j = i := (par_of (by omega)).2 (by omega)
   by_cases hlt : Gr.keyLt l'[j] l'[i]
   ·simp [s0,s7,s9,hlt]
    refine IV.mono (iv_swap h2 hil hjl) ?_
    rintro _ w3 ⟨⟨u,rfl⟩,h3,hM3⟩
    simp [s9]
    unfold DownI
    have hst := hD1.step (j := j) (by omega) hjn hpj hmin (by rw [aj,ai]; exact hlt)
    rw [← Gr.lsw_at hil hjl] at hst
    have hpl := Gr.lsw_perm (l := l') (i := i) (j := j) hil hjl
    refine ⟨n - j,by omega,j,Gr.lsw l' i j,rfl,by omega,by simp [s0],by simp [s1],by simp [s2],by simp,rfl,h3,hst,hpl.trans hp,fun k hkn => ?_,((hM.trans hEW.mod).trans hE2.mod).trans hM3⟩
    rw [lsw_other hil hjl (by omega) (by omega)]
    exact hk k hkn
   ·simp [s1,s7,hlt]
    refine ⟨l',h2,hD1.stop fun k k0 kn hk' => ?_,hp,hk,(hM.trans hEW.mod).trans hE2.mod⟩
    have := hmin k k0 kn hk'
    exact Gr.nlt_trans this (by rw [aj,ai]; exact hlt)
end Go.Proofs
namespace Go.Proofs
open Pk
set_option maxRecDepth 10000
theorem tl_one (z : Tl) (u : Value) (h : u ∈ tlC z) : u.oneCell' = true := by
 simp at h
 rcases h with rfl | rfl | rfl | rfl | rfl | rfl | rfl | rfl | rfl <;> rfl
theorem hpush_c {w : World} {b base : Nat} {v : Value} {l : List Tl} (h : HeapAt w b base v l) (hbase : base ≤ w.heap.size) (hb : l.length + 1 ≤ 1048576) (x : Tl) :
  FN Tryz.prog 224 [ptr b,.iface 173 (tlV x)] w fun e w' => (∃ u,e = .returned u) ∧ ∃ v',HeapAt w' b base v' (l ++ [x]) ∧ Mod (fun k => k = b ∨ (slN v = false ∧ k = slB v)) w w' ∧ (slN v' = false → (slN v = false ∧ slB v' = slB v) ∨ w.heap.size ≤ slB v') := by
 refine FN_enter Tryz.func224 rfl rfl (by kernel_rfl) ?_
 simp
 have hXb : Xf (fun k => slN v = false ∧ k = slB v) b = false := Xf_f fun hk => by
  have := wrow_ge h.row hk.1
  have := h.lt
  omega
 refine WC_drawC 8 (.F 0 <| .F 1 <| .F 2 <| .F 3 <| .F 4 <| .C 5 <| .C 6 <| .C 7 <| .Z) (Xf (fun k => slN v = false ∧ k = slB v)) rfl (by kernel_rfl) fun W hW => ?_
 have hE : Ext w W := hW ▸ Ext.drew w
 have h1 := h.ext hE
 have hta : (Instr.typeAssert (.iface 173 (tlV x)) 20 173 false).run Tryz.prog W = .ok (tlV x) W := by simp [Instr.typeAssert]
 simp [h1.blk.cell 0 _ rfl,hXb]
 simp [Instr.typeAssert]
 refine KR_same ?_
 simp
 have hE2 := (Ext.refl W).alloc (.cells #[u64 x.a,i64 x.h,u32 x.f.to',u32 x.f.fr,u32 x.f.to',u64 x.f.sf,u64 x.f.su,u64 x.f.rate,u32 x.n] 173)
 have s2 : Sl (W.alloc (.cells #[u64 x.a,i64 x.h,u32 x.f.to',u32 x.f.fr,u32 x.f.to',u64 x.f.sf,u64 x.f.su,u64 x.f.rate,u32 x.n] 173)) 9 (.slice (some ⟨W.heap.size,0,none⟩) 1 1) 1 ([x].flatMap tlC) := Sl.made W (tlC x) 173 9 1 rfl
 refine KR_ext hE2 ?_
 have h2 := h1.ext hE2
 have hsz := (hE.trans hE2).size
 generalize (W.alloc (.cells #[u64 x.a,i64 x.h,u32 x.f.to',u32 x.f.fr,u32 x.f.to',u64 x.f.sf,u64 x.f.su,u64 x.f.rate,u32 x.n] 173)) = W2 at *
 obtain ⟨v',W3,hr,ho,hM,hnew⟩ := wrow_append (P := Tryz.prog) (t := 209) (ty := 209) (e := 173) (s := 9) (by simp) (by simp) (by kernel_rfl) h2.row s2 (fun u hu => by obtain ⟨z,-,hz⟩ := List.mem_flatMap.1 hu; exact tl_one z u hz) hb (by omega) (by omega)
 obtain ⟨a3,c3,rfl⟩ := wrow_val ho
 simp [hr]
 refine KR_mk (Xf_agr hM) ?_
 have hlt := h.lt
 have hb3 : Blk W3 b [v] := h2.blk.mod hM (fun hk => by have := wrow_ge h2.row hk.1; omega)
 simp [hb3.cell 0 _ rfl,hb3.thaw 0]
 have hMb := Mod.setCell (S := (· = b)) (Mod.refl _ W3) ⟨b,0,none⟩ (.slice a3 (l.length + 1) c3) (.inl rfl)
 have hlen : (l ++ [x]).length = l.length + 1 := by simp
 refine ⟨.slice a3 (l.length + 1) c3,⟨hb3.set 0 _,?_,h.lt⟩,((hE.trans hE2).mod.trans (hM.weaken fun k hk => .inr hk)).trans (hMb.weaken fun k hk => .inl hk),fun hn => (hnew hn).imp id fun h => by omega⟩
 rw [hlen,List.flatMap_append]
 exact wrow_keep ho fun hn _ => hMb.blk _ (by
  have hgt := wrow_ge ho hn
  obtain ⟨-,h2⟩ := ho
  rcases h2 with ⟨h2, -⟩ | ⟨g, cap, cur, h2, a1, a2, a3⟩
  ·cases h2
  ·cases h2; exact (Array.getElem?_eq_some_iff.1 a2).1) (by have := wrow_ge ho hn; omega)
theorem hpop_c {w : World} {b base : Nat} {v : Value} {l : List Tl} {n : Nat} (h : HeapAt w b base v l) (hn : l.length = n + 1) (hb : l.length ≤ 1048576) :
  FN Tryz.prog 223 [ptr b] w fun e w' => e = .returned (.iface 173 (tlV (l[n]'(by omega)))) ∧ HeapAt w' b base (slcHM v n n) (l.take n) ∧ Mod (· = b) w w' := by
 refine FN_enter Tryz.func223 rfl rfl (by kernel_rfl) ?_
 have hS := wrow_sl h.row
 have hlen := fun ty W => hS.isLen (P := Tryz.prog) (t := 209) (by simp) ty W
 have g := tlRow hS (i := n) (by omega)
 have ix := fun W => hS.index (P := Tryz.prog) (t := 209) (by simp) .i64 n (by omega) (by omega) W
 have q1 : IntKind.i64.wrap ((l.length : Int) - 1) = (n : Int) := by rw [wrap64 _ (by omega) (by omega)]; omega
 have sHM := fun W => hS.sliceHM (P := Tryz.prog) (t := 209) (by simp) .i64 .i64 n n (by omega) (by omega) (by omega) W
 have hcut := wrow_cut h.row n (by omega)
 rw [← flat_take tlC (s := 9) (fun _ => rfl)] at hcut
 obtain ⟨a1,c1,e1⟩ := wrow_val hcut
 simp at ix sHM
 rw [e1] at sHM hcut
 simp [h.blk.cell 0 _ rfl,hlen,q1,ix,g.c0,g.c1,g.c2,g.c3,g.c4,g.c5,g.c6,g.c7,g.c8]
 have hE := (Ext.refl w).alloc (.cells #[u64 (l[n]'(by omega)).a,i64 (l[n]'(by omega)).h,u32 (l[n]'(by omega)).f.to',u32 (l[n]'(by omega)).f.fr,u32 (l[n]'(by omega)).f.to',u64 (l[n]'(by omega)).f.sf,u64 (l[n]'(by omega)).f.su,u64 (l[n]'(by omega)).f.rate,u32 (l[n]'(by omega)).n] 173)
 have hT : Blk (w.alloc (.cells #[u64 (l[n]'(by omega)).a,i64 (l[n]'(by omega)).h,u32 (l[n]'(by omega)).f.to',u32 (l[n]'(by omega)).f.fr,u32 (l[n]'(by omega)).f.to',u64 (l[n]'(by omega)).f.sf,u64 (l[n]'(by omega)).f.su,u64 (l[n]'(by omega)).f.rate,u32 (l[n]'(by omega)).n] 173)) w.heap.size (tlC (l[n]'(by omega))) := Blk.new w (tlC (l[n]'(by omega))) 173
 have hbl := h.blk.lt
 generalize (w.alloc (.cells #[u64 (l[n]'(by omega)).a,i64 (l[n]'(by omega)).h,u32 (l[n]'(by omega)).f.to',u32 (l[n]'(by omega)).f.fr,u32 (l[n]'(by omega)).f.to',u64 (l[n]'(by omega)).f.sf,u64 (l[n]'(by omega)).f.su,u64 (l[n]'(by omega)).f.rate,u32 (l[n]'(by omega)).n] 173)) = W1 at *
 have h1 := h.blk.ext hE
 have hM := Mod.setCell (S := (· = b)) (Mod.refl _ W1) ⟨b,0,none⟩ (.slice a1 n c1) (.inl rfl)
 have hT2 := hT.mod hM (by omega)
 simp [sHM,h1.cell 0 _ rfl,h1.thaw 0]
 simp [hT2.cell 0 _ rfl,hT2.cell 1 _ rfl,hT2.cell 2 _ rfl,hT2.cell 3 _ rfl,hT2.cell 4 _ rfl,hT2.cell 5 _ rfl,hT2.cell 6 _ rfl,hT2.cell 7 _ rfl,hT2.cell 8 _ rfl]
 have hlt := h.lt
 have htl : (l.take n).length = n := by rw [List.length_take]; omega
 refine ⟨?_,hE.mod.trans hM⟩
 rw [e1]
 refine ⟨h1.set 0 _,?_,h.lt⟩
 rw [htl]
 exact wrow_keep hcut fun hs hl => by
  have hge := wrow_ge hcut hs
  rw [hM.blk _ (Nat.lt_of_lt_of_le hl hE.size) (by omega)]
  exact hE.blk _ hl
end Go.Proofs
namespace Go.Proofs
open Pk
set_option maxRecDepth 10000
theorem iv_push {w : World} {b base : Nat} {v : Value} {l : List Tl} (h : HeapAt w b base v l) (hbase : base ≤ w.heap.size) (hb : l.length + 1 ≤ 1048576) (x : Tl) :
  IV Tryz.prog "Push" [hpV b, .iface 173 (tlV x)] w fun e w' => (∃ u, e = .returned u) ∧ ∃ v', HeapAt w' b base v' (l ++ [x]) ∧ Mod (fun k => k = b ∨ (slN v = false ∧ k = slB v)) w w' ∧ (slN v' = false → (slN v = false ∧ slB v' = slB v) ∨ w.heap.size ≤ slB v') :=
 IV_of (m_ptr w b "Push" 224 (by kernel_rfl)) (hpush_c h hbase hb x)
theorem iv_pop {w : World} {b base : Nat} {v : Value} {l : List Tl} {n : Nat} (h : HeapAt w b base v l) (hn : l.length = n + 1) (hb : l.length ≤ 1048576) :
  IV Tryz.prog "Pop" [hpV b] w fun e w' => e = .returned (.iface 173 (tlV (l[n]'(by omega)))) ∧ HeapAt w' b base (slcHM v n n) (l.take n) ∧ Mod (· = b) w w' :=
 IV_of (m_ptr w b "Pop" 223 (by kernel_rfl)) (hpop_c h hn hb)
theorem heapPush_c {w : World} {b base : Nat} {v : Value} {l : List Tl} (h : HeapAt w b base v l) (hbase : base ≤ w.heap.size) (hb : l.length + 1 ≤ 1048576) (hL : Gr.LHeap l) (x : Tl) :
  FN Tryz.prog 144 [hpV b,.iface 173 (tlV x)] w fun e w' => (∃ u,e = .returned u) ∧ ∃ v' l',HeapAt w' b base v' l' ∧ Gr.LHeap l' ∧ l'.Perm (x :: l) ∧ Mod (fun k => k = b ∨ (slN v = false ∧ k = slB v)) w w' ∧ (slN v' = false → (slN v = false ∧ slB v' = slB v) ∨ w.heap.size ≤ slB v') := by
 refine FN_enter Tryz.func144 rfl rfl (by kernel_rfl) ?_
 simp
 refine IV.mono (iv_push h hbase hb x) ?_
 rintro _ w1 ⟨⟨u,rfl⟩,v',h1,hM,hnew⟩
 simp
 refine IV.mono (iv_len h1) ?_
 rintro _ w2 ⟨rfl,hw⟩
 subst hw
 have hlen : (l ++ [x]).length = l.length + 1 := by simp
 have q1 : IntKind.i64.wrap (l.length : Int) = (l.length : Int) := wrap64 _ (by omega) (by omega)
 simp only [hlen]
 simp
 rw [q1]
 have hU : Gr.HeapUp (Gr.atL (l ++ [x])) (l ++ [x]).length l.length := by
  rw [Gr.atL_append,hlen]
  exact Gr.HeapOk.push hL x
 refine FN.mono (up_c h1 (by rw [hlen]; exact hb) hU) ?_
 rintro _ w3 ⟨⟨u3,rfl⟩,l',h3,hL3,hp,hM3⟩
 simp
 have hn := wrow_nil h1.row (by rw [hlen]; omega)
 refine ⟨v',l',h3,hL3,hp.trans (List.perm_append_comm),hM.trans' hM3 fun i hi => ?_,hnew⟩
 rcases hnew hn with ⟨g1, g2⟩ | g
 ·exact .inl (.inr ⟨g1,by rw [hi,g2]⟩)
 ·exact .inr (by omega)
theorem heapPop_c {w : World} {b base : Nat} {v : Value} {l : List Tl} {n : Nat} (h : HeapAt w b base v l) (hn : l.length = n + 1) (hb : l.length ≤ 1048576) (hL : Gr.LHeap l) :
  FN Tryz.prog 148 [hpV b] w fun e w' => e = .returned (.iface 173 (tlV (l[0]'(by omega)))) ∧ ∃ l',HeapAt w' b base (slcHM v n n) l' ∧ Gr.LHeap l' ∧ ((l[0]'(by omega)) :: l').Perm l ∧ Mod (fun k => k = b ∨ k = slB v) w w' := by
 refine FN_enter Tryz.func148 rfl rfl (by kernel_rfl) ?_
 simp
 refine IV.mono (iv_len h) ?_
 rintro _ w1 ⟨rfl,hw⟩
 subst hw
 have q1 : IntKind.i64.wrap ((l.length : Int) - 1) = (n : Int) := by rw [wrap64 _ (by omega) (by omega)]; omega
 simp [q1]
 refine IV.mono (iv_swap h (i := 0) (j := n) (by omega) (by omega)) ?_
 rintro _ w2 ⟨⟨u,rfl⟩,h2,hM2⟩
 simp
 have hl1 := Gr.lsw_len l 0 n
 have hD : Gr.HeapDown (Gr.atL (Gr.lsw l 0 n)) n 0 := by
  rw [Gr.lsw_at (by omega) (by omega)]
  refine Gr.HeapOk.pop ?_
  rw [← hn]; exact hL
 refine FN.mono (down_c h2 (by omega) (by omega) hD) ?_
 rintro _ w3 ⟨⟨u3,rfl⟩,l2,h3,hO,hp,hk,hM3⟩
 have hl2 := hp.length_eq
 simp
 refine IV.mono (iv_pop h3 (n := n) (by omega) (by omega)) ?_
 rintro _ w4 ⟨rfl,h4,hM4⟩
 have hroot : l2[n]'(by omega) = l[0]'(by omega) := by
  have e := hk n (Nat.le_refl _)
  rw [atL_in (show n < l2.length by omega),Gr.lsw_at (by omega) (by omega)] at e
  rw [e]
  unfold Gr.gsw
  by_cases h0 : n = 0
  ·subst h0; rw [if_pos rfl,atL_in (by omega)]
  ·rw [if_neg h0,if_pos rfl,atL_in (by omega)]
 simp [hroot]
 refine ⟨_,h4,Gr.LHeap.take hO (by omega),?_,((hM2.trans hM3).weaken fun k hk => .inr hk).trans (hM4.weaken fun k hk => .inl hk)⟩
 have e2 : l2 = l2.take n ++ [l[0]'(by omega)] := by
  rw [← hroot]
  have := List.take_append_getElem (l := l2) (i := n) (by omega)
  rw [this,List.take_of_length_le (by omega)]
 have hpl := Gr.lsw_perm (l := l) (i := 0) (j := n) (by omega) (by omega)
 exact ((List.perm_append_comm (l₁ := [l[0]'(by omega)])).trans (List.Perm.of_eq e2.symm)).trans (hp.trans hpl)
end Go.Proofs
namespace Go.Proofs
open Pk
set_option maxRecDepth 10000
theorem oadd_c {w : World} {b base : Nat} {v : Value} {l : List Tl} (h : HeapAt w b base v l) (hbase : base ≤ w.heap.size) (hb : l.length + 1 ≤ 1048576) (hL : Gr.LHeap l) (x : Tl) :
  FN Tryz.prog 123 [ptr b,tlV x] w fun e w' => (∃ u,e = .returned u) ∧ ∃ v' l',HeapAt w' b base v' l' ∧ Gr.LHeap l' ∧ l'.Perm (x :: l) ∧ Mod (fun k => k = b ∨ (slN v = false ∧ k = slB v)) w w' ∧ (slN v' = false → (slN v = false ∧ slB v' = slB v) ∨ w.heap.size ≤ slB v') := by
 refine FN_enter Tryz.func123 rfl rfl (by kernel_rfl) ?_
 have hE := (Ext.refl w).alloc (.cells #[u64 x.a,i64 x.h,u32 x.f.to',u32 x.f.fr,u32 x.f.to',u64 x.f.sf,u64 x.f.su,u64 x.f.rate,u32 x.n] 173)
 have hT : Blk (w.alloc (.cells #[u64 x.a,i64 x.h,u32 x.f.to',u32 x.f.fr,u32 x.f.to',u64 x.f.sf,u64 x.f.su,u64 x.f.rate,u32 x.n] 173)) w.heap.size (tlC x) := Blk.new w (tlC x) 173
 simp
 generalize (w.alloc (.cells #[u64 x.a,i64 x.h,u32 x.f.to',u32 x.f.fr,u32 x.f.to',u64 x.f.sf,u64 x.f.su,u64 x.f.rate,u32 x.n] 173)) = w1 at *
 refine WC_drawC 6 (.F 0 <| .F 1 <| .F 2 <| .F 3 <| .F 4 <| .F 5 <| .Z) (fun _ => false) rfl (by kernel_rfl) fun W hW => ?_
 have hE1 := hE.trans (hW ▸ Ext.drew w1)
 have hT1 := hT.ext (hW ▸ Ext.drew w1)
 have hs := hE1.size
 simp [(hT1).cell 0 _ rfl,(hT1).cell 1 _ rfl,(hT1).cell 2 _ rfl,(hT1).cell 3 _ rfl,(hT1).cell 4 _ rfl,(hT1).cell 5 _ rfl,(hT1).cell 6 _ rfl,(hT1).cell 7 _ rfl,(hT1).cell 8 _ rfl]
 refine FN.mono (heapPush_c (h.ext hE1) (by omega) hb hL x) ?_
 rintro _ w3 ⟨⟨u3,rfl⟩,v',l',h3,hL3,hp,hM3,hnew⟩
 simp
 exact ⟨v',l',h3,hL3,hp,hE1.mod.trans hM3,fun hn => (hnew hn).imp id fun g => by omega⟩
end Go.Proofs