/-
 Contracts of the functions that the law reaches,step by step.
-/
import Derived.Test.YtdflcfoalhhjlaaGreatGcH
namespace Go.Proofs
open Pk
set_option maxRecDepth 10000
abbrev VK := Int × Int × Int
def vkC (k : VK) : List Value := [u32 k.1,u32 k.2.1,u64 k.2.2]
def ekV (k : VK) : Value := .agg (vkC k).toArray
def vrC (x : Ct × Int) : List Value := [u32 x.1.fr,u32 x.1.to',u64 x.1.sf,u64 x.1.su,u64 x.1.rate,u64 x.2]
def ewV (x : Ct × Int) : Value := .agg (vrC x).toArray
abbrev VM := List (VK × (Ct × Int))
def ct0 : Ct := ⟨0,0,0,0,0⟩
theorem fVk : flatA Tryz.prog 120 = some [.int .u32,.int .u32,.int .u64] := by kernel_rfl
theorem kVk : KeyEq Tryz.prog 120 ekV := keyEq_flat (g := vkC) fVk (fun _ => rfl) fun a b => by
 obtain ⟨a1,a2,a3⟩ := a
 obtain ⟨b1,b2,b3⟩ := b
 rw [Bool.eq_iff_iff]
 simp [vkC,eqcs,eqc]
theorem tmV : Tryz.prog.underlying 100 = some (.map 120 117) := by simp
theorem zV (w : World) : (zeroValue 117).run Tryz.prog w = .ok (ewV (ct0,0)) w := by simp [ewV,vrC,ct0]
def vkey (c : Ct) : VK := (c.fr,c.to',c.sf)
structure LedAt (w : World) (q r : Nat) (m : VM) : Prop where
 blk : Blk w q [.map (some r)]
 map : MapAt ekV ewV w r m
theorem LedAt.ext {w w' : World} {q r : Nat} {m : VM} (h : LedAt w q r m) (hE : Ext w w') : LedAt w' q r m := ⟨h.blk.ext hE,h.map.ext hE⟩
theorem LedAt.mod {w w' : World} {q r : Nat} {m : VM} {S : Nat → Prop} (h : LedAt w q r m) (hM : Mod S w w') (h1 : ¬ S q) (h2 : ¬ S r) : LedAt w' q r m := ⟨h.blk.mod hM h1,h.map.mod hM h2⟩
theorem LedAt.lt {w : World} {q r : Nat} {m : VM} (h : LedAt w q r m) : q < w.heap.size ∧ r < w.heap.size := ⟨h.blk.lt,h.map.lt⟩
theorem LedAt.off {w : World} {q r : Nat} {m : VM} (h : LedAt w q r m) : r ≠ q := not_cells h.map (h.blk.cell 0 _ rfl)
theorem vnew_c (w : World) : FN Tryz.prog 10 [] w fun e w' => ∃ q r, e = .returned (ptr q) ∧ LedAt w' q r [] ∧ Ext w w' ∧ w.heap.size ≤ q ∧ w.heap.size ≤ r := by
 refine FN_enter Tryz.func10 rfl rfl (by kernel_rfl) ?_
 simp
 have hm := MapAt.alloc0 ekV ewV w
 have hE := (Ext.refl w).alloc (.map #[] 0)
 have hsz : (w.alloc (.map #[] 0)).heap.size = w.heap.size + 1 := by simp
 generalize (w.alloc (.map #[] 0)) = w1 at *
 have hE2 := (Ext.refl w1).alloc (.cells #[.map (some w.heap.size)] 102)
 have hb := Blk.new w1 [.map (some w.heap.size)] 102
 rw [hsz] at hb
 refine ⟨w.heap.size,⟨hb,hm.ext hE2⟩,hE.trans hE2,?_⟩
 first | omega | (constructor <;> omega)
theorem vnone_c {w : World} {q r : Nat} {m : VM} (h : LedAt w q r m) : FN Tryz.prog 51 [ptr q] w fun e w' => e = .returned (.bool false) ∧ w' = w := by
 refine FN_enter Tryz.func51 rfl rfl (by kernel_rfl) ?_
 simp [h.blk.cell 0 _ rfl]
theorem vof_c (c : Ct) (w : World) : FN Tryz.prog 45 [ctV c] w fun e w' => e = .returned (ekV (vkey c)) ∧ Ext w w' := by
 refine FN_enter Tryz.func45 rfl rfl (by kernel_rfl) ?_
 simp [ekV,vkC,vkey]
 exact ((Ext.refl w).alloc _).alloc _
def bkd (m : VM) (c : Ct) : Int := ((mget m (vkey c)).map (·.2)).getD 0
theorem vright_c (c : Ct) (h : CtOk c) (w : World) : FN Tryz.prog 52 [ctV c] w fun e w' => e = .returned (.bool (ctRight c)) ∧ Ext w w' := by
 refine FN_enter Tryz.func52 rfl rfl (by kernel_rfl) ?_
 have hE := (Ext.refl w).alloc (.cells #[u32 c.fr,u32 c.to',u64 c.sf,u64 c.su,u64 c.rate] 64)
 simp
 generalize (w.alloc (.cells #[u32 c.fr,u32 c.to',u64 c.sf,u64 c.su,u64 c.rate] 64)) = w1 at *
 refine FN.mono (check_c c h w1) ?_
 rintro _ w2 ⟨rfl,h2⟩
 cases hr : ctRight c with
 | true => simp; exact hE.trans h2
 | false => simp; exact hE.trans h2
def minL : List Int → Int
 | [] => 0
 | x :: xs => xs.foldl min x
theorem vmin_c {w : World} {v : Value} {xs : List Int} (h : Sl w 1 v xs.length (xs.map u64)) (h0 : 0 < xs.length) (hb : xs.length ≤ 1000000) : FN Tryz.prog 132 [v] w fun e w' => e = .returned (u64 (minL xs)) ∧ w' = w := by
 refine FN_enter Tryz.func132 rfl rfl (by kernel_rfl) ?_
 have hlen := fun ty W => h.isLen (P := Tryz.prog) (t := 180) (by simp) ty W
 have h1 : ¬ ((xs.length : Int) < 1) := by omega
 have ix0 := fun W => h.index (P := Tryz.prog) (t := 180) (by simp) .i64 0 (by omega) (by omega) W
 have a0 := h.at_ 0 (u64 xs[0]) (by rw [List.getElem?_map,List.getElem?_eq_getElem h0]; rfl)
 simp at ix0 a0
 simp [hlen,h1,ix0,a0]
 refine WC_loop (fun k ρ ds w' => ∃ (i : Nat), k = xs.length - i ∧ 1 ≤ i ∧ i ≤ xs.length ∧ ρ 0 = v ∧ ρ 3 = u64 (minL (xs.take i)) ∧ ρ 4 = i64 i ∧ ds = [] ∧ w' = w) (xs.length - 1) ⟨1, rfl, by omega, by omega, by simp, ?_, by simp, rfl, rfl⟩ ?_
 ·obtain ⟨x, xs', rfl⟩ : ∃ x xs', xs = x :: xs' := by
   cases xs with
   | nil => simp at h0
   | cons x xs' => exact ⟨x,xs',rfl⟩
  simp [minL]
 rintro k ρ ds w1 ⟨i,rfl,h1',hi,e0,e3,e4,rfl,rfl⟩
 by_cases hlt : i < xs.length
 ·have ix := h.index (P := Tryz.prog) (t := 180) (by simp) .i64 i (by omega) (by omega) w1
  have a := h.at_ i (u64 xs[i]) (by rw [List.getElem?_map,List.getElem?_eq_getElem hlt]; rfl)
  simp at ix
  have hm : minL (xs.take (i + 1)) = min (minL (xs.take i)) xs[i] := by
   obtain ⟨x, xs', rfl⟩ : ∃ x xs', xs = x :: xs' := by
    cases xs with
    | nil => simp at h0
    | cons x xs' => exact ⟨x,xs',rfl⟩
   obtain ⟨j,rfl⟩ : ∃ j,i = j + 1 := ⟨i - 1,by omega⟩
   have hj : j < xs'.length := by simpa using hlt
   have e : xs'.take (j + 1) = xs'.take j ++ [xs'[j]] := by rw [List.take_add_one,List.getElem?_eq_getElem hj]; rfl
   simp only [minL,List.take_succ_cons,e,List.foldl_append,List.foldl_cons,List.foldl_nil,List.getElem_cons_succ]
  simp [e0,e3,e4,hlen,hlt,ix,a]
  exact ⟨xs.length - (i + 1),by omega,i + 1,rfl,by omega,by omega,hm.symm ▸ rfl,by rw [wrap64 _ (by omega) (by omega)]; rfl⟩
 ·have : i = xs.length := by omega
  subst this
  rw [List.take_length] at e3
  simp [e0,e3,e4,hlen]
theorem least2_c {w : World} (a b : Int) {v : Value} (h : Sl w 1 v 2 [u64 a, u64 b]) : FN Tryz.prog 102 [v] w fun e w' => e = .returned (u64 (min a b)) ∧ w' = w := by
 refine FN_enter Tryz.func102 rfl rfl (by kernel_rfl) ?_
 simp
 refine FN.mono (vmin_c (xs := [a,b]) h (by simp) (by simp)) ?_
 rintro _ _ ⟨rfl,rfl⟩
 simp [minL]
end Go.Proofs
namespace Go.Proofs
open Pk
set_option maxRecDepth 10000
theorem ct_blk (w : World) (c : Ct) : Blk (w.alloc (.cells #[u32 c.fr,u32 c.to',u64 c.sf,u64 c.su,u64 c.rate] 64)) w.heap.size (ctC c) := Blk.new w (ctC c) 64
def vmOk (m : VM) : Prop := ∀ x ∈ m,0 ≤ x.2.2 ∧ x.2.2 ≤ 4611686018427387903
theorem bkd_b {m : VM} (h : vmOk m) (c : Ct) : 0 ≤ bkd m c ∧ bkd m c ≤ 4611686018427387903 := by
 unfold bkd
 cases hg : mget m (vkey c) with
 | none => simp
 | some x => exact h _ (mget_mem' hg)
theorem fldV (x : Ct × Int) (w : World) : (Instr.field 117 (.agg #[u32 x.1.fr, u32 x.1.to', u64 x.1.sf, u64 x.1.su, u64 x.1.rate, u64 x.2]) 1).run Tryz.prog w = .ok (u64 x.2) w := by
 have h := run_part_flat (P := Tryz.prog) w (n := 1) (e := 27) (l := [.int .u64]) (by kernel_rfl) (by kernel_rfl) #[u32 x.1.fr,u32 x.1.to',u64 x.1.sf,u64 x.1.su,u64 x.1.rate,u64 x.2] 5 (by simp)
 simp [Instr.field,asAgg]
 exact h
theorem vbkd_c {w : World} {q r : Nat} {m : VM} (h : LedAt w q r m) (c : Ct) : FN Tryz.prog 46 [.map (some r), ctV c] w fun e w' => e = .returned (u64 (bkd m c)) ∧ Ext w w' := by
 refine FN_enter Tryz.func46 rfl rfl (by kernel_rfl) ?_
 have hE := (Ext.refl w).alloc (.cells #[u32 c.fr,u32 c.to',u64 c.sf,u64 c.su,u64 c.rate] 64)
 have hB := ct_blk w c
 simp
 generalize (w.alloc (.cells #[u32 c.fr,u32 c.to',u64 c.sf,u64 c.su,u64 c.rate] 64)) = w1 at *
 refine FN.mono (vof_c c w1) ?_
 rintro _ w2 ⟨rfl,hE2⟩
 have hl := (h.map.ext (hE.trans hE2)).lookup (P := Tryz.prog) kVk tmV (zV w2) (vkey c) false
 simp [hl]
 cases hg : mget m (vkey c) with
 | none =>
  have hf := fldV (ct0,0) w2
  simp [ct0] at hf
  simp [ewV,vrC,bkd,hg,ct0,hf]
  exact hE.trans hE2
 | some x =>
  have hf := fldV x w2
  simp [ewV,vrC,bkd,hg,hf]
  exact hE.trans hE2
def bookedT (m : VM) (c : Ct) : Int := if ctRight c then bkd m c else 0
theorem vbooked_c {w : World} {q r : Nat} {m : VM} (h : LedAt w q r m) (c : Ct) (hc : CtOk c) : FN Tryz.prog 21 [ptr q, ctV c] w fun e w' => e = .returned (u64 (bookedT m c)) ∧ Ext w w' := by
 refine FN_enter Tryz.func21 rfl rfl (by kernel_rfl) ?_
 have hE := (Ext.refl w).alloc (.cells #[u32 c.fr,u32 c.to',u64 c.sf,u64 c.su,u64 c.rate] 64)
 have hB := ct_blk w c
 simp
 generalize (w.alloc (.cells #[u32 c.fr,u32 c.to',u64 c.sf,u64 c.su,u64 c.rate] 64)) = w1 at *
 have h1 := h.ext hE
 refine FN.mono (vnone_c h1) ?_
 rintro _ _ ⟨rfl,rfl⟩
 rename_i w1
 simp [(hB).cell 0 _ rfl,(hB).cell 1 _ rfl,(hB).cell 2 _ rfl,(hB).cell 3 _ rfl,(hB).cell 4 _ rfl]
 refine FN.mono (vright_c c hc w1) ?_
 rintro _ w2 ⟨rfl,hE2⟩
 cases hr : ctRight c with
 | false => simp [bookedT,hr]; exact hE.trans hE2
 | true =>
  have h2 := h1.ext hE2
  have hB2 := hB.ext hE2
  simp
  refine WC_drawC 5 (.F 0 <| .F 1 <| .F 2 <| .F 3 <| .F 4 <| .Z) (fun _ => false) rfl (by kernel_rfl) fun W hW => ?_
  have hWE : Ext w2 W := hW ▸ Ext.drew w2
  have h3 := h2.ext hWE
  simp [(hB2.ext hWE).cell 0 _ rfl,(hB2.ext hWE).cell 1 _ rfl,(hB2.ext hWE).cell 2 _ rfl,(hB2.ext hWE).cell 3 _ rfl,(hB2.ext hWE).cell 4 _ rfl,h3.blk.cell 0 _ rfl]
  refine FN.mono (vbkd_c h3 c) ?_
  rintro _ w4 ⟨rfl,hE4⟩
  simp [bookedT,hr]
  exact ((hE.trans hE2).trans hWE).trans hE4
def restS (c : Ct) (a : Int) : Sp2 := ⟨min (max a c.sf) c.su,c.su⟩
def roomT (m : VM) (c : Ct) (a : Int) : Int := if ctRight c then min (carT ⟨c.sf,c.su⟩ c.rate - min (carT ⟨c.sf,c.su⟩ c.rate) (bookedT m c)) (carT (restS c a) c.rate) else 0
def overL (m : VM) (c : Ct) (a n : Int) : Int := if ctRight c then max (overT c.sf (addT (bookedT m c) n) c.rate) (overT (max a c.sf) (min n 4611686018427387903) c.rate) else 4611686018427387903
theorem vroom_c {w : World} {q r : Nat} {m : VM} (h : LedAt w q r m) (hm : vmOk m) (c : Ct) (hc : CtOk c) (a : Int) (ha : 0 ≤ a) : FN Tryz.prog 43 [ptr q, ctV c, u64 a] w fun e w' => e = .returned (u64 (roomT m c a)) ∧ Ext w w' := by
 refine FN_enter Tryz.func43 rfl rfl (by kernel_rfl) ?_
 have hE := (Ext.refl w).alloc (.cells #[u32 c.fr,u32 c.to',u64 c.sf,u64 c.su,u64 c.rate] 64)
 have hB := ct_blk w c
 simp
 generalize (w.alloc (.cells #[u32 c.fr,u32 c.to',u64 c.sf,u64 c.su,u64 c.rate] 64)) = w1 at *
 have h1 := h.ext hE
 refine FN.mono (vright_c c hc w1) ?_
 rintro _ w2 ⟨rfl,hE2⟩
 cases hr : ctRight c with
 | false => simp [roomT,hr]; exact hE.trans hE2
 | true =>
  have h2 := h1.ext hE2
  have hB2 := hB.ext hE2
  have hok := hc
  simp [(hB2).cell 2 _ rfl,(hB2).cell 3 _ rfl,(hB2).cell 4 _ rfl]
  refine FN.mono (car_c ⟨c.sf,c.su⟩ c.rate ⟨hc.sf.1,hc.su.2⟩ hc.rate.1 w2) ?_
  rintro _ w3 ⟨rfl,hE3⟩
  have h3 := h2.ext hE3
  have hB3 := hB2.ext hE3
  simp
  refine WC_drawL 15 (.F 0 <| .F 1 <| .F 2 <| .F 3 <| .F 4 <| .F 5 <| .F 6 <| .F 7 <| .F 10 <| .F 11 <| .F 12 <| .D 8 <| .D 14 <| .W 8 <| .L 9 <| .F 13 <| .W 14 <| .Z) (fun _ => false) (fun _ => false)
   (fun i u W => ∃ j cs,((i = 8 ∧ u = .slice (some ⟨j,0,none⟩) 2 2 ∧ cs = [u64 (max a c.sf),u64 c.su]) ∨ (i = 14 ∧ u = ptr j ∧ cs = [u64 0,u64 0])) ∧ w3.heap.size ≤ j ∧ Blk W j cs) rfl (by kernel_rfl) (fun _ h => h)
   (fun _ _ _ _ ⟨j,cs,g1,g2,g3⟩ hA => ⟨j,cs,g1,g2,g3.ext (agr_ext hA)⟩) fun W hW => ?_
  have hWE : Ext w3 W := hW ▸ Ext.drew w3
  have hB4 := hB3.ext hWE
  simp [(hB4).cell 2 _ rfl,(hB4).cell 3 _ rfl]
  refine RL_float (fun W' h' => ?_) ?_
  ·simp
   have hs := (hWE.trans (agr_ext h')).size
   exact ⟨(Ext.refl _).alloc _,W'.heap.size,[u64 (max a c.sf),u64 c.su],by simp,hs,Blk.new W' [u64 (max a c.sf),u64 c.su] 27⟩
  simp
  refine RL_float (fun W' h' => ?_) ?_
  ·simp
   have hs := (hWE.trans (agr_ext h')).size
   exact ⟨(Ext.refl _).alloc _,W'.heap.size,[u64 0,u64 0],by simp,hs,Blk.new W' [u64 0,u64 0] 62⟩
  simp
  refine RL_wait fun v8 W5 hE5 hf8 => ?_
  obtain ⟨j8,cs8,hv8,hj8,hb8⟩ := hf8
  simp at hv8
  obtain ⟨rfl,rfl⟩ := hv8
  simp
  refine RL_loose fun W6 hE6 => ?_
  simp
  have sl8 : Sl W6 1 (.slice (some ⟨j8,0,none⟩) 2 2) 2 [u64 (max a c.sf),u64 c.su] := (hb8.ext hE6).sl 1 2 rfl
  refine FN.mono (least2_c (max a c.sf) c.su sl8) ?_
  rintro _ _ ⟨rfl,rfl⟩
  rename_i W6
  simp
  refine KR_same ?_
  simp
  refine RL_wait fun v14 W7 hE7 hf14 => ?_
  obtain ⟨j,cs,hv,hj,hb⟩ := hf14
  simp at hv
  obtain ⟨rfl,rfl⟩ := hv
  have hE47 := (hE5.trans hE6).trans hE7
  have hX7 := (((hE.trans hE2).trans hE3).trans hWE).trans hE47
  have g0 := hb.cell 0 _ rfl
  have g1 := fun u => (hb.set 0 u).cell 1 _ rfl
  have t0 := hb.thaw 0
  have t1 := fun u => (hb.set 0 u).thaw 1
  simp [g0,g1,t0,t1]
  have hb9 := (hb.set 0 (u64 (min (max a c.sf) c.su))).set 1 (u64 c.su)
  have hB7 := hB4.ext hE47
  have h7 := (h3.ext hWE).ext hE47
  have s1 := (((hE.trans hE2).trans hE3)).size
  have sB := hB.lt
  have hw1 := hE2.size
  have hw2 := hE3.size
  have hM9 : Mod (fun k => k = j) W7 ((W7.setCell ⟨j,0,none⟩ (u64 (min (max a c.sf) c.su))).setCell ⟨j,1,none⟩ (u64 c.su)) := (Mod.setCell (Mod.refl (fun k => k = j) W7) ⟨j,0,none⟩ _ (.inl rfl)).setCell ⟨j,1,none⟩ _ (.inl rfl)
  have hX9 : Ext w ((W7.setCell ⟨j,0,none⟩ (u64 (min (max a c.sf) c.su))).setCell ⟨j,1,none⟩ (u64 c.su)) := ((hX7.mod (S := fun k => w.heap.size ≤ k)).trans (hM9.weaken fun k hk => by omega)).ext fun _ h => h
  have hB9 := hB7.mod hM9 (by omega)
  have h39 := h3.lt
  have h9 := h7.mod hM9 (by omega) (by omega)
  generalize ((W7.setCell ⟨j,0,none⟩ (u64 (min (max a c.sf) c.su))).setCell ⟨j,1,none⟩ (u64 c.su)) = W9 at *
  refine WC_drawC 12 (.F 0 <| .F 1 <| .F 2 <| .F 3 <| .F 8 <| .F 9 <| .F 10 <| .C 4 <| .C 5 <| .C 6 <| .F 7 <| .C 11 <| .Z) (fun _ => false) rfl (by kernel_rfl) fun V hV => ?_
  have hVE : Ext W9 V := hV ▸ Ext.drew W9
  have hBV := hB9.ext hVE
  have hbV := hb9.ext hVE
  simp [(hBV).cell 0 _ rfl,(hBV).cell 1 _ rfl,(hBV).cell 2 _ rfl,(hBV).cell 3 _ rfl,(hBV).cell 4 _ rfl,hbV.cell 0 _ rfl,hbV.cell 1 _ rfl]
  refine FN.mono (vbooked_c (h9.ext hVE) c hc) ?_
  rintro _ V1 ⟨rfl,k1⟩
  simp
  refine KR_ext k1 ?_
  simp
  have k2 := (Ext.refl V1).alloc (.cells #[u64 (carT ⟨c.sf,c.su⟩ c.rate),u64 (bookedT m c)] 27)
  have b2 : Blk (V1.alloc (.cells #[u64 (carT ⟨c.sf,c.su⟩ c.rate),u64 (bookedT m c)] 27)) V1.heap.size [u64 (carT ⟨c.sf,c.su⟩ c.rate),u64 (bookedT m c)] := Blk.new V1 [u64 (carT ⟨c.sf,c.su⟩ c.rate),u64 (bookedT m c)] 27
  refine KR_ext k2 ?_
  generalize (V1.alloc (.cells #[u64 (carT ⟨c.sf,c.su⟩ c.rate),u64 (bookedT m c)] 27)) = V2 at *
  simp
  refine FN.mono (least2_c (carT ⟨c.sf,c.su⟩ c.rate) (bookedT m c) (b2.sl 1 2 rfl)) ?_
  rintro _ _ ⟨rfl,rfl⟩
  rename_i V2
  have hcar := carT_le (s := ⟨c.sf,c.su⟩) hc.rate.1
  have hbk : 0 ≤ bookedT m c := by
   unfold bookedT
   rw [if_pos hr]
   exact (bkd_b hm c).1
  have hwr : IntKind.u64.wrap (carT ⟨c.sf,c.su⟩ c.rate - min (carT ⟨c.sf,c.su⟩ c.rate) (bookedT m c)) = carT ⟨c.sf,c.su⟩ c.rate - min (carT ⟨c.sf,c.su⟩ c.rate) (bookedT m c) := wrap64u _ (by omega) (by omega)
  simp
  refine KR_same ?_
  simp
  have hsf := hc.sf
  have hsu := hc.su
  refine FN.mono (car_c (restS c a) c.rate ⟨by simp only [restS]; omega,hc.su.2⟩ hc.rate.1 V2) ?_
  rintro _ V3 ⟨rfl,k3⟩
  simp
  refine KR_ext k3 ?_
  simp [hwr]
  have b4 := Blk.new V3 [u64 (carT ⟨c.sf,c.su⟩ c.rate - min (carT ⟨c.sf,c.su⟩ c.rate) (bookedT m c)),u64 (carT (restS c a) c.rate)] 27
  have k4 := (Ext.refl V3).alloc (.cells #[u64 (carT ⟨c.sf,c.su⟩ c.rate - min (carT ⟨c.sf,c.su⟩ c.rate) (bookedT m c)),u64 (carT (restS c a) c.rate)] 27)
  refine FN.mono (least2_c (carT ⟨c.sf,c.su⟩ c.rate - min (carT ⟨c.sf,c.su⟩ c.rate) (bookedT m c)) (carT (restS c a) c.rate) (b4.sl 1 2 rfl)) ?_
  rintro _ V4 ⟨rfl,hw⟩
  subst hw
  simp [roomT,hr]
  exact (((hX9.trans hVE).trans k1).trans k2).trans (k3.trans k4)
theorem vover_c {w : World} {q r : Nat} {m : VM} (h : LedAt w q r m) (hm : vmOk m) (c : Ct) (hc : CtOk c) (a n : Int) (ha : 0 ≤ a) (hn : 0 ≤ n) : FN Tryz.prog 141 [ptr q, ctV c, u64 a, u64 n] w fun e w' => e = .returned (u64 (overL m c a n)) ∧ Ext w w' := by
 refine FN_enter Tryz.func141 rfl rfl (by kernel_rfl) ?_
 have hE := (Ext.refl w).alloc (.cells #[u32 c.fr,u32 c.to',u64 c.sf,u64 c.su,u64 c.rate] 64)
 have hB := ct_blk w c
 simp
 generalize (w.alloc (.cells #[u32 c.fr,u32 c.to',u64 c.sf,u64 c.su,u64 c.rate] 64)) = w1 at *
 have h1 := h.ext hE
 refine FN.mono (vright_c c hc w1) ?_
 rintro _ w2 ⟨rfl,hE2⟩
 cases hr : ctRight c with
 | false => simp [overL,hr]; exact hE.trans hE2
 | true =>
  have h2 := h1.ext hE2
  have hB2 := hB.ext hE2
  simp
  refine WC_drawC 10 (.F 0 <| .F 1 <| .F 2 <| .F 3 <| .F 4 <| .F 6 <| .F 8 <| .F 9 <| .C 5 <| .C 7 <| .Z) (fun _ => false) rfl (by kernel_rfl) fun W hW => ?_
  have hWE : Ext w2 W := hW ▸ Ext.drew w2
  have hB3 := hB2.ext hWE
  have hbk : 0 ≤ bookedT m c := by
   unfold bookedT
   rw [if_pos hr]
   exact (bkd_b hm c).1
  simp [(hB3).cell 0 _ rfl,(hB3).cell 1 _ rfl,(hB3).cell 2 _ rfl,(hB3).cell 3 _ rfl,(hB3).cell 4 _ rfl]
  refine FN.mono (vbooked_c (h2.ext hWE) c hc) ?_
  rintro _ V1 ⟨rfl,k1⟩
  simp
  refine KR_ext k1 ?_
  simp
  refine FN.mono (add_c (bookedT m c) n hbk hn V1) ?_
  rintro _ V2 ⟨rfl,k2⟩
  simp
  refine KR_ext k2 ?_
  simp
  have had : 0 ≤ addT (bookedT m c) n := by
   unfold addT
   have := top_0 hbk
   have := top_0 hn
   exact top_0 (by omega)
  have had2 := addT_le (bookedT m c) n
  refine FN.mono (over_c c.sf (addT (bookedT m c) n) c.rate hc.sf.1 ⟨had,by omega⟩ hc.rate.1 V2) ?_
  rintro _ V3 ⟨rfl,k3⟩
  simp
  have hX3 := ((hWE.trans k1).trans k2).trans k3
  refine WC_drawC 12 (.F 0 <| .F 1 <| .F 2 <| .F 3 <| .F 4 <| .F 5 <| .F 6 <| .F 9 <| .F 10 <| .C 7 <| .C 8 <| .C 11 <| .Z) (fun _ => false) rfl (by kernel_rfl) fun V hV => ?_
  have hVE : Ext V3 V := hV ▸ Ext.drew V3
  have hB4 := hB2.ext (hX3.trans hVE)
  simp [(hB4).cell 2 _ rfl,(hB4).cell 4 _ rfl]
  have k5 := (Ext.refl V).alloc (.cells #[u64 n,u64 4611686018427387903] 27)
  have b5 := Blk.new V [u64 n,u64 4611686018427387903] 27
  refine KR_ext k5 ?_
  simp
  refine FN.mono (least2_c n 4611686018427387903 (b5.sl 1 2 rfl)) ?_
  rintro _ V6 ⟨rfl,hw⟩
  subst hw
  simp
  refine KR_same ?_
  simp
  have hsf := hc.sf
  refine FN.mono (over_c (max a c.sf) (min n 4611686018427387903) c.rate (by omega) ⟨by omega,by omega⟩ hc.rate.1 _) ?_
  rintro _ V7 ⟨rfl,k7⟩
  simp
  refine KR_ext k7 ?_
  simp [overL,hr]
  exact ((((hE.trans hE2).trans hX3).trans hVE).trans k5).trans k7
end Go.Proofs