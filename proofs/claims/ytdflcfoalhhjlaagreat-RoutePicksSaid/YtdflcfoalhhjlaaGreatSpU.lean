/-
 Contracts of the functions that the law reaches,step by step.
-/
import Derived.Test.YtdflcfoalhhjlaaGreatGcH
import Derived.Test.YtdflcfoalhhjlaaGreatEngV
import Derived.Test.YtdflcfoalhhjlaaGreatGvC
namespace Go.Proofs
open Pk
set_option maxRecDepth 10000
structure TabC (w : World) (t R n : Nat) (M : ME) : Prop where
 cnt : w.cell? ⟨t,0,none⟩ = some (.int .i64 n)
 thaw : w.frozen? ⟨t,0,none⟩ = false
 cell : w.cell? ⟨t,1,none⟩ = some (.map (some R))
 map : MapAt ekP ewN w R M
 inner : ∀ x ∈ M,MA w x.2.1 x.2.2
 refs : (M.map (·.2.1)).Nodup
 notR : ∀ x ∈ M,x.2.1 ≠ R
 full : ∀ x ∈ M,x.2.2 ≠ []
theorem TabC.ext {w w' : World} {t R n : Nat} {M : ME} (h : TabC w t R n M) (he : Ext w w') : TabC w' t R n M := by
 have ht : w'.heap[t]? = w.heap[t]? := he.blk t (World.block_lt_of_cell? _ _ h.cell)
 refine ⟨?_, ?_, ?_, h.map.ext he, fun x hx => (h.inner x hx).ext he, h.refs, h.notR, h.full⟩
 ·rw [← h.cnt]; unfold World.cell?; rw [ht]
 ·rw [← h.thaw]; unfold World.frozen?; rw [ht]
 ·rw [← h.cell]; unfold World.cell?; rw [ht]
def strip (x : PK × (Nat × ML)) : PK × ML := (x.1,x.2.2)
theorem sps_strip (M : ME) (q : PK) : sps M q = (mget (M.map strip) q).getD [] := by
 unfold sps
 congr 1
 induction M with
 | nil => rfl
 | cons x M ih =>
  rw [List.map_cons,kget_cons,kget_cons]
  by_cases h : x.1 = q
  ·simp [strip,h]
  ·simp only [strip,h,if_false]; exact ih
theorem total_strip (M : ME) : total M = ((M.map strip).map (·.2.length)).sum := by
 unfold total
 rw [List.map_map]
 rfl
theorem keys_strip (M : ME) : (M.map strip).map (·.1) = M.map (·.1) := by rw [List.map_map]; rfl
set_option maxHeartbeats 1000000 in
theorem copy_c {w : World} {t R : Nat} {M : ME} (h : TabAt w t R M) : FN Tryz.prog 88 [ptr t] w fun e w' => ∃ t' R' M', e = .returned (ptr t') ∧ TabAt w' t' R' M' ∧ (∀ q, sps M' q = sps M q) ∧ total M' = total M ∧ Ext w w' ∧ ∀ k, Foot t' R' M' k → w.heap.size ≤ k := by
 refine FN_enter Tryz.func88 rfl rfl (by kernel_rfl) ?_
 simp
 refine FN.mono (none_c h) ?_
 rintro _ _ ⟨rfl,rfl⟩
 rename_i w
 simp
 refine FN.mono (new_c w) ?_
 rintro _ w1 ⟨t',R',rfl,hT,hE1,hb1,hb2⟩
 have h1 := h.ext hE1
 have hbt : t < w.heap.size := h.lt t (.inl rfl)
 simp [h1.cnt,hT.cnt,hT.thaw]
 have hT2 : TabC (w1.setCell ⟨t', 0, none⟩ (.int .i64 (total M))) t' R' (total M) [] :=
  ⟨World.cell?_setCell_same _ _ _ hT.cnt, by rw [World.frozen?_setCell]; exact hT.thaw, by rw [cell_setCell]; simp [hT.cell], hT.map.mod ((Mod.refl (fun k => k = t') w1).setC 0 _) (fun e => by
   obtain ⟨es,c,he,-⟩ := hT.map.ex
   obtain ⟨cs,ty,fr,hc⟩ := cell_blk hT.cnt
   simp only at hc
   rw [← e,he] at hc
   cases hc),by simp,by simp,by simp,by simp⟩
 have hE2 : Ext w (w1.setCell ⟨t',0,none⟩ (.int .i64 (total M))) := hE1.setCell _ _ hb1
 have hc2 : (w1.setCell ⟨t',0,none⟩ (.int .i64 (total M))).cell? ⟨t,1,none⟩ = some (.map (some R)) := (h.ext hE2).cell
 generalize (w1.setCell ⟨t',0,none⟩ (.int .i64 (total M))) = w2 at *
 have h2 := h.ext hE2
 obtain ⟨o,hr,hi⟩ := h2.map.val.range (P := Tryz.prog) tm61
 simp [hc2,hr]
 have he := (Ext.refl w2).alloc o
 obtain ⟨b,hb⟩ : ∃ b,b = w2.heap.size := ⟨_,rfl⟩
 have hE23 := hE2.trans he
 have hT3 := hT2.ext he
 have hbR' : R' < w2.heap.size := hT2.map.lt
 have hbt' : t' < w2.heap.size := World.block_lt_of_cell? _ _ hT2.cell
 rw [← hb] at hi ⊢
 generalize (w2.alloc o) = w3 at *
 have hz2 := hE2.size
 refine WC_loop (fun k ρ ds w' => ∃ idxs M1, k + idxs.length = M.length ∧ ρ 3 = ptr t' ∧ ρ 20 = ptr b ∧ ds = [] ∧ VIter ekP ewN w' b (.map (some R)) M idxs ∧ Ext w w' ∧ w2.heap.size < w'.heap.size ∧
   TabC w' t' R' (total M) M1 ∧ M1.map strip = (seenOf M idxs).map strip ∧ ∀ x ∈ M1,w2.heap.size < x.2.1) M.length ⟨[],[],by simp,by simp,by simp,rfl,hi,hE23,by have := hi.lt.2; omega,hT3,rfl,by simp⟩ ?_
 rintro k ρ ds w4 ⟨idxs,M1,hk,e3,e20,rfl,hI,hE,hsz,hC,hM1,hfr⟩
 rcases hI.next (P := Tryz.prog) 0 with ⟨hp, hrun⟩ | ⟨i, p, w5, hpi, hni, hrun, hI5, hM5, hent, hs5⟩
 ·simp [e3,e20,hrun]
  have hpm : (M1.map strip).Perm (M.map strip) := by rw [hM1]; exact (seenOf_all hp).map _
  have hnd : ((M.map strip).map (·.1)).Nodup := by rw [keys_strip]; exact h.map.nodup
  have hnd1 : ((M1.map strip).map (·.1)).Nodup := (hpm.map _).nodup_iff.2 hnd
  have htot : total M1 = total M := by
   rw [total_strip,total_strip]
   exact (hpm.map _).sum_nat
  refine ⟨R', M1, ⟨by rw [htot]; exact hC.cnt, hC.thaw, hC.cell, hC.map, hC.inner, hC.refs, hC.notR, hC.full⟩, fun q1 q2 => ?_, htot, hE, ?_⟩
  ·rw [sps_strip,sps_strip]
   congr 1
   apply Option.ext
   intro x
   rw [kget_iff hnd1,kget_iff hnd]
   exact hpm.mem_iff
  ·rintro k (rfl | rfl | ⟨x, hx, rfl⟩)
   ·exact hb1
   ·exact hb2
   ·have := hfr x hx; omega
 ·have hE5 : Ext w w5 := ((hE.mod (S := fun k => w.heap.size ≤ k)).trans (hM5.weaken fun i hi => by omega)).ext fun _ h => h
  have hE45 : ∀ k,k < w4.heap.size → k ≠ b → w5.heap[k]? = w4.heap[k]? := fun k hk hkb => hM5.blk k hk hkb
  have hb5 := hI5.bound
  simp only [List.length_append,List.length_singleton] at hb5
  have hmem : p ∈ M := List.mem_of_getElem? hpi
  have hC5 : TabC w5 t' R' (total M) M1 := by
   have ht : w5.heap[t']? = w4.heap[t']? := hE45 t' (by omega) (by omega)
   refine ⟨?_, ?_, ?_, hC.map.mod hM5 (by omega), fun x hx => (hC.inner x hx).mod hM5 (by have := hfr x hx; omega), hC.refs, hC.notR, hC.full⟩
   ·rw [← hC.cnt]; unfold World.cell?; rw [ht]
   ·rw [← hC.thaw]; unfold World.frozen?; rw [ht]
   ·rw [← hC.cell]; unfold World.cell?; rw [ht]
  obtain ⟨⟨p1,p2⟩,r,m⟩ := p
  simp [ekP,pkc,ewN] at hrun hent
  simp [e20,hrun,hent]
  have hE6 := (Ext.refl w5).alloc (.cells #[u32 p1,u32 p2] 158)
  have c0 : (w5.alloc (.cells #[u32 p1,u32 p2] 158)).cell? ⟨w5.heap.size,0,none⟩ = some (u32 p1) := by simp
  have c1 : (w5.alloc (.cells #[u32 p1,u32 p2] 158)).cell? ⟨w5.heap.size,1,none⟩ = some (u32 p2) := by simp
  have hI6 := hI5.ext hE6
  have hC6 := hC5.ext hE6
  generalize (w5.alloc (.cells #[u32 p1,u32 p2] 158)) = w6 at *
  refine WC_drawC 7 (.F 0 <| .F 1 <| .F 2 <| .F 3 <| .F 4 <| .F 5 <| .C 6 <| .Z) (fun _ => false) rfl (by kernel_rfl) fun W hW => ?_
  have hWE : Ext w6 W := hW ▸ Ext.drew _
  have hC7 := hC6.ext hWE
  have hE7 := hE5.trans (hE6.trans hWE)
  have hI7 := hI6.ext hWE
  simp [e3,hC7.cell,hWE.cell_eq c0,hWE.cell_eq c1]
  have hm := (h.ext hE7).inner _ hmem
  refine FN.mono (mclone_c hm.val) ?_
  rintro _ w8 ⟨o,rfl,hm8,hE8,ho8⟩
  obtain ⟨r', rfl⟩ : ∃ r', o = some r' := by
   rcases hm8 with ⟨r', h1, -⟩ | ⟨-, h2⟩
   ·cases h1; exact ⟨r',rfl⟩
   ·exact absurd h2 (h.full _ hmem)
  have hr8 := ho8 r' rfl
  have hmr : MA w8 r' m := by
   rcases hm8 with ⟨r2, h1, h2⟩ | ⟨h1, -⟩
   ·cases h1; exact h2
   ·cases h1
  simp
  refine KR_ext hE8 ?_
  have hC8 := hC7.ext hE8
  have hnew : mget M1 (p1, p2) = none := by
   cases hg : mget M1 (p1,p2) with
   | none => rfl
   | some y =>
    exfalso
    have h1 : strip ((p1,p2),y) ∈ M1.map strip := List.mem_map.2 ⟨_,kget_mem hg,rfl⟩
    rw [hM1] at h1
    obtain ⟨z,hz,hze⟩ := List.mem_map.1 h1
    unfold seenOf at hz
    obtain ⟨j,hj,hjz⟩ := List.mem_filterMap.1 hz
    have hk1 : z.1 = (p1,p2) := congrArg Prod.fst hze
    have hlt1 := (List.getElem?_eq_some_iff.1 hjz).1
    have hlt2 := (List.getElem?_eq_some_iff.1 hpi).1
    have hnd := h.map.nodup
    have hji : j = i := by
     have e1 : (M.map (·.1))[j]? = some (p1,p2) := by rw [List.getElem?_map,hjz]; simp [hk1]
     have e2 : (M.map (·.1))[i]? = some (p1,p2) := by rw [List.getElem?_map,hpi]; rfl
     exact (List.getElem?_inj (by simpa using hlt1) hnd).1 (e1.trans e2.symm)
    exact hni (hji ▸ hj)
  obtain ⟨W9,hu,hm9,hM9,hs9⟩ := hC8.map.update (P := Tryz.prog) k67 tm61 (p1,p2) (r',m)
  have hset : mset M1 (p1,p2) (r',m) = M1 ++ [((p1,p2),(r',m))] := by unfold mset; rw [hnew]; rfl
  rw [hset] at hm9
  simp [ekP,pkc,ewN] at hu
  have z45 : w4.heap.size ≤ w5.heap.size := hM5.size
  have z7 := (hE6.trans hWE).size
  have z8 := hE8.size
  have hd1 : R' ≠ t' := fun e => by
   obtain ⟨es,c,he,-⟩ := hC8.map.ex
   obtain ⟨cs,ty,fr,hc⟩ := cell_blk hC8.cnt
   simp only at hc
   rw [← e,he] at hc
   cases hc
  have ht9 : W9.heap[t']? = w8.heap[t']? := hM9.blk t' (by omega) (by omega)
  simp [hu,e3,e20]
  refine ⟨k - 1, by omega, idxs ++ [i], by simp; omega, ?_, ?_, by omega, M1 ++ [((p1, p2), (r', m))], ?_, ?_, ?_⟩
  ·exact (hI7.ext hE8).mod hM9 (fun r2 e => by cases e; have := h.lt R (.inr (.inl rfl)); omega) (by omega)
  ·exact (((hE7.trans hE8).mod (S := fun k => w.heap.size ≤ k)).trans (hM9.weaken fun i hi => by omega)).ext fun _ h => h
  ·refine ⟨?_, ?_, ?_, hm9, ?_, ?_, ?_, ?_⟩
   ·rw [← hC8.cnt]; unfold World.cell?; rw [ht9]
   ·rw [← hC8.thaw]; unfold World.frozen?; rw [ht9]
   ·rw [← hC8.cell]; unfold World.cell?; rw [ht9]
   ·intro x hx
    rcases List.mem_append.1 hx with hx | hx
    ·exact (hC8.inner x hx).mod hM9 (hC8.notR x hx)
    ·simp at hx; subst hx
     exact hmr.mod hM9 (by omega)
   ·rw [List.map_append,List.nodup_append]
    refine ⟨hC8.refs,by simp,fun a ha c hc => ?_⟩
    simp at hc; subst hc
    obtain ⟨x,hx,rfl⟩ := List.mem_map.1 ha
    have := (hC7.inner x hx).lt
    omega
   ·intro x hx
    rcases List.mem_append.1 hx with hx | hx
    ·exact hC8.notR x hx
    ·simp at hx; subst hx
     simp only; omega
   ·intro x hx
    rcases List.mem_append.1 hx with hx | hx
    ·exact hC8.full x hx
    ·simp at hx; subst hx
     exact (show m ≠ [] from h.full _ hmem)
  ·rw [seenOf_snoc hpi,List.map_append,List.map_append,hM1]
   rfl
  ·intro x1 x2 x3 x4 hx
   rcases List.mem_append.1 hx with hx | hx
   ·exact hfr _ hx
   ·simp at hx
    omega
end Go.Proofs
namespace Go.Proofs
open Pk
set_option maxRecDepth 10000
theorem vclone_c {w : World} {r : Nat} {m : VM} (h : MapAt ekV ewV w r m) : FN Tryz.prog 118 [.map (some r)] w fun e w' => ∃ r', e = .returned (.map (some r')) ∧ MapAt ekV ewV w' r' m ∧ Ext w w' ∧ w.heap.size ≤ r' := by
 refine FN_enter Tryz.func118 rfl rfl (by kernel_rfl) ?_
 obtain ⟨o,h1,h2,h3⟩ := h.clone (P := Tryz.prog)
 simp
 refine FN_extern (e := Extern.MapsClone.clone) Tryz.func140 rfl (by kernel_rfl) (by kernel_rfl) (by kernel_rfl) (h2 100) ?_
 simp [Instr.typeAssert]
 exact ⟨h3,(Ext.refl w).alloc _⟩
theorem vcopy_c {w : World} {q r : Nat} {m : VM} (h : LedAt w q r m) : FN Tryz.prog 89 [ptr q] w fun e w' => ∃ q' r', e = .returned (ptr q') ∧ LedAt w' q' r' m ∧ Ext w w' ∧ w.heap.size ≤ q' ∧ w.heap.size ≤ r' := by
 refine FN_enter Tryz.func89 rfl rfl (by kernel_rfl) ?_
 simp
 refine FN.mono (vnone_c h) ?_
 rintro _ _ ⟨rfl,rfl⟩
 rename_i w
 simp [h.blk.cell 0 _ rfl]
 refine FN.mono (vclone_c h.map) ?_
 rintro _ w1 ⟨r',rfl,hm,hE,hr⟩
 simp
 have hE1 := (Ext.refl w1).alloc (.cells #[.map (some r')] 102)
 exact ⟨r',⟨Blk.new w1 [.map (some r')] 102,hm.ext hE1⟩,hE.trans hE1,hE.size,hr⟩
end Go.Proofs