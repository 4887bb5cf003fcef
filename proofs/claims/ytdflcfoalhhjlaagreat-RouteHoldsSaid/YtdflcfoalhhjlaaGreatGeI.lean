/-
 Contracts of the functions that the law reaches,step by step.
-/
import Derived.Test.YtdflcfoalhhjlaaGreatGeG
import Derived.Test.YtdflcfoalhhjlaaGreatEngV
namespace Go.Proofs
open Pk
set_option maxRecDepth 10000
def kOfL (l : List LR) (c : Ct) : Nat := (l.takeWhile fun x => decide (aheadP x.1 c)).length
theorem kOfL_le (l : List LR) (c : Ct) : kOfL l c ≤ l.length := by unfold kOfL; exact (List.takeWhile_prefix _).length_le
def insL (l : List LR) (c : Ct) (n : Int) : List LR := l.take (kOfL l c) ++ ((c,n) :: l.drop (kOfL l c))
def bookL (m : VM) (l : List LR) (c : Ct) (n : Int) : List LR :=
 if bookE m c n = 0 then (match l.findIdx? (hitL c) with | some i => l.set i (c,bkd m c + n) | none => insL l c n) else l
theorem mset_len {κ ν : Type} [DecidableEq κ] (m : List (κ × ν)) (k : κ) (v : ν) : (mset m k v).length = if (mget m k).isSome then m.length else m.length + 1 := by
 unfold mset
 split <;> simp
theorem find_set {l : List LR} {c : Ct} {i : Nat} (hi : l.findIdx? (hitL c) = some i) (y : Int) (k : VK) : (l.set i (c, y)).find? (fun x => decide (vkey x.1 = k)) = if k = vkey c then some (c, y) else l.find? (fun x => decide (vkey x.1 = k)) := by
 obtain ⟨hil,h1,h2⟩ := List.findIdx?_eq_some_iff_getElem.1 hi
 have hs : l.set i (c,y) = l.take i ++ (c,y) :: l.drop (i + 1) := List.set_eq_take_append_cons_drop.trans (by rw [if_pos hil])
 have hl : l = l.take i ++ l[i] :: l.drop (i + 1) := by rw [← List.drop_eq_getElem_cons hil,List.take_append_drop]
 have ht : k = vkey c → (l.take i).find? (fun x => decide (vkey x.1 = k)) = none := fun hk => by
  rw [List.find?_eq_none]
  intro x hx
  obtain ⟨j,hj,rfl⟩ := List.getElem_of_mem hx
  rw [List.length_take] at hj
  rw [List.getElem_take]
  have := h2 j (by omega)
  rw [hk]
  simpa [hitL] using this
 rw [hs,List.find?_append,List.find?_cons]
 by_cases hk : k = vkey c
 ·rw [if_pos hk,ht hk]
  simp [hk]
 ·have e1 : decide (vkey (c,y).1 = k) = false := decide_eq_false fun e => hk e.symm
  have e2 : decide (vkey l[i].1 = k) = false := decide_eq_false fun e => hk (by rw [← e]; simpa [hitL] using h1)
  rw [if_neg hk,e1]
  conv => rhs; rw [hl]
  rw [List.find?_append,List.find?_cons,e2]
theorem find_ins {l : List LR} {c : Ct} (hi : l.findIdx? (hitL c) = none) (n : Int) (p : Nat) (k : VK) : (l.take p ++ ((c, n) :: l.drop p)).find? (fun x => decide (vkey x.1 = k)) = if k = vkey c then some (c, n) else l.find? (fun x => decide (vkey x.1 = k)) := by
 have hno := List.findIdx?_eq_none_iff.1 hi
 rw [List.find?_append,List.find?_cons]
 by_cases hk : k = vkey c
 ·have : (l.take p).find? (fun x => decide (vkey x.1 = k)) = none := List.find?_eq_none.2 fun x hx => by
   have := hno x (List.mem_of_mem_take hx)
   rw [hk]
   simpa [hitL] using this
  rw [if_pos hk,this]
  simp [hk]
 ·have e1 : decide (vkey (c,n).1 = k) = false := decide_eq_false fun e => hk e.symm
  rw [if_neg hk,e1]
  conv => rhs; rw [← List.take_append_drop p l]
  rw [List.find?_append]
theorem RelL.isS {m : VM} {l : List LR} (h : RelL m l) (c : Ct) : (mget m (vkey c)).isSome = (l.findIdx? (hitL c)).isSome := by
 rw [h.get]
 cases hf : l.findIdx? (hitL c) with
 | none =>
  rw [show l.find? (fun x => decide (vkey x.1 = vkey c)) = none from List.find?_eq_none.2 (by simpa [hitL] using List.findIdx?_eq_none_iff.1 hf)]
  rfl
 | some i =>
  obtain ⟨hi,h1,h2⟩ := List.findIdx?_eq_some_iff_getElem.1 hf
  rw [show l.find? (fun x => decide (vkey x.1 = vkey c)) = some l[i] from List.find?_eq_some_iff_getElem.2 ⟨h1,i,hi,rfl,fun j hj => by simpa [hitL] using h2 j hj⟩]
  rfl
theorem RelL.nil : RelL [] [] := ⟨fun k => rfl,rfl⟩
theorem RelL.book {m : VM} {l : List LR} (h : RelL m l) (c : Ct) (n : Int) : RelL (bookM m c n) (bookL m l c n) := by
 unfold bookM bookL
 split
 ·have hs := h.isS c
  cases hf : l.findIdx? (hitL c) with
  | some i =>
   rw [hf] at hs
   refine ⟨fun k => ?_, ?_⟩
   ·rw [kget_mset,h.get,find_set hf]
   ·rw [mset_len,hs]
    simp only [Option.isSome_some,if_true,List.length_set]
    exact h.len
  | none =>
   rw [hf] at hs
   have hb : Go.Proofs.bkd m c = 0 := by
    unfold Go.Proofs.bkd
    cases hg : mget m (vkey c) with
    | none => rfl
    | some x => rw [hg] at hs; cases hs
   refine ⟨fun k => ?_, ?_⟩
   ·rw [kget_mset,h.get,insL,find_ins hf,hb,Int.zero_add]
   ·rw [mset_len,hs,insL]
    have := kOfL_le l c
    have := h.len
    simp
    omega
 ·exact h
theorem vr_one (l : List LR) : ∀ u ∈ l.flatMap vrC, u.oneCell' = true := by
 intro u hu
 obtain ⟨x,-,hx⟩ := List.mem_flatMap.1 hu
 simp [vrC] at hx
 rcases hx with rfl | rfl | rfl | rfl | rfl | rfl <;> rfl
theorem bookL_len {m : VM} {l : List LR} (c : Ct) (n : Int) : (bookL m l c n).length ≤ l.length + 1 := by
 unfold bookL
 split
 ·split
  ·simp
  ·have := kOfL_le l c
   simp [insL]
   omega
 ·omega
set_option maxHeartbeats 4000000 in
theorem lbook_c {w : World} {v : Value} {l : List LR} {m : VM} (h : RLg w v l) (hr : RelL m l) (hm : vmOk m) {c : Ct} (hc : CtOk c) (hb : l.length ≤ 1000) {n : Int} (hn : 0 ≤ n) :
  FN Tryz.prog 19 [.agg #[v],ctV c,u64 n] w fun e w' => ∃ v',e = .returned (.tuple #[.agg #[v'],i64 (bookE m c n)]) ∧ RLg w' v' (bookL m l c n) ∧ (v' = .slice none 0 0 ∨ v' = v ∨ w.heap.size ≤ slB v') ∧ Ext w w' := by
 refine FN_enter Tryz.func19 rfl rfl (by kernel_rfl) ?_
 obtain ⟨va,vc,hv⟩ := h.isSlice
 subst hv
 have hE : Ext w (((w.alloc (.cells #[.slice va l.length vc] 41)).alloc (.cells #[u32 c.fr,u32 c.to',u64 c.sf,u64 c.su,u64 c.rate] 64)).alloc (.cells #[.slice none 0 0] 41)) := (((Ext.refl w).alloc _).alloc _).alloc _
 have b3 : Blk (((w.alloc (.cells #[.slice va l.length vc] 41)).alloc (.cells #[u32 c.fr,u32 c.to',u64 c.sf,u64 c.su,u64 c.rate] 64)).alloc (.cells #[.slice none 0 0] 41)) w.heap.size [.slice va l.length vc] := (Blk.new w [.slice va l.length vc] 41).ext (((Ext.refl _).alloc _).alloc _)
 have b4 : Blk (((w.alloc (.cells #[.slice va l.length vc] 41)).alloc (.cells #[u32 c.fr, u32 c.to', u64 c.sf, u64 c.su, u64 c.rate] 64)).alloc (.cells #[.slice none 0 0] 41)) (w.heap.size + 1) (ctC c) := by
  have := (Blk.new (w.alloc (.cells #[.slice va l.length vc] 41)) (ctC c) 64).ext ((Ext.refl _).alloc (.cells #[.slice none 0 0] 41))
  simpa using this
 have b6 : Blk (((w.alloc (.cells #[.slice va l.length vc] 41)).alloc (.cells #[u32 c.fr, u32 c.to', u64 c.sf, u64 c.su, u64 c.rate] 64)).alloc (.cells #[.slice none 0 0] 41)) (w.heap.size + 1 + 1) [.slice none 0 0] := by
  have := Blk.new ((w.alloc (.cells #[.slice va l.length vc] 41)).alloc (.cells #[u32 c.fr,u32 c.to',u64 c.sf,u64 c.su,u64 c.rate] 64)) [.slice none 0 0] 41
  simpa using this
 have hsz : (((w.alloc (.cells #[.slice va l.length vc] 41)).alloc (.cells #[u32 c.fr,u32 c.to',u64 c.sf,u64 c.su,u64 c.rate] 64)).alloc (.cells #[.slice none 0 0] 41)).heap.size = w.heap.size + 1 + 1 + 1 := by simp
 simp
 generalize (((w.alloc (.cells #[.slice va l.length vc] 41)).alloc (.cells #[u32 c.fr,u32 c.to',u64 c.sf,u64 c.su,u64 c.rate] 64)).alloc (.cells #[.slice none 0 0] 41)) = w1 at *
 have fin : ∀ (W : World) (a : Value),Ext w W → Ext w (W.setCell ⟨w.heap.size + 1 + 1,0,none⟩ a) := fun W a hX => hX.setCell _ _ (by simp only; omega)
 have hlen := fun ty W => h.isLen (P := Tryz.prog) (t := 39) (by simp) ty W
 have hix := fun i hi W => RLg.index h i hi W
 refine FN.mono (nright_c c hc w1) ?_
 rintro _ w2 ⟨rfl,hE2⟩
 have hX2 := hE.trans hE2
 have bad : (bookE m c n ≠ 0) → bookL m l c n = l := fun h => by unfold bookL; rw [if_neg h]
 have c3 := b3.ext hE2
 have c4 := b4.ext hE2
 have c6 := b6.ext hE2
 cases hrr : ctRight c with
 | false =>
  have hE0 : bookE m c n = 2 := by simp [bookE,hrr]
  rw [bad (by rw [hE0]; omega),hE0]
  simp [c3.cell 0 _ rfl,c6.cell 0 _ rfl,c6.thaw,cell_setCell]
  exact ⟨h.ext (fin _ _ hX2),fin _ _ hX2⟩
 | true =>
 by_cases hn0 : n = 0
 ·have hE0 : bookE m c n = 2 := by simp [bookE,hn0]
  rw [bad (by rw [hE0]; omega),hE0]
  simp [hn0,c3.cell 0 _ rfl,c6.cell 0 _ rfl,c6.thaw,cell_setCell]
  exact ⟨h.ext (fin _ _ hX2),fin _ _ hX2⟩
 simp [hn0,beq_dec,c3.cell 0 _ rfl,(c4).cell 0 _ rfl,(c4).cell 1 _ rfl,(c4).cell 2 _ rfl,(c4).cell 3 _ rfl,(c4).cell 4 _ rfl]
 refine FN.mono (lroom_c (h.ext hX2) hr hm c hc (by omega) c.sf) ?_
 rintro _ w3 ⟨rfl,hE3⟩
 have hX3 := hX2.trans hE3
 have d3 := c3.ext hE3
 have d4 := c4.ext hE3
 have d6 := c6.ext hE3
 by_cases hroom : roomT m c c.sf < n
 ·have hE0 : bookE m c n = 290 := by simp [bookE,hrr,hn0,hroom]
  rw [bad (by rw [hE0]; omega),hE0]
  simp [hroom,d3.cell 0 _ rfl,d6.cell 0 _ rfl,d6.thaw,cell_setCell]
  exact ⟨h.ext (fin _ _ hX3),fin _ _ hX3⟩
 simp [hroom,d3.cell 0 _ rfl,(d4).cell 0 _ rfl,(d4).cell 1 _ rfl,(d4).cell 2 _ rfl,(d4).cell 3 _ rfl,(d4).cell 4 _ rfl]
 refine FN.mono (lfind_c (h.ext hX3) c (by omega)) ?_
 rintro _ w4 ⟨rfl,hE4⟩
 have hX4 := hX3.trans hE4
 have f3 := d3.ext hE4
 have f4 := d4.ext hE4
 have f6 := d6.ext hE4
 have zz4 := ((hE2.trans hE3).trans hE4).size
 cases hf : l.findIdx? (hitL c) with
 | some i =>
  have hI : fndL l c = (i : Int) := by simp [fndL,hf]
  obtain ⟨hil,hh1,-⟩ := List.findIdx?_eq_some_iff_getElem.1 hf
  have hs := hr.isS c
  rw [hf] at hs
  have hE0 : bookE m c n = 0 := by
   have : (mget m (vkey c)).isNone = false := by
    cases hg : mget m (vkey c) with
    | none => rw [hg] at hs; cases hs
    | some x => rfl
   simp [bookE,hrr,hn0,hroom,vfull,this]
  have hbk : bkd m c = l[i].2 := by
   rw [hr.bkd, show l.find? (hitL c) = some l[i] from List.find?_eq_some_iff_getElem.2 ⟨hh1, i, hil, rfl, fun j hj => by
    have := (List.findIdx?_eq_some_iff_getElem.1 hf).2.2 j hj
    simpa using this⟩]
   rfl
  have hLr : bookL m l c n = l.set i (c,bkd m c + n) := by unfold bookL; rw [if_pos hE0,hf]
  have hle := (bookE_0 hm hc hn hE0).2
  rw [hLr,hE0,hI]
  have hneg : (0 : Int) ≤ i := by omega
  have ho := own_empty (e := 125) (s := 6) w4 w1.heap.size zz4
  have hE5 := (Ext.refl w4).alloc (.cells #[] 125)
  simp [f3.cell 0 _ rfl]
  generalize hw5 : (w4.alloc (.cells #[] 125)) = w5 at *
  obtain ⟨v5,w6,hr5,ho5,hE6⟩ := append_newB (P := Tryz.prog) (t := 39) (ty := 39) (e := 125) (s := 6) (by simp) (by simp) (by kernel_rfl) ho (SlB.ext h.toB (hX4.trans hE5)) (vr_one l) (by omega) (by have := hE5.size; omega)
  simp [hr5]
  refine WC_drawC 11 (.F 0 <| .F 1 <| .F 2 <| .F 3 <| .F 4 <| .F 5 <| .F 6 <| .F 7 <| .F 8 <| .F 9 <| .F 10 <| .Z) (fun _ => false) rfl (by kernel_rfl) fun w7 hW => ?_
  have hE7 : Ext w6 w7 := hW ▸ Ext.drew _
  have hE47 := (hE5.trans hE6).trans hE7
  have ho7 := own_ext ho5 hE7
  have hS7 : RLg w7 v5 l := sl_of_own ho7
  have g4 := f4.ext hE47
  have g6 := f6.ext hE47
  have hX7 := hX4.trans hE47
  have zz7 := hE47.size
  have ix := RLg.index hS7 i hil
  have rr := lrRow hS7 hil
  have th := fun j => own_thaw ho7 (by omega) j
  have hn7 := own_nil ho7 (by omega)
  have hge7 := own_ge ho7 hn7
  have wr : IntKind.u64.wrap (l[i].2 + n) = l[i].2 + n := by rw [hbk] at hle; exact wrap64u _ (by omega) (by omega)
  have hput := Pk.own_put vrC (fun _ => rfl) ho7 i hil (c,l[i].2 + n)
  have hMp : Mod (fun k => k = slB v5) w7 (putC w7 (slB v5) (slO v5 + i * 6) (vrC (c,l[i].2 + n))) := putC_mod _ _ (Mod.refl _ _)
  simp [ix,rr.c0,rr.c1,rr.c2,rr.c3,rr.c4,rr.c5,(g4).cell 0 _ rfl,(g4).cell 1 _ rfl,(g4).cell 2 _ rfl,(g4).cell 3 _ rfl,(g4).cell 4 _ rfl,wr,th,cell_setCell]
  generalize hW8 : World.setCell _ ⟨slB v5,slO v5 + i * 6 + 5,none⟩ _ = w8
  have e8 : putC w7 (slB v5) (slO v5 + i * 6) (vrC (c,l[i].2 + n)) = w8 := hW8
  rw [e8] at hput hMp
  obtain ⟨a5,c5,hv5⟩ := own_val ho7
  have k6 := g6.mod hMp (by omega)
  subst hv5
  simp [k6.cell 0 _ rfl,k6.thaw,cell_setCell]
  have hX8 : Ext w w8 := (hX7.mod (S := fun k => w.heap.size ≤ k)).trans (hMp.weaken fun k hk => by omega) |>.ext fun _ h => h
  have hM9 := Mod.setCell (S := fun k => k = w.heap.size + 1 + 1) (Mod.refl _ w8) ⟨w.heap.size + 1 + 1,0,none⟩ (.slice a5 l.length c5) (.inl rfl)
  refine ⟨?_,.inr (.inr (by omega)),fin _ _ hX8⟩
  rw [hbk]
  have := (sl_of_own hput).mod hM9 (by omega)
  show Sl _ 6 _ (l.set i _).length _
  simpa using this
 | none =>
  have hI : fndL l c = -1 := by simp [fndL,hf]
  rw [hI]
  have hs := hr.isS c
  rw [hf] at hs
  have hgn : mget m (vkey c) = none := by
   cases hg : mget m (vkey c) with
   | none => rfl
   | some x => rw [hg] at hs; cases hs
  have hbk : bkd m c = 0 := by unfold Go.Proofs.bkd; rw [hgn]; rfl
  by_cases h512 : (512 : Int) ≤ l.length
  ·have h512' : 512 ≤ m.length := by rw [hr.len]; omega
   have hE0 : bookE m c n = 291 := by simp [bookE,hrr,hn0,hroom,vfull,hgn,h512']
   rw [bad (by rw [hE0]; omega),hE0]
   simp [f3.cell 0 _ rfl,hlen,h512]
   simp [f6.cell 0 _ rfl,f6.thaw,cell_setCell]
   exact ⟨h.ext (fin _ _ hX4),fin _ _ hX4⟩
  ·have h512' : ¬ 512 ≤ m.length := by rw [hr.len]; omega
   have hE0 : bookE m c n = 0 := by simp [bookE,hrr,hn0,hroom,vfull,hgn,h512']
   have hLr : bookL m l c n = insL l c n := by unfold bookL; rw [if_pos hE0,hf]
   rw [hLr,hE0]
   simp [f3.cell 0 _ rfl,hlen,h512]
   refine WC_loop (fun k ρ ds w' => ∃ i : Nat,k = l.length - i ∧ i ≤ kOfL l c ∧ ρ 2 = u64 n ∧ ρ 3 = ptr w.heap.size ∧ ρ 4 = ptr (w.heap.size + 1) ∧ ρ 6 = ptr (w.heap.size + 1 + 1) ∧ ρ 10 = i64 i ∧ ds = [] ∧ Ext w4 w') l.length ⟨0,by simp,by simp,by simp,by simp,by simp,by simp,by simp,rfl,Ext.refl _⟩ ?_
   rintro k ρ ds w7 ⟨i,rfl,hi,e2,e3,e4,e6,e10,rfl,hE7⟩
   have hkl := kOfL_le l c
   simp
   refine WC_drawC 13 (.F 0 <| .F 1 <| .F 2 <| .F 3 <| .F 4 <| .F 5 <| .F 6 <| .F 7 <| .F 8 <| .F 9 <| .F 10 <| .F 11 <| .F 12 <| .Z) (fun _ => false) rfl (by kernel_rfl) fun w8 hW => ?_
   have hE8 : Ext w4 w8 := hE7.trans (hW ▸ Ext.drew _)
   have hX8 := hX4.trans hE8
   have g3 := f3.ext hE8
   have g4 := f4.ext hE8
   have nx : IntKind.i64.wrap ((i : Int) + 1) = ((i + 1 : Nat) : Int) := by rw [wrap64 _ (by omega) (by omega)]; rfl
   refine with_tail (T := ∀ (σ : Env) (W : World),(σ 2 = u64 n ∧ σ 3 = ptr w.heap.size ∧ σ 4 = ptr (w.heap.size + 1) ∧ σ 6 = ptr (w.heap.size + 1 + 1) ∧ σ 10 = i64 (kOfL l c)) → Ext w4 W → WCt Tryz.prog 90 none ?dC ?dQ Tok.mk σ [] W) (fun tail => ?br) ?jn
   case br =>
    by_cases hlt : i < l.length
    ·have g := lrRow (h.ext hX8) hlt
     simp [e3,e4,e10,g3.cell 0 _ rfl,hlen,hlt,hix i hlt,g.c0,g.c1,g.c2,g.c3,g.c4,(g4).cell 0 _ rfl,(g4).cell 1 _ rfl,(g4).cell 2 _ rfl,(g4).cell 3 _ rfl,(g4).cell 4 _ rfl]
     refine FN.mono (nahead_c l[i].1 c w8) ?_
     rintro _ w9 ⟨rfl,hE9⟩
     by_cases ha : aheadP l[i].1 c
     ·rw [show decide (aheadP l[i].1 c) = true from decide_eq_true ha]
      simp [e2,e3,e4,e6,e10,nx]
      exact ⟨l.length - (i + 1),by omega,i + 1,rfl,tw_go _ l i hlt hi (by simpa using ha),rfl,hE8.trans hE9⟩
     ·rw [show decide (aheadP l[i].1 c) = false from decide_eq_false ha]
      have hik : i = kOfL l c := tw_stop _ l i hlt hi (by simpa using ha)
      simp
      refine tail _ _ ⟨?_,?_,?_,?_,?_⟩ (hE8.trans hE9) <;> simp [e2,e3,e4,e6,e10,← hik]
    ·have hik : i = kOfL l c := by omega
     simp [e3,e10,g3.cell 0 _ rfl,hlen,hlt]
     refine tail _ _ ⟨?_,?_,?_,?_,?_⟩ hE8 <;> simp [e2,e3,e4,e6,e10,← hik]
   case jn =>
    rintro σ W ⟨s2,s3,s4,s6,s10⟩ hE9
    have hX9 := hX4.trans hE9
    have d3 := f3.ext hE9
    have d4 := f4.ext hE9
    have d6 := f6.ext hE9
    have zz9 := hE9.size
    refine WC_drawL 15 (.F 1 <| .F 2 <| .F 3 <| .F 4 <| .F 6 <| .F 7 <| .F 8 <| .F 11 <| .F 12 <| .F 13 <| .F 14 <| .D 0 <| .D 9 <| .W 0 <| .L 5 <| .W 9 <| .C 10 <| .Z) (fun _ => false) (Xf (fun k => w1.heap.size ≤ k))
     (fun i u W => if i = 0 then (∃ b,u = .slice (some ⟨b,0,none⟩) 0 0) ∧ W.ownsRow w1.heap.size 125 6 u 0 [] else w1.heap.size ≤ slB u ∧ RLg W u [(c,n)]) rfl (by kernel_rfl) (fun _ _ => rfl)
     (fun i u a b h1 h2 => ?_) fun W1 hW1 => ?_
    ·by_cases hi : i = 0
     ·rw [if_pos hi] at h1 ⊢
      exact ⟨h1.1,own_ext h1.2 (agr_ext h2)⟩
     ·rw [if_neg hi] at h1 ⊢
      exact ⟨h1.1,h1.2.ext (agr_ext h2)⟩
    have hWE : Ext W W1 := hW1 ▸ Ext.drew W
    have hXW := hX9.trans hWE
    have zzW := hWE.size
    have g3 := d3.ext hWE
    have g4 := d4.ext hWE
    have g6 := d6.ext hWE
    have sH := fun W => h.sliceH (P := Tryz.prog) (t := 39) (by simp) .i64 (kOfL l c) (by omega) (by omega) W
    have sL := fun W => h.sliceL (P := Tryz.prog) (t := 39) (by simp) .i64 (kOfL l c) (by omega) (by omega) W
    have hT := h.takeH (kOfL l c) hkl
    have hD := h.dropL (kOfL l c) hkl
    rw [← flat_take vrC (s := 6) (fun _ => rfl)] at hT
    rw [← flat_drop vrC (s := 6) (fun _ => rfl)] at hD
    simp at sH sL
    have x0 : Xf (fun k => w1.heap.size ≤ k) w.heap.size = false := Xf_f (by omega)
    have x1 : Xf (fun k => w1.heap.size ≤ k) (w.heap.size + 1) = false := Xf_f (by omega)
    simp [s2,s3,s4,s10,g3.cell 0 _ rfl,(g4).cell 0 _ rfl,(g4).cell 1 _ rfl,(g4).cell 2 _ rfl,(g4).cell 3 _ rfl,(g4).cell 4 _ rfl,sH,sL,x0,x1]
    refine RL_float (fun W2 h1 => ?_) ?_
    ·simp
     have hs := (hWE.trans (agr_ext h1)).size
     exact ⟨(Ext.refl _).alloc _,own_empty W2 _ (by omega)⟩
    simp
    refine RL_float (fun W2 h1 => ?_) ?_
    ·simp
     have hs := (hWE.trans (agr_ext h1)).size
     exact ⟨(Ext.refl _).alloc _,by simp only [slB]; omega,Sl.made W2 (vrC (c,n)) 125 6 1 rfl⟩
    simp
    refine RL_wait fun v0 W2 h2 ⟨⟨b0,hb0⟩,ho0⟩ => ?_
    subst hb0
    simp
    refine RL_loose fun W3 h3 => ?_
    have hXa := hXW.trans (h2.trans h3)
    have hsa := (hWE.trans (h2.trans h3)).size
    have hlt : (l.take (kOfL l c)).length = kOfL l c := by rw [List.length_take]; omega
    obtain ⟨v1,W4,hr4,ho4,hE5⟩ := append_newB (P := Tryz.prog) (t := 39) (ty := 39) (e := 125) (s := 6) (by simp) (by simp) (by kernel_rfl) (own_ext ho0 h3) (hT.ext hXa).toB (vr_one _) (by omega) (by omega)
    simp [hr4]
    refine KR_ext hE5 ?_
    simp
    refine RL_wait fun v5 W5 h5 ⟨hl5,hs5⟩ => ?_
    obtain ⟨v2,W6,hr6,ho6,hM6,hn6⟩ := append_own (P := Tryz.prog) (t := 39) (ty := 39) (e := 125) (s := 6) (by simp) (by simp) (by kernel_rfl) (own_ext ho4 h5) hs5 (vr_one [(c,n)]) (by simp; omega) (by have := hE5.size; have := h5.size; omega)
    have nS : ∀ k,k < w1.heap.size → ¬ (slN v1 = false ∧ k = slB v1) := fun k hk ⟨e1,e2⟩ => by have := own_ge ho4 e1; omega
    simp [hr6]
    have hE6' : Ext w W6 := (((hXa.trans hE5).trans h5).mod (S := fun k => w.heap.size ≤ k)).trans (hM6.weaken fun k hk => by have := own_ge ho4 hk.1; omega) |>.ext fun _ h => h
    refine KR_mk (Xf_agr (hM6.weaken fun k hk => by have := own_ge ho4 hk.1; omega)) ?_
    have hs6 := ((hWE.trans (h2.trans h3)).trans (hE5.trans h5)).size
    obtain ⟨v3,W7,hr7,ho7,hM7,hn7⟩ := append_own (P := Tryz.prog) (t := 39) (ty := 39) (e := 125) (s := 6) (by simp) (by simp) (by kernel_rfl) ho6 (hD.ext hE6') (vr_one _) (by simp; omega) (by have := hM6.size; omega)
    have nS2 : ∀ k,k < w1.heap.size → ¬ (slN v2 = false ∧ k = slB v2) := fun k hk ⟨e1,e2⟩ => by have := own_ge ho6 e1; omega
    have k6 := ((((g6.ext (h2.trans h3)).ext hE5).ext h5).mod hM6 (nS _ (by omega))).mod hM7 (nS2 _ (by omega))
    obtain ⟨a3,c3,rfl⟩ := own_val ho7
    have hil : (insL l c n).length = l.length + 1 := by simp [insL]; omega
    have hlen' : kOfL l c + [(c,n)].length + (l.length - kOfL l c) = (insL l c n).length := by rw [hil]; simp; omega
    have hfl : (l.take (kOfL l c)).flatMap vrC ++ [(c,n)].flatMap vrC ++ (l.drop (kOfL l c)).flatMap vrC = (insL l c n).flatMap vrC := by simp [insL]
    rw [hlen',hfl] at ho7
    rw [hlen'] at hr7
    simp [hr7,s6,k6.cell 0 _ rfl,k6.thaw,cell_setCell]
    have hM8 := Mod.setCell (S := fun k => k = w.heap.size + 1 + 1) (Mod.refl _ W7) ⟨w.heap.size + 1 + 1,0,none⟩ (.slice a3 (insL l c n).length c3) (.inl rfl)
    have hX7 : Ext w W7 := (hE6'.mod (S := fun k => w.heap.size ≤ k)).trans (hM7.weaken fun k hk => by have := own_ge ho6 hk.1; omega) |>.ext fun _ h => h
    have hn := own_nil ho7 (by omega)
    have hge := own_ge ho7 hn
    exact ⟨(sl_of_own ho7).mod hM8 fun e => by omega,.inr (.inr (by omega)),fin _ _ hX7⟩
end Go.Proofs