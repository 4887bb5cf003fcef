/-
 Contracts of the functions that the law reaches,step by step.
-/
import Derived.Test.YtmmneeomcefgbaaGreatDoorAeT
namespace Go.Proofs
open Pk
set_option maxRecDepth 10000
set_option maxHeartbeats 4000000 in
theorem rdRep_c {w0 w : World} {b rb : Nat} {l0 : List It} {r : Rec} (h : Rd w0 w b l0) (hR : Blk w rb (recC r)) (hrb : w0.heap.size ≤ rb) (hne : b ≠ rb) (hxn : ∀ x ∈ l0, (numsOf x).length ≤ 1000000) :
  FN Tryz.prog 257 [ptr b,ptr rb] w fun e w' => RdR w0 w w' b rb (rdRep r l0) e := by
 refine FN_enter Tryz.func257 rfl rfl (by kernel_rfl) ?_
 simp
 refine FN.mono (rd_next h) ?_
 rintro e1 w1 ⟨M1,hp1⟩
 cases l0 with
 | nil =>
  obtain rfl : e1 = _ := hp1
  simp
  exact ⟨M1.weaken fun j hj => .inl hj,rfl⟩
 | cons x l =>
 obtain ⟨⟨cs,ba,bc,la,lc,css,rfl,hO⟩,H1⟩ := hp1
 have hlb : w0.heap.size ≤ b := h.lt
 have hE1 : Ext w0 w1 := H1.ext
 have R1 := Blk.mod hR M1 (by omega)
 simp
 refine FN.mono (nameOf_c (ItP.ext hO.itC hE1) (hxn x (by simp))) ?_
 rintro _ w2 ⟨rfl,hE2⟩
 by_cases hx : namF x = true
 case neg =>
  have hn : rdRep r (x :: l) = none := if_neg hx
  rw [if_neg hx]
  simp
  refine FN.mono (must_f 180 _) ?_
  rintro _ w4 ⟨rfl,rfl⟩
  simp
  rw [hn]
  exact ⟨((M1.weaken fun j hj => .inl hj).trans hE2.mod).trans (((Ext.refl w2).alloc _).mod),rfl⟩
 rw [if_pos hx]
 obtain ⟨N,hN⟩ : ∃ N,N = namN x := ⟨_,rfl⟩
 rw [← hN]
 have H2 := H1.more hE2
 have R2 := R1.ext hE2
 simp
 have b4 := Blk.new w2 (namC N) 40
 have hE3 : Ext w2 (w2.alloc (.cells #[u32 N.nn,u32 N.ns,u64 N.nt,u32 N.nq] 40)) := (Ext.refl _).alloc _
 have rl := R2.lt
 have bl : b < w2.heap.size := by
  obtain ⟨v,css,hb,-⟩ := H2.row
  exact hb.lt
 have M3 : Mod (fun j => j = b ∨ j = rb) w (w2.alloc (.cells #[u32 N.nn,u32 N.ns,u64 N.nt,u32 N.nq] 40)) := ((M1.weaken fun j hj => .inl hj).trans hE2.mod).trans hE3.mod
 have H3 := H2.more hE3
 have R3 := R2.ext hE3
 generalize (w2.alloc (.cells #[u32 N.nn,u32 N.ns,u64 N.nt,u32 N.nq] 40)) = w3 at *
 refine FN.mono (must_t 180 w3) ?_
 rintro _ w4 ⟨⟨u,rfl⟩,h4⟩
 subst h4
 simp
 refine WC_drawZ 14 (.F 0 <| .F 1 <| .F 2 <| .F 3 <| .F 4 <| .F 6 <| .C 5 <| .C 7 <| .F 8 <| .F 9 <| .S 10 <| .F 11 <| .F 12 <| .S 13 <| .Z) (Xf fun k => k = b) (Xf fun k => k = b) (fun _ _ _ => True) (fun ch w' => Mod (fun j => j = b ∨ j = rb) w w' ∧ ch = panV 180 ∧ rdRep r (x :: l) = none) rfl (by kernel_rfl) (fun _ h => h) (fun _ _ _ _ _ _ => trivial) ?_ fun W hW => ?_
 ·rintro ch ρ' w' ⟨h1,rfl,h2⟩
  simp
  rw [h2]
  exact ⟨h1,rfl⟩
 have hWE : Ext w4 W := hW ▸ Ext.drew _
 have X4 : Xf (fun k => k = b) w2.heap.size = false := Xf_f (by omega)
 have b5 := b4.ext hWE
 have H5 := H3.more hWE
 have R5 := R3.ext hWE
 simp [b5.cell 0 _ rfl,b5.cell 1 _ rfl,b5.cell 2 _ rfl,b5.cell 3 _ rfl,X4]
 refine FN.mono (rdUpi64 H5 4 fun y h0 h1 => wrap64 y (by omega) (by omega)) ?_
 rintro e6 w6 ⟨M6,hp⟩
 rcases ho1 : upI l 4 with _ | ⟨a1, l1⟩
 ·rw [ho1] at hp
  obtain rfl : e6 = _ := hp
  have hn : rdRep r (x :: l) = none := by simp only [rdRep,hx,if_true,ho1,Option.bind_none]
  simp
  exact ⟨(M3.trans hWE.mod).trans (M6.weaken fun j hj => .inl hj),hn⟩
 rw [ho1] at hp
 obtain ⟨rfl,H6⟩ := hp
 simp
 refine KR_mk (Xf_agr M6) ?_
 simp
 refine FN.mono (rdUpi64 H6 6 fun y h0 h1 => wrap64 y (by omega) (by omega)) ?_
 rintro e7 w7 ⟨M7,hp⟩
 rcases ho2 : upI l1 6 with _ | ⟨a2, l2⟩
 ·rw [ho2] at hp
  obtain rfl : e7 = _ := hp
  have hn : rdRep r (x :: l) = none := by simp only [rdRep,hx,if_true,ho1,ho2,Option.bind_some,Option.bind_none]
  simp
  exact ⟨((M3.trans hWE.mod).trans (M6.weaken fun j hj => .inl hj)).trans (M7.weaken fun j hj => .inl hj),hn⟩
 rw [ho2] at hp
 obtain ⟨rfl,H7⟩ := hp
 simp
 refine KR_mk (Xf_agr M7) ?_
 have R7 := (Blk.mod R5 M6 (by omega)).mod M7 (by omega)
 simp [R7.cell 1 _ rfl,R7.cell 2 _ rfl,R7.cell 3 _ rfl,R7.cell 4 _ rfl,R7.thaw,cell_setCell]
 have M8 : Mod (fun j => j = rb) w7 ((((w7.setCell ⟨rb,1,none⟩ (u32 N.nn)).setCell ⟨rb,2,none⟩ (u32 N.ns)).setCell ⟨rb,3,none⟩ (u64 N.nt)).setCell ⟨rb,4,none⟩ (u32 N.nq)) := ((((Mod.refl _ _).setC 1 _).setC 2 _).setC 3 _).setC 4 _
 have R8 := (((R7.set 1 (u32 N.nn)).set 2 (u32 N.ns)).set 3 (u64 N.nt)).set 4 (u32 N.nq)
 simp only [List.set_cons_zero,List.set_cons_succ] at R8
 refine KR_mk (agr_any (M8.weaken fun _ _ => trivial)) ?_
 generalize ((((w7.setCell ⟨rb,1,none⟩ (u32 N.nn)).setCell ⟨rb,2,none⟩ (u32 N.ns)).setCell ⟨rb,3,none⟩ (u64 N.nt)).setCell ⟨rb,4,none⟩ (u32 N.nq)) = w8 at *
 simp [R8.cell 5 _ rfl,R8.thaw]
 have M9 : Mod (fun j => j = rb) w8 (w8.setCell ⟨rb,5,none⟩ (i64 a1)) := (Mod.refl _ _).setC 5 _
 have R9 := R8.set 5 (i64 a1)
 simp only [List.set_cons_zero,List.set_cons_succ] at R9
 refine KR_mk (agr_any (M9.weaken fun _ _ => trivial)) ?_
 generalize (w8.setCell ⟨rb,5,none⟩ (i64 a1)) = w9 at *
 simp [R9.cell 6 _ rfl,R9.thaw]
 have M10 : Mod (fun j => j = rb) w9 (w9.setCell ⟨rb,6,none⟩ (i64 a2)) := (Mod.refl _ _).setC 6 _
 have R10 := R9.set 6 (i64 a2)
 simp only [List.set_cons_zero,List.set_cons_succ] at R10
 have MS := (M8.trans M9).trans M10
 have H10 := H7.ext' (MS.weaken fun j hj => by rw [hj]; exact ⟨hrb,fun e => hne e.symm⟩)
 generalize (w9.setCell ⟨rb,6,none⟩ (i64 a2)) = w10 at *
 refine FN.mono (rd_time H10) ?_
 rintro e11 w11 ⟨M11,hp⟩
 have A : Mod (fun j => j = b ∨ j = rb) w4 w7 := (hWE.mod.trans (M6.weaken fun j hj => .inl hj)).trans (M7.weaken fun j hj => .inl hj)
 rcases ho3 : upI l2 4611686018427387903 with _ | ⟨a3, l3⟩
 ·rw [ho3] at hp
  obtain rfl : e11 = _ := hp
  have hn : rdRep r (x :: l) = none := by simp only [rdRep,hx,if_true,ho1,ho2,ho3,Option.bind_some,Option.bind_none]
  simp
  rw [hn]
  exact ⟨((M3.trans A).trans (MS.weaken fun j hj => .inr hj)).trans (M11.weaken fun j hj => .inl hj),rfl⟩
 rw [ho3] at hp
 obtain ⟨rfl,H11⟩ := hp
 have R11 := Blk.mod R10 M11 (by omega)
 simp [R11.cell 7 _ rfl,R11.thaw]
 have M12 : Mod (fun j => j = rb) w11 (w11.setCell ⟨rb,7,none⟩ (u64 a3)) := (Mod.refl _ _).setC 7 _
 have R12 := R11.set 7 (u64 a3)
 simp only [List.set_cons_zero,List.set_cons_succ] at R12
 have H12 := H11.ext' (M12.weaken fun j hj => by rw [hj]; exact ⟨hrb,fun e => hne e.symm⟩)
 have hs : rdRep r (x :: l) = some ({ r with nn := (namN x).nn,ns := (namN x).ns,nt := (namN x).nt,nq := (namN x).nq,what := a1,why := a2,at' := a3 },l3) := by simp only [rdRep,hx,if_true,ho1,ho2,ho3,Option.bind_some]
 rw [hs]
 rw [hN] at R12
 refine ⟨?_,⟨_,rfl⟩,H12,R12⟩
 exact (((M3.trans A).trans (MS.weaken fun j hj => .inr hj)).trans (M11.weaken fun j hj => .inl hj)).trans (M12.weaken fun j hj => .inr hj)
end Go.Proofs
namespace Go.Proofs
open Pk
set_option maxRecDepth 10000
set_option maxHeartbeats 2000000 in
theorem read_k {w : World} {t : It} {cs : List Value} (ht : ItC w t cs) (h4 : t.k ≠ 4) : FN Tryz.prog 156 [.agg cs.toArray] w fun e w' => RcPost w w' none e := by
 obtain ⟨ba,bc,la,lc,css,hO⟩ := itO ht
 have ecs := hO.cs
 rw [show cs.toArray = #[i64 t.k,u64 t.n,.slice ba t.b.length bc,.string t.s,.slice la t.l.length lc] by rw [ecs]]
 refine FN_enter Tryz.func156 rfl rfl (by kernel_rfl) ?_
 simp [beq_dec,h4]
 have hE1 : Ext w ((w.alloc (.cells #[i64 t.k,u64 t.n,.slice ba t.b.length bc,.string t.s,.slice la t.l.length lc] 160)).alloc (.cells #[i64 0,u32 0,u32 0,u64 0,u32 0,i64 0,i64 0,u64 0,u64 0,u32 0,u32 0,.bool false,u64 0,u64 0,u8 0] 42)) := ((Ext.refl w).alloc _).alloc _
 have o1 : Blk ((w.alloc (.cells #[i64 t.k,u64 t.n,.slice ba t.b.length bc,.string t.s,.slice la t.l.length lc] 160)).alloc (.cells #[i64 0,u32 0,u32 0,u64 0,u32 0,i64 0,i64 0,u64 0,u64 0,u32 0,u32 0,.bool false,u64 0,u64 0,u8 0] 42)) w.heap.size [i64 t.k,u64 t.n,.slice ba t.b.length bc,.string t.s,.slice la t.l.length lc] := (Blk.new w _ _).ext ((Ext.refl _).alloc _)
 have o2 : Blk ((w.alloc (.cells #[i64 t.k, u64 t.n, .slice ba t.b.length bc, .string t.s, .slice la t.l.length lc] 160)).alloc (.cells #[i64 0, u32 0, u32 0, u64 0, u32 0, i64 0, i64 0, u64 0, u64 0, u32 0, u32 0, .bool false, u64 0, u64 0, u8 0] 42)) (w.heap.size + 1) [i64 0, u32 0, u32 0, u64 0, u32 0, i64 0, i64 0, u64 0, u64 0, u32 0, u32 0, .bool false, u64 0, u64 0, u8 0] := by
  have := Blk.new (w.alloc (.cells #[i64 t.k,u64 t.n,.slice ba t.b.length bc,.string t.s,.slice la t.l.length lc] 160)) [i64 0,u32 0,u32 0,u64 0,u32 0,i64 0,i64 0,u64 0,u64 0,u32 0,u32 0,.bool false,u64 0,u64 0,u8 0] 42
  simpa using this
 have z1 : ((w.alloc (.cells #[i64 t.k,u64 t.n,.slice ba t.b.length bc,.string t.s,.slice la t.l.length lc] 160)).alloc (.cells #[i64 0,u32 0,u32 0,u64 0,u32 0,i64 0,i64 0,u64 0,u64 0,u32 0,u32 0,.bool false,u64 0,u64 0,u8 0] 42)).heap.size = w.heap.size + 1 + 1 := by simp
 generalize ((w.alloc (.cells #[i64 t.k,u64 t.n,.slice ba t.b.length bc,.string t.s,.slice la t.l.length lc] 160)).alloc (.cells #[i64 0,u32 0,u32 0,u64 0,u32 0,i64 0,i64 0,u64 0,u64 0,u32 0,u32 0,.bool false,u64 0,u64 0,u8 0] 42)) = w1 at *
 refine FN.mono (must_f 180 w1) ?_
 rintro _ w2 ⟨rfl,rfl⟩
 simp
 exact ⟨hE1,rfl⟩
set_option maxHeartbeats 2000000 in
theorem read_up {w : World} {t : It} {cs : List Value} (ht : ItC w t cs) (h4 : t.k = 4) (hnn : ∀ y ∈ t.l, 0 ≤ y.n) (hu : upI t.l 5 = none) : FN Tryz.prog 156 [.agg cs.toArray] w fun e w' => RcPost w w' none e := by
 obtain ⟨ba,bc,la,lc,css,hO⟩ := itO ht
 have ecs := hO.cs
 rw [show cs.toArray = #[i64 t.k,u64 t.n,.slice ba t.b.length bc,.string t.s,.slice la t.l.length lc] by rw [ecs]]
 refine FN_enter Tryz.func156 rfl rfl (by kernel_rfl) ?_
 simp [h4]
 have hE1 : Ext w ((w.alloc (.cells #[i64 4,u64 t.n,.slice ba t.b.length bc,.string t.s,.slice la t.l.length lc] 160)).alloc (.cells #[i64 0,u32 0,u32 0,u64 0,u32 0,i64 0,i64 0,u64 0,u64 0,u32 0,u32 0,.bool false,u64 0,u64 0,u8 0] 42)) := ((Ext.refl w).alloc _).alloc _
 have o1 : Blk ((w.alloc (.cells #[i64 4,u64 t.n,.slice ba t.b.length bc,.string t.s,.slice la t.l.length lc] 160)).alloc (.cells #[i64 0,u32 0,u32 0,u64 0,u32 0,i64 0,i64 0,u64 0,u64 0,u32 0,u32 0,.bool false,u64 0,u64 0,u8 0] 42)) w.heap.size [i64 4,u64 t.n,.slice ba t.b.length bc,.string t.s,.slice la t.l.length lc] := (Blk.new w _ _).ext ((Ext.refl _).alloc _)
 have o2 : Blk ((w.alloc (.cells #[i64 4, u64 t.n, .slice ba t.b.length bc, .string t.s, .slice la t.l.length lc] 160)).alloc (.cells #[i64 0, u32 0, u32 0, u64 0, u32 0, i64 0, i64 0, u64 0, u64 0, u32 0, u32 0, .bool false, u64 0, u64 0, u8 0] 42)) (w.heap.size + 1) [i64 0, u32 0, u32 0, u64 0, u32 0, i64 0, i64 0, u64 0, u64 0, u32 0, u32 0, .bool false, u64 0, u64 0, u8 0] := by
  have := Blk.new (w.alloc (.cells #[i64 4,u64 t.n,.slice ba t.b.length bc,.string t.s,.slice la t.l.length lc] 160)) [i64 0,u32 0,u32 0,u64 0,u32 0,i64 0,i64 0,u64 0,u64 0,u32 0,u32 0,.bool false,u64 0,u64 0,u8 0] 42
  simpa using this
 have z1 : ((w.alloc (.cells #[i64 4,u64 t.n,.slice ba t.b.length bc,.string t.s,.slice la t.l.length lc] 160)).alloc (.cells #[i64 0,u32 0,u32 0,u64 0,u32 0,i64 0,i64 0,u64 0,u64 0,u32 0,u32 0,.bool false,u64 0,u64 0,u8 0] 42)).heap.size = w.heap.size + 1 + 1 := by simp
 generalize ((w.alloc (.cells #[i64 4,u64 t.n,.slice ba t.b.length bc,.string t.s,.slice la t.l.length lc] 160)).alloc (.cells #[i64 0,u32 0,u32 0,u64 0,u32 0,i64 0,i64 0,u64 0,u64 0,u32 0,u32 0,.bool false,u64 0,u64 0,u8 0] 42)) = w1 at *
 refine FN.mono (must_t 180 w1) ?_
 rintro _ w2 ⟨⟨u,rfl⟩,h2⟩
 subst h2
 simp [o1.cell 4 _ rfl]
 have hE3 : Ext w2 (w2.alloc (.cells #[.slice la t.l.length lc] 264)) := (Ext.refl _).alloc _
 have o3 : Blk (w2.alloc (.cells #[.slice la t.l.length lc] 264)) w2.heap.size [.slice la t.l.length lc] := Blk.new w2 _ _
 obtain ⟨b,hb⟩ : ∃ b,b = w2.heap.size := ⟨_,rfl⟩
 obtain ⟨rb,hrb⟩ : ∃ rb,rb = w.heap.size + 1 := ⟨_,rfl⟩
 rw [← hb] at o3 ⊢
 rw [← hrb] at o2 ⊢
 have p2 := o2.ext hE3
 generalize (w2.alloc (.cells #[.slice la t.l.length lc] 264)) = w3 at *
 have hblt := o3.lt
 have hR3 : Rd w w3 b t.l := by
  refine ⟨⟨.slice la t.l.length lc, css, o3, ?_, ?_⟩, hE1.trans hE3, by have := hE1.size; omega, fun y hy => hnn y hy⟩
  ·exact hO.l
  ·exact hO.c
 refine FN.mono (rdUpi64 hR3 5 fun y h0 h1 => wrap64 y (by omega) (by omega)) ?_
 rintro e4 w4 ⟨hM4,hp4⟩
 rw [hu] at hp4
 obtain rfl : e4 = _ := hp4
 simp
 exact ⟨((((hE1.trans hE3).mod (S := fun j => w.heap.size ≤ j)).trans (hM4.weaken fun j hj => by have := hE1.size; omega)).ext fun _ h => h),rfl⟩
set_option maxHeartbeats 2000000 in
theorem read_0 {w : World} {t x0 : It} {l : List It} {cs : List Value} (ht : ItC w t cs) (h4 : t.k = 4) (hl : t.l = x0 :: l) (h1 : x0.k = 1) (hx0 : 0 ≤ x0.n ∧ x0.n ≤ 5) (hnn : ∀ y ∈ t.l, 0 ≤ y.n) (hk : mget kdL x0.n = none) : FN Tryz.prog 156 [.agg cs.toArray] w fun e w' => RcPost w w' none e := by
 obtain ⟨ba,bc,la,lc,css,hO⟩ := itO ht
 have ecs := hO.cs
 rw [show cs.toArray = #[i64 t.k,u64 t.n,.slice ba t.b.length bc,.string t.s,.slice la t.l.length lc] by rw [ecs]]
 rw [h4]
 refine FN_enter Tryz.func156 rfl rfl (by kernel_rfl) ?_
 simp
 have hE1 : Ext w ((w.alloc (.cells #[i64 4,u64 t.n,.slice ba t.b.length bc,.string t.s,.slice la t.l.length lc] 160)).alloc (.cells #[i64 0,u32 0,u32 0,u64 0,u32 0,i64 0,i64 0,u64 0,u64 0,u32 0,u32 0,.bool false,u64 0,u64 0,u8 0] 42)) := ((Ext.refl w).alloc _).alloc _
 have o1 : Blk ((w.alloc (.cells #[i64 4,u64 t.n,.slice ba t.b.length bc,.string t.s,.slice la t.l.length lc] 160)).alloc (.cells #[i64 0,u32 0,u32 0,u64 0,u32 0,i64 0,i64 0,u64 0,u64 0,u32 0,u32 0,.bool false,u64 0,u64 0,u8 0] 42)) w.heap.size [i64 4,u64 t.n,.slice ba t.b.length bc,.string t.s,.slice la t.l.length lc] := (Blk.new w _ _).ext ((Ext.refl _).alloc _)
 have o2 : Blk ((w.alloc (.cells #[i64 4, u64 t.n, .slice ba t.b.length bc, .string t.s, .slice la t.l.length lc] 160)).alloc (.cells #[i64 0, u32 0, u32 0, u64 0, u32 0, i64 0, i64 0, u64 0, u64 0, u32 0, u32 0, .bool false, u64 0, u64 0, u8 0] 42)) (w.heap.size + 1) [i64 0, u32 0, u32 0, u64 0, u32 0, i64 0, i64 0, u64 0, u64 0, u32 0, u32 0, .bool false, u64 0, u64 0, u8 0] := by
  have := Blk.new (w.alloc (.cells #[i64 4,u64 t.n,.slice ba t.b.length bc,.string t.s,.slice la t.l.length lc] 160)) [i64 0,u32 0,u32 0,u64 0,u32 0,i64 0,i64 0,u64 0,u64 0,u32 0,u32 0,.bool false,u64 0,u64 0,u8 0] 42
  simpa using this
 have z1 : ((w.alloc (.cells #[i64 4,u64 t.n,.slice ba t.b.length bc,.string t.s,.slice la t.l.length lc] 160)).alloc (.cells #[i64 0,u32 0,u32 0,u64 0,u32 0,i64 0,i64 0,u64 0,u64 0,u32 0,u32 0,.bool false,u64 0,u64 0,u8 0] 42)).heap.size = w.heap.size + 1 + 1 := by simp
 generalize ((w.alloc (.cells #[i64 4,u64 t.n,.slice ba t.b.length bc,.string t.s,.slice la t.l.length lc] 160)).alloc (.cells #[i64 0,u32 0,u32 0,u64 0,u32 0,i64 0,i64 0,u64 0,u64 0,u32 0,u32 0,.bool false,u64 0,u64 0,u8 0] 42)) = w1 at *
 refine FN.mono (must_t 180 w1) ?_
 rintro _ w2 ⟨⟨u,rfl⟩,h2⟩
 subst h2
 simp [o1.cell 4 _ rfl]
 have hE3 : Ext w2 (w2.alloc (.cells #[.slice la t.l.length lc] 264)) := (Ext.refl _).alloc _
 have o3 : Blk (w2.alloc (.cells #[.slice la t.l.length lc] 264)) w2.heap.size [.slice la t.l.length lc] := Blk.new w2 _ _
 obtain ⟨b,hb⟩ : ∃ b,b = w2.heap.size := ⟨_,rfl⟩
 obtain ⟨rb,hrb⟩ : ∃ rb,rb = w.heap.size + 1 := ⟨_,rfl⟩
 rw [← hb] at o3 ⊢
 rw [← hrb] at o2 ⊢
 have p2 := o2.ext hE3
 generalize (w2.alloc (.cells #[.slice la t.l.length lc] 264)) = w3 at *
 have hblt := o3.lt
 have hR3 : Rd w w3 b (x0 :: l) := by
  refine ⟨⟨.slice la t.l.length lc, css, o3, ?_, ?_⟩, hE1.trans hE3, by have := hE1.size; omega, fun y hy => hnn y (by rw [hl]; exact hy)⟩
  ·have := hO.l; rw [hl] at this ⊢; exact this
  ·have := hO.c; rw [hl] at this; exact this
 refine FN.mono (rdUpi64 hR3 5 fun y h0 h1 => wrap64 y (by omega) (by omega)) ?_
 rintro e4 w4 ⟨hM4,hp4⟩
 have hu4 : upI (x0 :: l) 5 = some (x0.n,l) := if_pos ⟨h1,hx0.2⟩
 rw [hu4] at hp4
 obtain ⟨rfl,hR4⟩ := hp4
 obtain ⟨k,hkk⟩ : ∃ k,k = x0.n := ⟨_,rfl⟩
 rw [← hkk] at hk ⊢
 have q2 := p2.mod hM4 (by omega)
 simp [q2.cell 0 _ rfl,q2.thaw]
 have q2' := q2.set 0 (i64 k)
 simp only [List.set_cons_zero] at q2'
 have hM5 : Mod (fun j => j = rb) w4 (w4.setCell ⟨rb,0,none⟩ (i64 k)) := (Mod.refl _ _).setC _ _
 have hR5 := hR4.ext' (hM5.weaken fun j hj => by rw [hj]; exact ⟨by omega,by omega⟩)
 have hsz3 := hE3.size
 have hsz4 := hM4.size
 have hsz5 := hM5.size
 have hEw5 : Ext w (w4.setCell ⟨rb,0,none⟩ (i64 k)) := ((((hE1.trans hE3).mod (S := fun j => w.heap.size ≤ j)).trans (hM4.weaken fun j hj => by omega)).trans (hM5.weaken fun j hj => by omega)).ext fun _ h => h
 generalize (w4.setCell ⟨rb,0,none⟩ (i64 k)) = w5 at *
 refine WC_drawL 9 (.F 1 <| .F 2 <| .D 7 <| .L 0 <| .L 3 <| .F 4 <| .F 5 <| .F 6 <| .W 7 <| .S 8 <| .Z) (fun _ => false) (fun _ => false) (fun _ u W => ∃ j, u = ptr j ∧ w5.heap.size ≤ j ∧ Blk W j [.string ⟨#[]⟩, .nilFunc, .nilFunc, .nilFunc]) rfl (by kernel_rfl) (fun _ h => h)
  (fun _ _ _ _ ⟨j,h1,h2,h3⟩ hA => ⟨j,h1,h2,h3.ext (agr_ext hA)⟩) fun W hW => ?_
 have hWE : Ext w5 W := hW ▸ Ext.drew w5
 have r2 := q2'.ext hWE
 simp [r2.cell 0 _ rfl]
 refine RL_float (fun W' h' => ?_) ?_
 ·simp
  have hs := (hWE.trans (agr_ext h')).size
  exact ⟨(Ext.refl _).alloc _,hs,Blk.new W' [.string ⟨#[]⟩,.nilFunc,.nilFunc,.nilFunc] 210⟩
 simp
 refine RL_loose fun W3 h3 => ?_
 simp
 refine FN.mono (kinds_c W3) ?_
 rintro _ W4 ⟨mr,rfl,hm,hE4⟩
 simp
 refine KR_ext hE4 ?_
 simp
 refine RL_loose fun W5 h5 => ?_
 simp [kd_none hm hk W5 h5]
 refine KR_same ?_
 simp
 refine RL_wait fun v6 W6 h6 ⟨j,hj,hjs,hjb⟩ => ?_
 subst hj
 simp [hjb.cell 0 _ rfl,hjb.cell 1 _ rfl,hjb.cell 2 _ rfl,hjb.cell 3 _ rfl,hjb.thaw,cell_setCell]
 have hM7 : Mod (fun i => i = j) W6 ((((W6.setCell ⟨j,0,none⟩ (.string ⟨#[]⟩)).setCell ⟨j,1,none⟩ .nilFunc).setCell ⟨j,2,none⟩ .nilFunc).setCell ⟨j,3,none⟩ .nilFunc) := ((((Mod.refl _ W6).setC 0 _).setC 1 _).setC 2 _).setC 3 _
 refine KR_mk (agr_any (hM7.weaken fun _ _ => trivial)) ?_
 have hE56 := hWE.trans (h3.trans (hE4.trans (h5.trans h6)))
 have hszw := hEw5.size
 have hEw7 : Ext w ((((W6.setCell ⟨j,0,none⟩ (.string ⟨#[]⟩)).setCell ⟨j,1,none⟩ .nilFunc).setCell ⟨j,2,none⟩ .nilFunc).setCell ⟨j,3,none⟩ .nilFunc) := (((hEw5.trans hE56).mod (S := fun j => w.heap.size ≤ j)).trans (hM7.weaken fun i hi => by omega)).ext fun _ h => h
 generalize ((((W6.setCell ⟨j,0,none⟩ (.string ⟨#[]⟩)).setCell ⟨j,1,none⟩ .nilFunc).setCell ⟨j,2,none⟩ .nilFunc).setCell ⟨j,3,none⟩ .nilFunc) = w7 at *
 simp
 refine FN.mono (must_f 180 w7) ?_
 rintro _ w8 ⟨rfl,rfl⟩
 simp
 exact ⟨hEw7,rfl⟩
noncomputable def rdKd (k : Int) (l : List It) : Option (Rec × List It) := if k = 1 then rdRep { rec0 with kind := k } l else if k = 2 then rdAsk { rec0 with kind := k } l else if k = 3 then rdTell { rec0 with kind := k } l else if k = 4 then rdFore { rec0 with kind := k } l else rdMem { rec0 with kind := k } l
def fbKd (k : Int) (r : Rec) : Bool := if k = 1 then repF r else if k = 4 then foreF r else decide (0 < min r.node r.reg)
noncomputable def readRec (t : It) : Option Rec := if t.k = 4 then (match t.l with | [] => none | x0 :: l => if x0.k = 1 ∧ 1 ≤ x0.n ∧ x0.n ≤ 5 then readO (rdKd x0.n l) (fbKd x0.n) else none) else none
theorem readAny_c {w : World} {t : It} {cs : List Value} (ht : ItC w t cs) (hnn : ∀ y ∈ t.l, 0 ≤ y.n) (hxn : ∀ x ∈ t.l, (numsOf x).length ≤ 1000000) : FN Tryz.prog 156 [.agg cs.toArray] w fun e w' => RcPost w w' (readRec t) e := by
 unfold readRec
 by_cases h4 : t.k = 4
 case neg => rw [if_neg h4]; exact read_k ht h4
 rw [if_pos h4]
 cases hl : t.l with
 | nil => exact read_up ht h4 hnn (by rw [hl]; rfl)
 | cons x0 l =>
  have hn0 : 0 ≤ x0.n := hnn x0 (by rw [hl]; simp)
  by_cases hc : x0.k = 1 ∧ 1 ≤ x0.n ∧ x0.n ≤ 5
  case neg =>
   simp only [if_neg hc]
   by_cases h1 : x0.k = 1 ∧ x0.n ≤ 5
   ·refine read_0 ht h4 hl h1.1 ⟨hn0,h1.2⟩ hnn ?_
    have : x0.n = 0 := by
     have := h1.1
     by_cases h0 : 1 ≤ x0.n
     ·exact absurd ⟨this,h0,h1.2⟩ hc
     ·omega
    rw [this]; rfl
   ·exact read_up ht h4 hnn (by rw [hl]; exact if_neg h1)
  simp only [if_pos hc]
  obtain ⟨h1,hk⟩ := hc
  have hcase : x0.n = 1 ∨ x0.n = 2 ∨ x0.n = 3 ∨ x0.n = 4 ∨ x0.n = 5 := by omega
  have hx : ∀ x ∈ l,(numsOf x).length ≤ 1000000 := fun x hx => hxn x (by rw [hl]; simp [hx])
  unfold rdKd fbKd
  rcases hcase with e | e | e | e | e
  ·rw [if_pos e]
   refine readI_c (s := ⟨#[114,101,112,111,114,116]⟩) (fl := 254) (fr := 257) (ff := 260) ht h4 hl h1 ⟨hn0,hk.2⟩ hnn (by rw [e]; rfl) (fun w0 w' b rb h hR hrb hne => rdRep_c h hR hrb hne hx) fun r rest _ => ?_
   rw [if_pos e]
   exact rep_fine r
  ·rw [if_neg (by omega),if_pos e]
   refine readI_c (s := ⟨#[97,115,107]⟩) (fl := 201) (fr := 204) (ff := 207) ht h4 hl h1 ⟨hn0,hk.2⟩ hnn (by rw [e]; rfl) (fun w0 w' b rb h hR hrb hne => rdAsk_c h hR hrb hne) fun r rest _ => ?_
   rw [if_neg (by omega),if_neg (by omega)]
   exact there_c r
  ·rw [if_neg (by omega),if_neg (by omega),if_pos e]
   refine readI_c (s := ⟨#[116,101,108,108]⟩) (fl := 208) (fr := 210) (ff := 207) ht h4 hl h1 ⟨hn0,hk.2⟩ hnn (by rw [e]; rfl) (fun w0 w' b rb h hR hrb hne => rdTell_c h hR hrb hne) fun r rest _ => ?_
   rw [if_neg (by omega),if_neg (by omega)]
   exact there_c r
  ·rw [if_neg (by omega),if_neg (by omega),if_neg (by omega),if_pos e]
   refine readI_c (s := ⟨#[102,111,114,101]⟩) (fl := 213) (fr := 215) (ff := 217) ht h4 hl h1 ⟨hn0,hk.2⟩ hnn (by rw [e]; rfl) (fun w0 w' b rb h hR hrb hne => rdFore_c h hR hrb hne) fun r rest _ => ?_
   rw [if_neg (by omega),if_pos e]
   exact fore_fine r
  ·rw [if_neg (by omega),if_neg (by omega),if_neg (by omega),if_neg (by omega)]
   refine readI_c (s := ⟨#[109,101,109,98,101,114]⟩) (fl := 219) (fr := 220) (ff := 207) ht h4 hl h1 ⟨hn0,hk.2⟩ hnn (by rw [e]; rfl) (fun w0 w' b rb h hR hrb hne => rdMem_c h hR hrb hne) fun r rest _ => ?_
   rw [if_neg (by omega),if_neg (by omega)]
   exact there_c r
end Go.Proofs