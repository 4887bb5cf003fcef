/-
 Contracts of the functions that the law reaches,step by step.
-/
import Derived.Test.YtdflcfoalhhjlaaGreatSpU
namespace Go.Proofs
open Pk
set_option maxRecDepth 10000
structure Wy where
 a : Int
 h : Int
 n : Int
 f : Ct
deriving DecidableEq
abbrev wyC (x : Wy) : List Value := [u64 x.a,i64 x.h,u32 x.n,u32 x.f.fr,u32 x.f.to',u64 x.f.sf,u64 x.f.su,u64 x.f.rate]
abbrev wyV (x : Wy) : Value := .agg #[u64 x.a,i64 x.h,u32 x.n,u32 x.f.fr,u32 x.f.to',u64 x.f.sf,u64 x.f.su,u64 x.f.rate]
def wyLt (x y : Wy) : Prop := x.a < y.a ∨ x.a = y.a ∧ (x.h < y.h ∨ x.h = y.h ∧ (x.n < y.n ∨ x.n = y.n ∧ x.f.sf < y.f.sf))
instance (x y : Wy) : Decidable (wyLt x y) := by unfold wyLt; infer_instance
theorem wyLt_or (x y : Wy) : orI [cmpI x.a y.a, cmpI x.h y.h, cmpI x.n y.n, cmpI x.f.sf y.f.sf] < 0 ↔ wyLt x y := by
 unfold wyLt
 simp only [orI,cmpI]
 repeat' split
 all_goals omega
theorem better_c (x y : Wy) (w : World) : FN Tryz.prog 23 [wyV x, wyV y] w fun e w' => e = .returned (.bool (decide (wyLt x y))) ∧ Ext w w' := by
 refine FN_enter Tryz.func23 rfl rfl (by kernel_rfl) ?_
 have hE : Ext w ((w.alloc (.cells #[u64 x.a,i64 x.h,u32 x.n,u32 x.f.fr,u32 x.f.to',u64 x.f.sf,u64 x.f.su,u64 x.f.rate] 66)).alloc (.cells #[u64 y.a,i64 y.h,u32 y.n,u32 y.f.fr,u32 y.f.to',u64 y.f.sf,u64 y.f.su,u64 y.f.rate] 66)) := ((Ext.refl w).alloc _).alloc _
 have hA : Blk ((w.alloc (.cells #[u64 x.a,i64 x.h,u32 x.n,u32 x.f.fr,u32 x.f.to',u64 x.f.sf,u64 x.f.su,u64 x.f.rate] 66)).alloc (.cells #[u64 y.a,i64 y.h,u32 y.n,u32 y.f.fr,u32 y.f.to',u64 y.f.sf,u64 y.f.su,u64 y.f.rate] 66)) w.heap.size (wyC x) := (Blk.new w (wyC x) 66).ext ((Ext.refl _).alloc _)
 have hB : Blk ((w.alloc (.cells #[u64 x.a, i64 x.h, u32 x.n, u32 x.f.fr, u32 x.f.to', u64 x.f.sf, u64 x.f.su, u64 x.f.rate] 66)).alloc (.cells #[u64 y.a, i64 y.h, u32 y.n, u32 y.f.fr, u32 y.f.to', u64 y.f.sf, u64 y.f.su, u64 y.f.rate] 66)) (w.heap.size + 1) (wyC y) := by
  have := Blk.new (w.alloc (.cells #[u64 x.a,i64 x.h,u32 x.n,u32 x.f.fr,u32 x.f.to',u64 x.f.sf,u64 x.f.su,u64 x.f.rate] 66)) (wyC y) 66
  simpa using this
 simp
 generalize ((w.alloc (.cells #[u64 x.a,i64 x.h,u32 x.n,u32 x.f.fr,u32 x.f.to',u64 x.f.sf,u64 x.f.su,u64 x.f.rate] 66)).alloc (.cells #[u64 y.a,i64 y.h,u32 y.n,u32 y.f.fr,u32 y.f.to',u64 y.f.sf,u64 y.f.su,u64 y.f.rate] 66)) = W at *
 refine WC_drawC 23 (.F 0 <| .F 1 <| .F 2 <| .F 3 <| .F 5 <| .F 6 <| .F 7 <| .F 8 <| .F 10 <| .F 11 <| .F 12 <| .F 13 <| .F 15 <| .F 16 <| .F 17 <| .F 18 <| .F 19 <| .F 20 <| .F 21 <| .F 22 <| .C 4 <| .C 9 <| .C 14 <| .Z) (fun _ => false) rfl (by kernel_rfl) fun W1 hW => ?_
 have hWE : Ext W W1 := hW ▸ Ext.drew W
 have gA := hA.ext hWE
 have gB := hB.ext hWE
 simp [gA.cell 0 _ rfl,gA.cell 1 _ rfl,gA.cell 2 _ rfl,gA.cell 5 _ rfl,gB.cell 0 _ rfl,gB.cell 1 _ rfl,gB.cell 2 _ rfl,gB.cell 5 _ rfl]
 refine FN.mono (cmp64_c x.a y.a W1) ?_
 rintro _ _ ⟨rfl,rfl⟩
 rename_i W1
 simp
 refine KR_same ?_
 simp
 refine FN.mono (cmpI_c x.h y.h W1) ?_
 rintro _ _ ⟨rfl,rfl⟩
 rename_i W1
 simp
 refine KR_same ?_
 simp
 refine FN.mono (cmp32_c x.n y.n W1) ?_
 rintro _ _ ⟨rfl,rfl⟩
 rename_i W1
 simp
 refine KR_same ?_
 simp
 refine FN.mono (cmp64_c x.f.sf y.f.sf W1) ?_
 rintro _ _ ⟨rfl,rfl⟩
 rename_i W1
 simp
 have hs : Sl (W1.alloc (.cells #[i64 (cmpI x.a y.a),i64 (cmpI x.h y.h),i64 (cmpI x.n y.n),i64 (cmpI x.f.sf y.f.sf)] 3)) 1 (.slice (some ⟨W1.heap.size,0,none⟩) 4 4) 4 ([cmpI x.a y.a,cmpI x.h y.h,cmpI x.n y.n,cmpI x.f.sf y.f.sf].map i64) := Sl.made W1 [i64 (cmpI x.a y.a),i64 (cmpI x.h y.h),i64 (cmpI x.n y.n),i64 (cmpI x.f.sf y.f.sf)] 3 1 4 rfl
 have hE2 := (Ext.refl W1).alloc (.cells #[i64 (cmpI x.a y.a),i64 (cmpI x.h y.h),i64 (cmpI x.n y.n),i64 (cmpI x.f.sf y.f.sf)] 3)
 refine FN.mono (or_c (xs := [cmpI x.a y.a,cmpI x.h y.h,cmpI x.n y.n,cmpI x.f.sf y.f.sf]) hs (by simp)) ?_
 rintro _ W2 ⟨rfl,hw⟩
 subst hw
 simp
 exact ⟨wyLt_or x y,(hE.trans hWE).trans hE2⟩
structure GrAt (w : World) (g p : Nat) (v : Value) (l : List Ct) (t R : Nat) (M : ME) (q r : Nat) (m : VM) : Prop where
 blk : Blk w g [ptr p,ptr t,ptr q]
 plan : PlanAt w p v l
 tab : TabAt w t R M
 led : LedAt w q r m
theorem GrAt.ext {w w' : World} {g p t R q r : Nat} {v : Value} {l : List Ct} {M : ME} {m : VM} (h : GrAt w g p v l t R M q r m) (hE : Ext w w') : GrAt w' g p v l t R M q r m := ⟨h.blk.ext hE,h.plan.ext hE,h.tab.ext hE,h.led.ext hE⟩
theorem gnone_c {w : World} {g p t R q r : Nat} {v : Value} {l : List Ct} {M : ME} {m : VM} (h : GrAt w g p v l t R M q r m) : FN Tryz.prog 91 [ptr g] w fun e w' => e = .returned (.bool false) ∧ w' = w := by
 refine FN_enter Tryz.func91 rfl rfl (by kernel_rfl) ?_
 simp [h.blk.cell 0 _ rfl]
theorem gnew_c {w : World} {p t R q r : Nat} {v : Value} {l : List Ct} {M : ME} {m : VM} (hp : PlanAt w p v l) (hl : l.length ≤ 1048576) (ht : TabAt w t R M) (hq : LedAt w q r m) :
  FN Tryz.prog 35 [ptr p, ptr t, ptr q] w fun e w' => ∃ g p' v' t' R' M' q' r', e = .returned (.tuple #[ptr g, i64 0]) ∧ GrAt w' g p' v' l t' R' M' q' r' m ∧ (∀ k, sps M' k = sps M k) ∧ total M' = total M ∧ Ext w w' ∧
   (w.heap.size ≤ g ∧ w.heap.size ≤ p' ∧ (l ≠ [] → w.heap.size ≤ slB v') ∧ (∀ k,Foot t' R' M' k → w.heap.size ≤ k) ∧ w.heap.size ≤ q' ∧ w.heap.size ≤ r') := by
 refine FN_enter Tryz.func35 rfl rfl (by kernel_rfl) ?_
 simp
 refine FN.mono (ccopy_c hp hl) ?_
 rintro _ w1 ⟨p',v',rfl,hp1,h1,g1,g2⟩
 simp
 refine FN.mono (copy_c (ht.ext h1)) ?_
 rintro _ w2 ⟨t',R',M',rfl,ht2,hs2,hn2,h2,g3⟩
 simp
 refine FN.mono (vcopy_c (hq.ext (h1.trans h2))) ?_
 rintro _ w3 ⟨q',r',rfl,hq3,h3,g4,g5⟩
 simp
 have hE := (Ext.refl w3).alloc (.cells #[ptr p',ptr t',ptr q'] 167)
 have s1 := h1.size
 have s2 := h2.size
 have s3 := h3.size
 refine ⟨p',v',t',R',M',q',r',⟨Blk.new w3 [ptr p',ptr t',ptr q'] 167,hp1.ext ((h2.trans h3).trans hE),ht2.ext (h3.trans hE),hq3.ext hE⟩,fun a b => hs2 (a,b),hn2,((h1.trans h2).trans h3).trans hE,by omega,g1,g2,fun k hk => by have := g3 k hk; omega,by omega,by omega⟩
end Go.Proofs
namespace Go.Proofs
open Pk
set_option maxRecDepth 10000
def sentB (m : ML) (o u : Int) : Int → List Int → Int
 | b,[] => b
 | b,s :: ks => sentB m o u (if o < s ∧ s ≤ u then min b (lnd m s) else b) ks
theorem sentB_snoc (m : ML) (o u : Int) : ∀ (ks : List Int) (b k : Int), sentB m o u b (ks ++ [k]) = (if o < k ∧ k ≤ u then min (sentB m o u b ks) (lnd m k) else sentB m o u b ks)
 | [],b,k => rfl
 | x :: ks,b,k => by simp only [List.cons_append,sentB]; exact sentB_snoc m o u ks _ k
def sentN (m : VM) (c : Ct) (a n : Int) : Bool := !ctRight c || (decide (n = 0) || decide (roomT m c a < n))
def sentO (m : VM) (m1 : ML) (ys : List Int) (c : Ct) (a n : Int) : Option Int :=
 if sentN m c a n = true then none else if c.su < overL m c a n then none
 else if 4611686018427387903 ≤ sentB m1 (overL m c a n) c.su (lnd m1 (overL m c a n)) ys then none else some (sentB m1 (overL m c a n) c.su (lnd m1 (overL m c a n)) ys)
theorem overL_0 {m : VM} (hm : vmOk m) {c : Ct} (hc : CtOk c) {a n : Int} (ha : 0 ≤ a) (hn : 0 ≤ n) : 0 ≤ overL m c a n := by
 unfold overL
 split
 ·rename_i hr
  have h1 : 0 ≤ addT (bookedT m c) n := by
   unfold addT bookedT
   rw [if_pos hr]
   have := top_0 (bkd_b hm c).1
   have := top_0 hn
   exact top_0 (by omega)
  have := overT_0 hc.sf.1 h1 hc.rate.1
  omega
 ·omega
set_option maxHeartbeats 2000000 in
theorem sent_c {w : World} {g p t R q r : Nat} {v : Value} {l : List Ct} {M : ME} {m : VM} (h : GrAt w g p v l t R M q r m) (hg : gdT M) (hm : vmOk m) {c : Ct} (hc : CtOk c) (hl : (sps M (c.fr, c.to')).length ≤ 255) {ys : List Int} (hy : isKeys (sps M (c.fr, c.to')) ys)
  {a n : Int} (ha : 0 ≤ a) (hn : 0 ≤ n) : FN Tryz.prog 122 [ptr g,ctV c,u64 a,u64 n] w fun e w' => e = .returned (.tuple #[u64 ((sentO m (sps M (c.fr,c.to')) ys c a n).getD 0),.bool (sentO m (sps M (c.fr,c.to')) ys c a n).isSome]) ∧ Ext w w' := by
 refine FN_enter Tryz.func122 rfl rfl (by kernel_rfl) ?_
 have hE : Ext w ((w.alloc (.cells #[ptr g] 34)).alloc (.cells #[u32 c.fr,u32 c.to',u64 c.sf,u64 c.su,u64 c.rate] 64)) := ((Ext.refl w).alloc _).alloc _
 have v0 : Var ((w.alloc (.cells #[ptr g] 34)).alloc (.cells #[u32 c.fr,u32 c.to',u64 c.sf,u64 c.su,u64 c.rate] 64)) w.heap.size (ptr g) := (Var.new w (ptr g) 34).ext ((Ext.refl _).alloc _)
 have hB : Blk ((w.alloc (.cells #[ptr g] 34)).alloc (.cells #[u32 c.fr, u32 c.to', u64 c.sf, u64 c.su, u64 c.rate] 64)) (w.heap.size + 1) (ctC c) := by
  have := Blk.new (w.alloc (.cells #[ptr g] 34)) (ctC c) 64
  simpa using this
 have hsz : ((w.alloc (.cells #[ptr g] 34)).alloc (.cells #[u32 c.fr,u32 c.to',u64 c.sf,u64 c.su,u64 c.rate] 64)).heap.size = w.heap.size + 1 + 1 := by simp
 have h1 := h.ext hE
 simp
 generalize ((w.alloc (.cells #[ptr g] 34)).alloc (.cells #[u32 c.fr,u32 c.to',u64 c.sf,u64 c.su,u64 c.rate] 64)) = w1 at *
 refine WC_drawC 20 (.F 0 <| .C 1 <| .F 2 <| .F 3 <| .C 4 <| .F 5 <| .F 6 <| .F 7 <| .F 8 <| .F 9 <| .F 10 <| .F 11 <| .F 12 <| .F 13 <| .F 14 <| .F 15 <| .F 16 <| .F 17 <| .F 19 <| .C 18 <| .Z) (fun _ => false) rfl (by kernel_rfl) fun W hW => ?_
 have hWE : Ext w1 W := hW ▸ Ext.drew w1
 have h2 := h1.ext hWE
 simp [(v0.ext hWE).cell]
 refine FN.mono (gnone_c h2) ?_
 rintro _ _ ⟨rfl,rfl⟩
 rename_i W
 simp
 refine KR_same ?_
 simp [(hB.ext hWE).cell 0 _ rfl,(hB.ext hWE).cell 1 _ rfl,(hB.ext hWE).cell 2 _ rfl,(hB.ext hWE).cell 3 _ rfl,(hB.ext hWE).cell 4 _ rfl]
 refine FN.mono (check_c c hc W) ?_
 rintro _ W2 ⟨rfl,hE2⟩
 have hX2 := hWE.trans hE2
 have h3 := h1.ext hX2
 simp
 refine KR_ext hE2 ?_
 cases hr : ctRight c with
 | false =>
  simp [sentO,sentN,hr]
  exact hE.trans hX2
 | true =>
 by_cases h0 : n = 0
 ·subst h0
  simp [sentO,sentN,hr]
  exact hE.trans hX2
 simp [beq_dec,h0,(v0.ext hX2).cell,h3.blk.cell 2 _ rfl,(hB.ext hX2).cell 0 _ rfl,(hB.ext hX2).cell 1 _ rfl,(hB.ext hX2).cell 2 _ rfl,(hB.ext hX2).cell 3 _ rfl,(hB.ext hX2).cell 4 _ rfl]
 refine FN.mono (vroom_c h3.led hm c hc a ha) ?_
 rintro _ W3 ⟨rfl,hE3⟩
 have hX3 := hX2.trans hE3
 simp
 refine KR_ext hE3 ?_
 by_cases hro : roomT m c a < n
 ·simp [sentO,sentN,hr,h0,hro]
  exact hE.trans hX3
 have hno : sentN m c a n = false := by simp [sentN,hr,h0,hro]
 simp [hro]
 have h3' := h1.ext hX3
 refine WC_drawL 9 (.F 0 <| .F 1 <| .F 2 <| .F 3 <| .F 4 <| .F 5 <| .F 6 <| .D 8 <| .L 7 <| .W 8 <| .Z) (fun _ => false) (fun _ => false) (fun _ u W => ∃ j, u = ptr j ∧ w1.heap.size ≤ j ∧ Blk W j [u64 0]) rfl (by kernel_rfl) (fun _ h => h)
  (fun _ _ _ _ ⟨j,h1,h2,h3⟩ hA => ⟨j,h1,h2,h3.ext (agr_ext hA)⟩) fun V hV => ?_
 have hVE : Ext W3 V := hV ▸ Ext.drew W3
 have hX4 := hX3.trans hVE
 have h4 := h1.ext hX4
 simp [(v0.ext hX4).cell,h4.blk.cell 2 _ rfl,(hB.ext hX4).cell 0 _ rfl,(hB.ext hX4).cell 1 _ rfl,(hB.ext hX4).cell 2 _ rfl,(hB.ext hX4).cell 3 _ rfl,(hB.ext hX4).cell 4 _ rfl]
 refine RL_float (fun W' h' => ?_) ?_
 ·simp
  have hs := (hX4.trans (agr_ext h')).size
  exact ⟨(Ext.refl _).alloc _,hs,Blk.new W' [u64 0] 27⟩
 simp
 refine RL_loose fun V5 hV5 => ?_
 simp
 refine FN.mono (vover_c (h4.led.ext hV5) hm c hc a n ha hn) ?_
 rintro _ V6 ⟨rfl,hV6⟩
 simp
 refine KR_ext hV6 ?_
 simp
 refine RL_wait fun v10 V7 hV7 ⟨jo,hjo,hjs,hjb⟩ => ?_
 subst hjo
 simp [hjb.cell 0 _ rfl,hjb.thaw 0]
 have ho0 := overL_0 hm hc ha hn
 have hso : sentO m (sps M (c.fr, c.to')) ys c a n = if c.su < overL m c a n then none
   else if 4611686018427387903 ≤ sentB (sps M (c.fr,c.to')) (overL m c a n) c.su (lnd (sps M (c.fr,c.to')) (overL m c a n)) ys then none else some (sentB (sps M (c.fr,c.to')) (overL m c a n) c.su (lnd (sps M (c.fr,c.to')) (overL m c a n)) ys) := by
  unfold sentO
  rw [if_neg (by rw [hno]; simp)]
 rw [hso]
 obtain ⟨o,ho⟩ : ∃ o,o = overL m c a n := ⟨_,rfl⟩
 rw [← ho] at ho0 ⊢
 have hjv := (hjb.set 0 (u64 o)).var
 have hMo : Mod (fun k => k = jo) V7 (V7.setCell ⟨jo,0,none⟩ (u64 o)) := Mod.setCell (Mod.refl (fun k => k = jo) V7) ⟨jo,0,none⟩ _ (.inl rfl)
 have hX7 : Ext w1 V7 := (hX4.trans hV5).trans (hV6.trans hV7)
 have hX8 : Ext w1 (V7.setCell ⟨jo,0,none⟩ (u64 o)) := hX7.setCell _ _ hjs
 generalize (V7.setCell ⟨jo,0,none⟩ (u64 o)) = V8 at *
 have v8 := v0.ext hX8
 have h8 := h1.ext hX8
 have hB8 := hB.ext hX8
 simp [hjv.cell,hB8.cell 3 _ rfl]
 by_cases hov : c.su < o
 ·simp [hov]
  exact hE.trans hX8
 simp [hov]
 refine WC_drawL 11 (.F 0 <| .F 1 <| .F 2 <| .F 3 <| .F 4 <| .F 5 <| .F 6 <| .F 7 <| .F 8 <| .D 10 <| .L 9 <| .W 10 <| .Z) (fun _ => false) (fun _ => false) (fun _ u W => ∃ j, u = ptr j ∧ V8.heap.size ≤ j ∧ Blk W j [u64 0]) rfl (by kernel_rfl) (fun _ h => h)
  (fun _ _ _ _ ⟨j,h1,h2,h3⟩ hA => ⟨j,h1,h2,h3.ext (agr_ext hA)⟩) fun U hU => ?_
 have hUE : Ext V8 U := hU ▸ Ext.drew V8
 have hX9 := hX8.trans hUE
 have h9 := h1.ext hX9
 simp [(v0.ext hX9).cell,h9.blk.cell 1 _ rfl,(hB.ext hX9).cell 0 _ rfl,(hB.ext hX9).cell 1 _ rfl,(hjv.ext hUE).cell]
 refine RL_float (fun W' h' => ?_) ?_
 ·simp
  have hs := (hUE.trans (agr_ext h')).size
  exact ⟨(Ext.refl _).alloc _,hs,Blk.new W' [u64 0] 27⟩
 simp
 refine RL_loose fun U5 hU5 => ?_
 simp
 refine FN.mono (lands_c (h9.tab.ext hU5) hg c.fr c.to' o ho0) ?_
 rintro _ U6 ⟨rfl,hU6⟩
 simp
 refine KR_ext hU6 ?_
 simp
 refine RL_wait fun v11 U7 hU7 ⟨jl,hjl,hjls,hjlb⟩ => ?_
 subst hjl
 obtain ⟨m1,hm1⟩ : ∃ m1,m1 = sps M (c.fr,c.to') := ⟨_,rfl⟩
 have hgi := hg.sps (c.fr,c.to')
 rw [← hm1] at hl hy hgi ⊢
 simp [hjlb.cell 0 _ rfl,hjlb.thaw 0]
 have hjlv := (hjlb.set 0 (u64 (lnd m1 o))).var
 have hU87 : Ext V8 U7 := (hUE.trans hU5).trans (hU6.trans hU7)
 have hX10 : Ext V8 (U7.setCell ⟨jl,0,none⟩ (u64 (lnd m1 o))) := hU87.setCell _ _ hjls
 generalize (U7.setCell ⟨jl,0,none⟩ (u64 (lnd m1 o))) = U8 at *
 refine WC_drawC 8 (.F 0 <| .F 1 <| .F 2 <| .F 3 <| .F 4 <| .F 5 <| .F 6 <| .F 7 <| .Z) (fun _ => false) rfl (by kernel_rfl) fun Y hY => ?_
 have hYE : Ext U8 Y := hY ▸ Ext.drew U8
 have hX11 := (hX8.trans hX10).trans hYE
 have h11 := h1.ext hX11
 simp [(v0.ext hX11).cell,h11.blk.cell 1 _ rfl,(hB.ext hX11).cell 0 _ rfl,(hB.ext hX11).cell 1 _ rfl]
 refine FN.mono (steps_c h11.tab c.fr c.to') ?_
 rintro _ Y2 ⟨b,so,rfl,vv,hmv,hY2,hb,hrr⟩
 rw [← hm1] at hmv
 simp
 have hX12 := hX11.trans hY2
 have hjlY := hjlv.ext (hYE.trans hY2)
 have hjoY := hjv.ext ((hX10.trans hYE).trans hY2)
 have s8 := hX8.size
 have s10 := hX10.size
 have sY := hYE.size
 have sY2 := hY2.size
 have hy0 : ∀ k ∈ ys, 0 ≤ k := fun k hk => by
  have := hy.1.mem_iff.1 hk
  obtain ⟨q,hq,rfl⟩ := List.mem_map.1 this
  exact (hgi q hq).1.1
 have hjllt := hjlv.lt
 have hjolt := hjv.lt
 have hBlt := hB.lt
 have v0lt := v0.lt
 have hjne : jo ≠ jl := by omega
 have hgf : ∀ k, k = g ∨ k = p ∨ Foot t R M k ∨ k = q ∨ k = r → k < w1.heap.size := by
  rintro k (rfl | rfl | hk | rfl | rfl)
  ·exact h1.blk.lt
  ·exact h1.plan.lt
  ·exact h1.tab.lt k hk
  ·exact h1.led.lt.1
  ·exact h1.led.lt.2
 have keep : ∀ W, Mod (fun k => k = jl) Y2 W → Blk W g [ptr p, ptr t, ptr q] ∧ TabAt W t R M ∧ Blk W (w.heap.size + 1) (ctC c) ∧ Var W w.heap.size (ptr g) ∧ Var W jo (u64 o) := fun W hM =>
  ⟨(h1.blk.ext hX12).mod hM (by have := h1.blk.lt; omega),(h1.tab.ext hX12).mod hM (fun k hk e => by have := h1.tab.lt k hk; omega),(hB.ext hX12).mod hM (by omega),(v0.ext hX12).mod hM (by omega),hjoY.mod hM hjne⟩
 refine WC_rangeFunc (gf := 159) (first := #[]) (caps := #[ptr b]) (enc := stC m1) (by simp) (fun _ _ => callFunc_enter Tryz.func159 rfl rfl _ _) (steps_it vv hmv hl hy) (fun x => rfl) (fun k => k = jl)
  (fun C pre W => Var W jl (u64 (sentB m1 o c.su (lnd m1 o) pre)) ∧ (∀ k,C k ↔ k = jl) ∧ Mod (fun k => k = jl) Y2 W) (fun _ _ _ _ => False)
  (fun k hk => ?_) (fun k hk => by omega) ?_ (fun _ _ _ _ _ h _ => h.elim) ⟨by simpa [sentB] using hjlY,fun _ => Iff.rfl,Mod.refl _ _⟩ ?ρ ?ha ?_ ?_ (fun _ _ _ _ _ h _ => h.elim)
 case ha =>
  intro l x W
  simp [stC]
  exact rfl
 ·rcases hk with rfl | hk
  ·exact ⟨vv.lt,by omega⟩
  ·cases hk
   exact ⟨hmv.lt rfl,by have := hrr k rfl; omega⟩
 ·rintro C pre W W' ⟨h1,h5,h6⟩ hag
  exact ⟨h1.agr hag (.inr ((h5 _).2 rfl)),h5,h6.agr_old hag⟩
 ·rintro lp C pre x W hsp ⟨b1,b2,b3⟩ - - -
  obtain ⟨_,suf,hsuf⟩ := hsp
  have hx0 : 0 ≤ x := hy0 x (by rw [hsuf]; simp)
  obtain ⟨kg,kt,kB,kv,ko⟩ := keep W b3
  have hsn := sentB_snoc m1 o c.su pre (lnd m1 o) x
  by_cases hlt : o < x
  ·by_cases hle : x ≤ c.su
   ·rw [if_pos ⟨hlt,hle⟩] at hsn
    simp [ko.cell,kB.cell 3 _ rfl,hlt,hle]
    refine WC_drawC 11 (.F 0 <| .F 1 <| .F 2 <| .F 3 <| .F 4 <| .F 5 <| .F 6 <| .F 7 <| .F 8 <| .F 9 <| .C 10 <| .Z) (fun _ => false) rfl (by kernel_rfl) fun W1 hW1 => ?_
    have hE1 : Ext W W1 := hW1 ▸ Ext.drew W
    have kB1 := kB.ext hE1
    simp [(kv.ext hE1).cell,(b1.ext hE1).cell,(kg.ext hE1).cell 1 _ rfl,(kB1).cell 0 _ rfl,(kB1).cell 1 _ rfl]
    refine FN.mono (lands_c (kt.ext hE1) hg c.fr c.to' x hx0) ?_
    rintro _ W2 ⟨rfl,hE2'⟩
    rw [← hm1]
    have b4 := (b1.ext hE1).ext hE2'
    simp
    refine KR_ext hE2' ?_
    simp [b4.cell,b4.thaw]
    have hMW : Mod (fun k => k = jl) W W2 := (hE1.trans hE2').mod
    refine ⟨C,⟨?_,b2,(b3.trans hMW).setCell _ _ (.inl rfl)⟩,Own.of_mod (((hE1.trans hE2').mod (S := C)).setCell _ _ (.inl ((b2 _).2 rfl)))⟩
    rw [hsn]
    exact b4.set _
   ·rw [if_neg (fun h => hle h.2)] at hsn
    simp [ko.cell,kB.cell 3 _ rfl,hlt,hle]
    exact ⟨C,⟨by rw [hsn]; exact b1,b2,b3⟩,Own.refl _ _⟩
  ·rw [if_neg (fun h => hlt h.1)] at hsn
   simp [ko.cell,hlt]
   exact ⟨C,⟨by rw [hsn]; exact b1,b2,b3⟩,Own.refl _ _⟩
 ·rintro C xs W rfl ⟨b1,b2,b3⟩ hD
  have hfin : Ext w (W.putObj Y2.heap.size (.deferred none)) := by
   have h5 : Ext w W := (((hE.trans hX12).mod (S := fun k => w.heap.size ≤ k)).trans (b3.weaken fun k hk => by omega)).ext fun _ h => h
   have := hE.size
   have := hX12.size
   exact h5.putObj _ _ (by omega)
  simp [b1.cell]
  by_cases hF : 4611686018427387903 ≤ sentB m1 o c.su (lnd m1 o) xs
  ·simp [hF]
   refine LV_mark hD (by simp) ?_
   simp
   exact hfin
  ·simp [hF,b1.cell]
   refine LV_mark hD (by simp) ?_
   simp [hov]
   exact hfin
end Go.Proofs