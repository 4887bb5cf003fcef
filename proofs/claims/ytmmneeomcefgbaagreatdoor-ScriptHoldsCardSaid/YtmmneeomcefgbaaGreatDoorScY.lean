/-
 Contracts of the functions that the law reaches,step by step.
-/
import Derived.Test.YtmmneeomcefgbaaGreatDoorScX
namespace Go.Proofs
open Pk
set_option maxRecDepth 100000
attribute [local simp] beq_dec bne_dec
theorem num_c (x : Int) (w : World) : FN Tryz.prog 12 [i64 x] w fun e w' => e = .returned (i64 x) ∧ w' = w := by
 refine FN_enter Tryz.func12 rfl rfl (by kernel_rfl) ?_
 simp
def newW (w : World) (t : Trn) (vp vk : Value) : World := putC (w.alloc (.cells #[i64 0,u32 0,u32 0,u64 0,.bool false,u8 0,u32 0,u32 0,u32 0,u32 0,u32 0,u32 0,u64 0,u8 0,.slice none 0 0,u32 0,u32 0,u64 0,u64 0,u64 0,u32 0,u32 0,u64 0,u64 0,u32 0,u32 0,u32 0,.bool false,i64 0,u32 0,u32 0,u64 0,u32 0,i64 0,i64 0,u64 0,u64 0,u32 0,u32 0,.bool false,u64 0,u64 0,u8 0,.slice none 0 0] 45)) w.heap.size 0 (trC t vp vk)
theorem newT (w : World) (t : Trn) (vp vk : Value) (h1 : oneV vp = true) (h2 : oneV vk = true) : (storeVar 45 ⟨w.heap.size, 0, none⟩ (trV t vp vk)).run Tryz.prog (w.alloc (.cells #[i64 0, u32 0, u32 0, u64 0, .bool false, u8 0, u32 0, u32 0, u32 0, u32 0, u32 0, u32 0, u64 0, u8 0, .slice none 0 0, u32 0, u32 0, u64 0, u64 0, u64 0, u32 0, u32 0, u64 0, u64 0, u32 0, u32 0, u32 0, .bool false, i64 0, u32 0, u32 0, u64 0, u32 0, i64 0, i64 0, u64 0, u64 0, u32 0, u32 0, .bool false, u64 0, u64 0, u8 0, .slice none 0 0] 45)) = .ok () (newW w t vp vk) ∧ Blk (newW w t vp vk) w.heap.size (trC t vp vk) ∧ Ext w (newW w t vp vk) := by
 have oz : Blk (w.alloc (.cells #[i64 0,u32 0,u32 0,u64 0,.bool false,u8 0,u32 0,u32 0,u32 0,u32 0,u32 0,u32 0,u64 0,u8 0,.slice none 0 0,u32 0,u32 0,u64 0,u64 0,u64 0,u32 0,u32 0,u64 0,u64 0,u32 0,u32 0,u32 0,.bool false,i64 0,u32 0,u32 0,u64 0,u32 0,i64 0,i64 0,u64 0,u64 0,u32 0,u32 0,.bool false,u64 0,u64 0,u8 0,.slice none 0 0] 45)) w.heap.size (trC trn0 nilS nilS) := Blk.new w [i64 0,u32 0,u32 0,u64 0,.bool false,u8 0,u32 0,u32 0,u32 0,u32 0,u32 0,u32 0,u64 0,u8 0,.slice none 0 0,u32 0,u32 0,u64 0,u64 0,u64 0,u32 0,u32 0,u64 0,u64 0,u32 0,u32 0,u32 0,.bool false,i64 0,u32 0,u32 0,u64 0,u32 0,i64 0,i64 0,u64 0,u64 0,u32 0,u32 0,.bool false,u64 0,u64 0,u8 0,.slice none 0 0] 45
 have Ez : Ext w (w.alloc (.cells #[i64 0,u32 0,u32 0,u64 0,.bool false,u8 0,u32 0,u32 0,u32 0,u32 0,u32 0,u32 0,u64 0,u8 0,.slice none 0 0,u32 0,u32 0,u64 0,u64 0,u64 0,u32 0,u32 0,u64 0,u64 0,u32 0,u32 0,u32 0,.bool false,i64 0,u32 0,u32 0,u64 0,u32 0,i64 0,i64 0,u64 0,u64 0,u32 0,u32 0,.bool false,u64 0,u64 0,u8 0,.slice none 0 0] 45)) := (Ext.refl _).alloc _
 refine ⟨sv_turn oz t vp vk h1 h2,Blk.put oz rfl,?_⟩
 exact ((Ez.mod (S := fun k => w.heap.size ≤ k)).trans (putC_mod (b := w.heap.size) _ _ (Mod.refl _ _) |>.weaken fun k hk => by omega)).ext fun _ h => h
theorem hrdT (s : Tx) (h : (wds s).head? ≠ some tellT) : ∀ f1 f2 s0 l,wds s = s0 :: l → LookOk rdW f1 f2 s0 := fun f1 f2 s0 l e => rdW_look f1 f2 s0 fun he => h (by rw [e,he]; rfl)
theorem run_loadFrom {P : Program} {w : World} {b o : Nat} : ∀ (ds : List Value) (i : Nat) (acc : Array Value), (∀ j u, ds[j]? = some u → w.cell? ⟨b, o + (i + j), none⟩ = some u) → (loadCellsFrom ⟨b, o, none⟩ i ds.length acc).run P w = .ok (acc ++ ds.toArray) w
 | [],i,acc,_ => by simp [loadCellsFrom]
 | u :: ds, i, acc, h => by
  have h2 : (load ⟨b, o + i, none⟩).run P w = .ok u w := by
   have := h 0 u rfl
   simp [load,Sem.run] at this ⊢
   simp [this]
  rw [List.length_cons, loadCellsFrom, add_mk, Sem.run_bind, h2, Result.andThen_ok, run_loadFrom ds (i + 1) _ (fun j v hj => by
   have := h (j + 1) v (by simpa using hj)
   rw [show i + 1 + j = i + (j + 1) by omega]; exact this)]
  simp
theorem lv_at {w : World} {b o : Nat} {t : Trn} {vp vk : Value} (h : ∀ j u, (trC t vp vk)[j]? = some u → w.cell? ⟨b, o + j, none⟩ = some u) : (loadVar 45 ⟨b, o, none⟩).run Tryz.prog w = .ok (trV t vp vk) w := by
 have h2 : (loadCells ⟨b, o, none⟩ 44).run Tryz.prog w = .ok (trC t vp vk).toArray w := by
  have := run_loadFrom (P := Tryz.prog) (w := w) (b := b) (o := o) (trC t vp vk) 0 #[] (fun j u hj => by rw [Nat.zero_add]; exact h j u hj)
  rw [show (trC t vp vk).length = 44 from rfl] at this
  rw [loadCells,this]
  simp only [Array.empty_append]
 show _ = Result.ok (Value.agg (trC t vp vk).toArray) w
 generalize (trC t vp vk).toArray = A at *
 simp only [loadVar]
 simp [-loadCells,-loadCellsFrom,h2]
set_option maxHeartbeats 16000000 in
theorem works_c {w : World} (hG : Gl w) (h8 : 8 ≤ w.heap.size) : FN Tryz.prog 9 [] w fun e w' => e = .returned (.bool true) ∧ Ext w w' := by
 refine FN_enter Tryz.func9 rfl rfl (by kernel_rfl) ?_
 simp [-loadVar,-storeVar]
 refine FN.mono (turn_c rdW lSv (by decide) (hG) (by omega) (hrdT lSv (by decide +kernel))) ?_
 rintro e1 u1 ⟨F1,p1⟩
 rw [tp_sv] at p1
 obtain ⟨vp1,vk1,rfl,sp1,gp1,sk1,gk1⟩ := p1
 have op1 : oneV vp1 = true := by obtain ⟨_,_,rfl⟩ := sp1.isSlice; rfl
 have ok1 : oneV vk1 = true := by obtain ⟨_,_,rfl⟩ := sk1.isSlice; rfl
 have N1 := newT u1 sv1 vp1 vk1 op1 ok1
 obtain ⟨q1,hq1⟩ : ∃ q,u1.heap.size = q := ⟨_,rfl⟩
 have zq1 := F1.size
 rw [hq1] at N1 zq1
 generalize newW u1 sv1 vp1 vk1 = w1 at N1
 have z1 := F1.size
 have zb1 := N1.2.2.size
 have bl1 := N1.2.1
 have EE1 := ((Ext.refl w).trans F1).trans N1.2.2
 have hlt1 := bl1.lt
 have tp1 := sp1.ext N1.2.2
 have tk1 := sk1.ext N1.2.2
 simp [-loadVar,-storeVar,hq1,N1.1]
 refine FN.mono (turn_c rdW lSv2 (by decide) (hG.ext EE1) (by omega) (hrdT lSv2 (by decide +kernel))) ?_
 rintro e2 u2 ⟨F2,p2⟩
 rw [tp_sv2] at p2
 obtain rfl : e2 = _ := p2
 have N2 := newT u2 trn0 nilS nilS rfl rfl
 obtain ⟨q2,hq2⟩ : ∃ q,u2.heap.size = q := ⟨_,rfl⟩
 have zq2 := F2.size
 rw [hq2] at N2 zq2
 generalize newW u2 trn0 nilS nilS = w2 at N2
 have z2 := F2.size
 have zb2 := N2.2.2.size
 have bl2 := N2.2.1
 have EE2 := (EE1.trans F2).trans N2.2.2
 have hlt2 := bl2.lt
 simp [-loadVar,-storeVar,hq2,N2.1]
 refine FN.mono (turn_c rdW lSv3 (by decide) (hG.ext EE2) (by omega) (hrdT lSv3 (by decide +kernel))) ?_
 rintro e3 u3 ⟨F3,p3⟩
 rw [tp_sv3] at p3
 obtain rfl : e3 = _ := p3
 have N3 := newT u3 trn0 nilS nilS rfl rfl
 obtain ⟨q3,hq3⟩ : ∃ q,u3.heap.size = q := ⟨_,rfl⟩
 have zq3 := F3.size
 rw [hq3] at N3 zq3
 generalize newW u3 trn0 nilS nilS = w3 at N3
 have z3 := F3.size
 have zb3 := N3.2.2.size
 have bl3 := N3.2.1
 have EE3 := (EE2.trans F3).trans N3.2.2
 have hlt3 := bl3.lt
 simp [-loadVar,-storeVar,hq3,N3.1]
 have E4a : Ext w3 (w3.alloc (.cells #[.bool true,.bool false] 4)) := (Ext.refl _).alloc _
 have k4 : SlB (w3.alloc (.cells #[.bool true,.bool false] 4)) 1 (.slice (some ⟨w3.heap.size,0,none⟩) 2 2) cr1.keep.length (cr1.keep.map Value.bool) := (Sl.made w3 [.bool true,.bool false] 4 1 2 rfl).toB
 have EE4a := EE3.trans E4a
 have z4a := E4a.size
 generalize (w3.alloc (.cells #[.bool true,.bool false] 4)) = w3a at *
 refine FN.mono (line_c rdW (fun _ => none) (t := cr1) (vp := nilS) (vk := (.slice (some ⟨w3.heap.size,0,none⟩) 2 2)) (turnP_ok rdW_ok _ _ tp_cr) (SlB.nil _ _ _) k4 (by decide) (by decide) (hG.ext EE4a) (by omega) (fun h => absurd h (by decide)) (fun l h => by cases h) (fun f1 f2 s0 h => rdW_look f1 f2 s0 (fun e => absurd (h e) (by decide))) (turnP_ok rdW_ok)) ?_
 rintro e4 w4 ⟨F4,p4⟩
 rw [lp_cr] at p4
 obtain rfl : e4 = _ := p4
 have z4 := F4.size
 have EE4 := EE4a.trans F4
 simp [-loadVar,-storeVar]
 refine FN.mono (turn_c rdW lSd (by decide) (hG.ext EE4) (by omega) (hrdT lSd (by decide +kernel))) ?_
 rintro e5 u5 ⟨F5,p5⟩
 rw [tp_sd] at p5
 obtain ⟨vp5,vk5,rfl,sp5,gp5,sk5,gk5⟩ := p5
 have op5 : oneV vp5 = true := by obtain ⟨_,_,rfl⟩ := sp5.isSlice; rfl
 have ok5 : oneV vk5 = true := by obtain ⟨_,_,rfl⟩ := sk5.isSlice; rfl
 have N5 := newT u5 sd1 vp5 vk5 op5 ok5
 obtain ⟨q5,hq5⟩ : ∃ q,u5.heap.size = q := ⟨_,rfl⟩
 have zq5 := F5.size
 rw [hq5] at N5 zq5
 generalize newW u5 sd1 vp5 vk5 = w5 at N5
 have z5 := F5.size
 have zb5 := N5.2.2.size
 have bl5 := N5.2.1
 have EE5 := (EE4.trans F5).trans N5.2.2
 have hlt5 := bl5.lt
 have tp5 := sp5.ext N5.2.2
 have tk5 := sk5.ext N5.2.2
 simp [-loadVar,-storeVar,hq5,N5.1]
 simp [-loadVar,-storeVar,lv_turn bl5]
 refine FN.mono (line_c rdW (fun _ => none) (t := sd1) (vp := vp5) (vk := vk5) (turnP_ok rdW_ok _ _ tp_sd) tp5.toB tk5.toB (by decide) (by decide) (hG.ext EE5) (by omega) (fun h => absurd h (by decide)) (fun l h => by cases h) (fun f1 f2 s0 h => rdW_look f1 f2 s0 (fun e => absurd (h e) (by decide))) (turnP_ok rdW_ok)) ?_
 rintro e6 w6 ⟨F6,p6⟩
 rw [lp_sd] at p6
 obtain rfl : e6 = _ := p6
 have z6 := F6.size
 have EE6 := EE5.trans F6
 have g7 : Blk (w6.alloc (.cells #[u8 6,u8 9,u8 0,u8 0,u8 0,u8 0,u8 7,u8 1,u8 5,u8 0,u8 0,u8 0] 5)) w6.heap.size (b12.map encB) := Blk.new w6 (b12.map encB) 5
 have E7 : Ext w6 (w6.alloc (.cells #[u8 6,u8 9,u8 0,u8 0,u8 0,u8 0,u8 7,u8 1,u8 5,u8 0,u8 0,u8 0] 5)) := (Ext.refl _).alloc _
 have EE7 := EE6.trans E7
 have z7 := E7.size
 simp [-loadVar,-storeVar]
 generalize (w6.alloc (.cells #[u8 6,u8 9,u8 0,u8 0,u8 0,u8 0,u8 7,u8 1,u8 5,u8 0,u8 0,u8 0] 5)) = w7 at *
 refine FN.mono (turns_c g7) ?_
 rintro _ w8 ⟨v8,rfl,vk8,s8,gv8,sk8,gk8,F8⟩
 have EE8 := EE7.trans F8
 have z8 := F8.size
 obtain ⟨bk,oo,c8,rfl,hc8⟩ := s8.val.resolve_left (by rintro ⟨c,h,h0⟩; omega)
 have ln8 := fun ty W => s8.isLen (P := Tryz.prog) (t := 69) (by simp) ty W
 have ix0 := fun W => s8.index (P := Tryz.prog) (t := 69) (by simp) .i64 0 (by omega) (by omega) W
 have ix1 := fun W => s8.index (P := Tryz.prog) (t := 69) (by simp) .i64 1 (by omega) (by omega) W
 have lv0 : ∀ W, Ext w8 W → (loadVar 45 ⟨bk, oo, none⟩).run Tryz.prog W = .ok (trV tick9 nilS nilS) W := fun W hE => lv_at fun j u hj => by
  have := (s8.ext hE).at_ j u (by rw [List.getElem?_append_left (by have := (List.getElem?_eq_some_iff.1 hj).1; exact this)]; exact hj)
  exact this
 have lv1 : ∀ W, Ext w8 W → (loadVar 45 ⟨bk, oo + 44, none⟩).run Tryz.prog W = .ok (trV crash2 nilS vk8) W := fun W hE => lv_at fun j u hj => by
  have := (s8.ext hE).at_ (44 + j) u (by rw [List.getElem?_append_right (by show (trC tick9 nilS nilS).length ≤ _; simp)]; show (trC crash2 nilS vk8)[44 + j - 44]? = _; rw [Nat.add_sub_cancel_left]; exact hj)
  rw [← Nat.add_assoc] at this
  exact this
 simp [-loadVar,-storeVar,ln8,ix0,slB,slO,lv0 w8 (Ext.refl _)]
 refine FN.mono (line_c rdW (fun _ => none) (t := tick9) (vp := nilS) (vk := nilS) (turnP_ok rdW_ok _ _ tp_ti) (SlB.nil _ _ _) (SlB.nil _ _ _) (by decide) (by decide) (hG.ext EE8) (by omega) (fun h => absurd h (by decide)) (fun l h => by cases h) (fun f1 f2 s0 h => rdW_look f1 f2 s0 (fun e => absurd (h e) (by decide))) (turnP_ok rdW_ok)) ?_
 rintro e9 w9 ⟨F9,p9⟩
 rw [lp_ti] at p9
 obtain rfl : e9 = _ := p9
 have z9 := F9.size
 have EE9 := EE8.trans F9
 simp [-loadVar,-storeVar,ix1,slB,slO,lv1 w9 F9]
 refine FN.mono (line_c rdW (fun _ => none) (t := crash2) (vp := nilS) (vk := vk8) (turnP_ok rdW_ok _ _ tp_cr2) (SlB.nil _ _ _) (sk8.ext F9).toB (by decide) (by decide) (hG.ext EE9) (by omega) (fun h => absurd h (by decide)) (fun l h => by cases h) (fun f1 f2 s0 h => rdW_look f1 f2 s0 (fun e => absurd (h e) (by decide))) (turnP_ok rdW_ok)) ?_
 rintro e10 w10 ⟨F10,p10⟩
 rw [lp_cr2] at p10
 obtain rfl : e10 = _ := p10
 have z10 := F10.size
 have EE10 := EE9.trans F10
 have D2 := F2.trans N2.2.2
 have D3 := F3.trans N3.2.2
 have D5 := F5.trans N5.2.2
 have E5A := F6.trans (E7.trans (F8.trans (F9.trans F10)))
 have E1A := D2.trans (D3.trans (E4a.trans (F4.trans (D5.trans E5A))))
 have x1 := bl1.ext E1A
 have x5 := bl5.ext E5A
 have cv5 := conv_t (tp5.ext E5A).toB 9 (by simp)
 simp [-loadVar,-storeVar]
 refine FN.mono (num_c 0 w10) ?_
 rintro _ wx ⟨rfl,hx⟩
 rw [hx]
 clear hx wx
 simp
 refine FN.mono (num_c 0 w10) ?_
 rintro _ wx ⟨rfl,hx⟩
 rw [hx]
 clear hx wx
 simp
 refine FN.mono (num_c 0 w10) ?_
 rintro _ wx ⟨rfl,hx⟩
 rw [hx]
 clear hx wx
 simp
 refine FN.mono (num_c 0 w10) ?_
 rintro _ wx ⟨rfl,hx⟩
 rw [hx]
 clear hx wx
 simp
 refine FN.mono (num_c 0 w10) ?_
 rintro _ wx ⟨rfl,hx⟩
 rw [hx]
 clear hx wx
 simp
 refine FN.mono (num_c 0 w10) ?_
 rintro _ wx ⟨rfl,hx⟩
 rw [hx]
 clear hx wx
 have w00 : IntKind.i64.wrap 0 = 0 := rfl
 simp [w00,x1.cell 0 _ rfl,x1.cell 2 _ rfl]
 refine FN.mono (num_c 370 w10) ?_
 rintro _ wx ⟨rfl,hx⟩
 rw [hx]
 clear hx wx
 simp
 refine FN.mono (num_c 370 w10) ?_
 rintro _ wx ⟨rfl,hx⟩
 rw [hx]
 clear hx wx
 simp [x5.cell 14 _ rfl,cv5]
 exact EE10
end Go.Proofs