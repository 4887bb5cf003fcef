/-
 Contracts of the functions that the law reaches,step by step.
-/
import Derived.Test.YtmmneeomcefgbaaGreatDoorScU
namespace Go.Proofs
open Pk
set_option maxRecDepth 100000
attribute [local simp] beq_dec bne_dec
abbrev b12 : List UInt8 := [6,9,0,0,0,0,7,1,5,0,0,0]
theorem arr_at (a : Addr) (W : World) : (Instr.arrayAt 118 (.slice (some a) 6 6)).run Tryz.prog W = .ok (.pointer (some a)) W := by simp [Instr.arrayAt]
theorem bit8 : ∀ n : Fin 8,decide (andI .u8 (shrI .u8 5 (n.val : Int)) 1 = 1) = k8[n.val] := by decide +kernel
def TsJ (N o g : Nat) (w2 : World) (C : Nat → Prop) (pre : List Nat) (W : World) : Prop :=
 Blk W g (b12.map encB) ∧ C o ∧ (∀ k,C k → k = o ∨ N ≤ k) ∧ Mod (fun k => k = o) w2 W ∧
 ((pre = [] ∧ Var W o nilS) ∨ (pre = [0] ∧ ∃ v, Var W o v ∧ W.ownsRow N 45 44 v 1 (trC tick9 nilS nilS) ∧ C (slB v)) ∨
  (pre = [0,1] ∧ ∃ v vk,Var W o v ∧ W.ownsRow N 45 44 v 2 (trC tick9 nilS nilS ++ trC crash2 nilS vk) ∧ C (slB v) ∧ W.ownsRow N 4 1 vk 8 (k8.map Value.bool) ∧ C (slB vk)))
theorem TsJ.agr {N o g : Nat} {w2 : World} {C : Nat → Prop} {pre : List Nat} {W W' : World} (h : TsJ N o g w2 C pre W) (hA : Agr (fun k => k < N ∨ C k) W W') (hg : g < N) (hw : w2.heap.size = N) : TsJ N o g w2 C pre W' := by
 obtain ⟨h1,h2,h3,h4,h5⟩ := h
 have own : ∀ {e s : Nat} {v : Value} {n : Nat} {xs : List Value},W.ownsRow N e s v n xs → C (slB v) → W'.ownsRow N e s v n xs := fun h hc => own_keep h fun _ hl => hA.blk _ hl (.inr hc)
 refine ⟨h1.agr hA (.inl hg),h2,h3,h4.agr_old (C := C) (by rw [hw]; exact hA),?_⟩
 rcases h5 with ⟨rfl, hv⟩ | ⟨rfl, v, hv, ho, hc⟩ | ⟨rfl, v, vk, hv, ho, hc, hk, hck⟩
 ·exact .inl ⟨rfl,hv.agr hA (.inr h2)⟩
 ·exact .inr (.inl ⟨rfl,v,hv.agr hA (.inr h2),own ho hc,hc⟩)
 ·exact .inr (.inr ⟨rfl,v,vk,hv.agr hA (.inr h2),own ho hc,hc,own hk hck,hck⟩)
def TurnsR (w w' : World) (v : Value) : Prop := ∃ vk,Sl w' 44 v 2 (trC tick9 nilS nilS ++ trC crash2 nilS vk) ∧ w.heap.size ≤ slB v ∧ Sl w' 1 vk 8 (k8.map Value.bool) ∧ w.heap.size ≤ slB vk ∧ Ext w w'
set_option maxHeartbeats 8000000 in
theorem turns_c {w : World} {g : Nat} (hg : Blk w g (b12.map encB)) : FN Tryz.prog 20 [rowV g] w fun e w' => ∃ v, e = .returned v ∧ TurnsR w w' v := by
 refine FN_enter Tryz.func20 rfl rfl (by kernel_rfl) ?_
 have hE1 : Ext w (w.alloc (.cells #[nilS] 69)) := (Ext.refl w).alloc _
 have v1 : Var (w.alloc (.cells #[nilS] 69)) w.heap.size nilS := Var.new w _ _
 simp
 obtain ⟨o,ho⟩ : ∃ o,w.heap.size = o := ⟨_,rfl⟩
 rw [ho] at v1 ⊢
 generalize (w.alloc (.cells #[nilS] 69)) = w1 at *
 refine FN.mono (chunk_c) ?_
 rintro _ w2 ⟨c1,c2,rfl,vc1,vc2,g1,g2,E2⟩
 simp
 have v2 := v1.ext E2
 have hg2 := (hg.ext hE1).ext E2
 have hlo := v1.lt
 have hgo := hg.lt
 have z2 := E2.size
 refine WC_rangeFuncA (gf := 107) (first := #[]) (caps := #[ptr c1, ptr c2]) (enc := fun i : Nat => [partOf g i]) (by simp) (fun _ _ => callFunc_enter Tryz.func107 rfl rfl _ _) (chunk_it vc1 vc2) (fun x => rfl) (fun k => k = o)
  (TsJ w2.heap.size o g w2) (fun _ _ _ _ => False)
  (fun k hk => ⟨by rcases hk with rfl | rfl; exact vc1.lt; exact vc2.lt,by rcases hk with rfl | rfl <;> omega⟩) (fun k hk => by omega) (fun C pre W W' h hA => h.agr hA (by omega) rfl) (fun _ _ _ _ _ h => h.elim) ⟨hg2,rfl,fun k h => .inl h,Mod.refl _ _,.inl ⟨rfl,v2⟩⟩ (fun x _ ρ' _ => ρ' 3 = partOf g x ∧ ρ' 2 = ptr o) (fun _ _ _ _ _ h _ => h) ?_ ?_ ?_ (fun _ _ _ _ _ h => h.elim)
 ·intro l x W
  simp
  exact Ext.refl _
 ·rintro l C pre x B ρ W hsp hJ hl1 hl2 hCl hBW ⟨e3,e2⟩
  obtain ⟨hgW,hCo,hCk,hMW,hJ⟩ := hJ
  have hpx : (pre = [] ∧ x = 0) ∨ (pre = [0] ∧ x = 1) := by
   rcases hsp with h | h
   ·have : pre.length = 0 := by have := congrArg List.length h; simpa using this
    have hp := List.eq_nil_of_length_eq_zero this
    subst hp
    simp at h
    exact .inl ⟨rfl,h⟩
   ·have h2 : pre ++ [x] = [0] ++ [1] := h
    obtain ⟨h3,h4⟩ := List.append_inj' h2 rfl
    simp at h4
    exact .inr ⟨h3,h4⟩
  rcases hpx with ⟨rfl, rfl⟩ | ⟨rfl, rfl⟩
  ·rcases hJ with ⟨-,hv⟩ | ⟨h,-⟩ | ⟨h,-⟩
   case inr.inl => cases h
   case inr.inr => cases h
   simp [e3,arr_at,hgW.cell 0 _ rfl,hgW.cell 1 _ rfl,hgW.cell 2 _ rfl,hgW.cell 3 _ rfl,hgW.cell 4 _ rfl,hgW.cell 5 _ rfl]
   have E1 : Ext W (W.alloc (.cells #[u8 6,u8 9,u8 0,u8 0,u8 0,u8 0] 118)) := (Ext.refl _).alloc _
   have a1 : Blk (W.alloc (.cells #[u8 6,u8 9,u8 0,u8 0,u8 0,u8 0] 118)) W.heap.size [u8 6,u8 9,u8 0,u8 0,u8 0,u8 0] := Blk.new W _ _
   obtain ⟨q,hq⟩ : ∃ q,W.heap.size = q := ⟨_,rfl⟩
   rw [hq] at a1 ⊢
   generalize (W.alloc (.cells #[u8 6,u8 9,u8 0,u8 0,u8 0,u8 0] 118)) = W1 at *
   refine WC_drawC 11 (.F 0 <| .F 1 <| .F 2 <| .F 3 <| .F 4 <| .F 5 <| .F 6 <| .F 7 <| .F 8 <| .F 9 <| .F 10 <| .Z) (fun _ => false) rfl (by kernel_rfl) fun W2 hW2 => ?_
   have E2' : Ext W1 W2 := hW2 ▸ Ext.drew _
   have a2 := a1.ext E2'
   have oz : Blk (W2.alloc (.cells #[i64 0,u32 0,u32 0,u64 0,.bool false,u8 0,u32 0,u32 0,u32 0,u32 0,u32 0,u32 0,u64 0,u8 0,.slice none 0 0,u32 0,u32 0,u64 0,u64 0,u64 0,u32 0,u32 0,u64 0,u64 0,u32 0,u32 0,u32 0,.bool false,i64 0,u32 0,u32 0,u64 0,u32 0,i64 0,i64 0,u64 0,u64 0,u32 0,u32 0,.bool false,u64 0,u64 0,u8 0,.slice none 0 0] 45)) W2.heap.size (trC trn0 nilS nilS) := Blk.new W2 [i64 0,u32 0,u32 0,u64 0,.bool false,u8 0,u32 0,u32 0,u32 0,u32 0,u32 0,u32 0,u64 0,u8 0,.slice none 0 0,u32 0,u32 0,u64 0,u64 0,u64 0,u32 0,u32 0,u64 0,u64 0,u32 0,u32 0,u32 0,.bool false,i64 0,u32 0,u32 0,u64 0,u32 0,i64 0,i64 0,u64 0,u64 0,u32 0,u32 0,.bool false,u64 0,u64 0,u8 0,.slice none 0 0] 45
   have Ez : Ext W2 (W2.alloc (.cells #[i64 0,u32 0,u32 0,u64 0,.bool false,u8 0,u32 0,u32 0,u32 0,u32 0,u32 0,u32 0,u64 0,u8 0,.slice none 0 0,u32 0,u32 0,u64 0,u64 0,u64 0,u32 0,u32 0,u64 0,u64 0,u32 0,u32 0,u32 0,.bool false,i64 0,u32 0,u32 0,u64 0,u32 0,i64 0,i64 0,u64 0,u64 0,u32 0,u32 0,.bool false,u64 0,u64 0,u8 0,.slice none 0 0] 45)) := (Ext.refl _).alloc _
   have st0 := sv_turn oz trn0 nilS nilS rfl rfl
   change (storeVar 45 ⟨_,0,none⟩ (.agg #[i64 0,u32 0,u32 0,u64 0,.bool false,u8 0,u32 0,u32 0,u32 0,u32 0,u32 0,u32 0,u64 0,u8 0,.slice none 0 0,u32 0,u32 0,u64 0,u64 0,u64 0,u32 0,u32 0,u64 0,u64 0,u32 0,u32 0,u32 0,.bool false,i64 0,u32 0,u32 0,u64 0,u32 0,i64 0,i64 0,u64 0,u64 0,u32 0,u32 0,.bool false,u64 0,u64 0,u8 0,.slice none 0 0])).run _ _ = _ at st0
   simp [-loadVar,-storeVar,lvS,a2.cell 1 _ rfl,a2.cell 2 _ rfl]
   have a3 := a2.ext Ez
   have ha2 := a2.lt
   obtain ⟨d,hd⟩ : ∃ d,W2.heap.size = d := ⟨_,rfl⟩
   rw [hd] at oz st0 ⊢
   generalize (W2.alloc (.cells #[i64 0,u32 0,u32 0,u64 0,.bool false,u8 0,u32 0,u32 0,u32 0,u32 0,u32 0,u32 0,u64 0,u8 0,.slice none 0 0,u32 0,u32 0,u64 0,u64 0,u64 0,u32 0,u32 0,u64 0,u64 0,u32 0,u32 0,u32 0,.bool false,i64 0,u32 0,u32 0,u64 0,u32 0,i64 0,i64 0,u64 0,u64 0,u32 0,u32 0,.bool false,u64 0,u64 0,u8 0,.slice none 0 0] 45)) = W3 at *
   have o4 : Blk (putC W3 d 0 (trC trn0 nilS nilS)) d (trC trn0 nilS nilS) := Blk.put oz rfl
   have S4 : Mod (fun k => k = d) W3 (putC W3 d 0 (trC trn0 nilS nilS)) := putC_mod _ _ (Mod.refl _ _)
   have a4 := a3.mod S4 (by omega)
   simp [-loadVar,-storeVar,lvS,st0]
   generalize (putC W3 d 0 (trC trn0 nilS nilS)) = W4 at *
   have w9 : IntKind.u64.wrap 9 = 9 := rfl
   have st1 := sv_turn o4 tick9 nilS nilS rfl rfl
   change (storeVar 45 ⟨_,0,none⟩ (.agg #[i64 12,u32 0,u32 0,u64 9,.bool false,u8 0,u32 0,u32 0,u32 0,u32 0,u32 0,u32 0,u64 0,u8 0,.slice none 0 0,u32 0,u32 0,u64 0,u64 0,u64 0,u32 0,u32 0,u64 0,u64 0,u32 0,u32 0,u32 0,.bool false,i64 0,u32 0,u32 0,u64 0,u32 0,i64 0,i64 0,u64 0,u64 0,u32 0,u32 0,.bool false,u64 0,u64 0,u8 0,.slice none 0 0])).run _ _ = _ at st1
   have o5 : Blk (putC W4 d 0 (trC tick9 nilS nilS)) d (trC tick9 nilS nilS) := Blk.put o4 rfl
   have S5 : Mod (fun k => k = d) W4 (putC W4 d 0 (trC tick9 nilS nilS)) := putC_mod _ _ (Mod.refl _ _)
   simp [-loadVar,-storeVar,lvS,a4.cell 0 _ rfl,a4.cell 1 _ rfl,w9,st1]
   have M05 : Mod (fun k => W.heap.size ≤ k) W (putC W4 d 0 (trC tick9 nilS nilS)) := ((((E1.trans E2').trans Ez).mod).trans (S4.weaken fun k hk => by have := E1.size; have := E2'.size; omega)).trans (S5.weaken fun k hk => by have := E1.size; have := E2'.size; omega)
   generalize (putC W4 d 0 (trC tick9 nilS nilS)) = W5 at *
   have E05 := M05.ext fun _ h => h
   have hv2 := hv.ext E05
   simp [-loadVar,-storeVar,e2,hv2.cell,lv_turn o5]
   generalize hW3 : (W5.alloc (Obj.cells _ 45)) = W6
   have E3 : Ext W5 W6 := hW3 ▸ (Ext.refl _).alloc _
   have sl3 : Sl W6 44 (.slice (some ⟨W5.heap.size, 0, none⟩) 1 1) 1 (trC tick9 nilS nilS) := by
    rw [← hW3]
    exact Sl.made W5 (trC tick9 nilS nilS) 45 44 1 rfl
   have E03 := E05.trans E3
   have z3 := E03.size
   have hWw := hMW.size
   obtain ⟨v',W7,hr,ho7,hM7,hfr⟩ := append_own (P := Tryz.prog) (t := 69) (ty := 69) (e := 45) (s := 44) (by simp) (by simp) (by kernel_rfl) (own_nothing W6 w2.heap.size 45 44) sl3 (by decide) (by omega) (by omega)
   obtain ⟨va,vc,hve0⟩ := own_val ho7
   have hve : v' = .slice va 1 vc := hve0
   clear hve0
   have hn7 := own_nil ho7 (by omega)
   have hs7 := own_lt ho7 hn7
   have hb7 : W6.heap.size ≤ slB v' := by
    rcases hfr hn7 with ⟨h, -⟩ | h
    ·cases h
    ·exact h
   have hv7 : Var W7 o nilS := (hv2.ext E3).mod hM7 (fun h => by cases h.1)
   have M37 : Mod (fun k => k = o) W W7 := E03.mod.trans (hM7.weaken fun k hk => by cases hk.1)
   simp [-loadVar,-storeVar,svS,hr,e2]
   subst hve
   simp [hv7.cell,hv7.thaw]
   have S8 : Mod (fun k => k = o) W7 (W7.setCell ⟨o,0,none⟩ (.slice va 1 vc)) := (Mod.refl _ _).setC _ _
   have M8 := M37.trans S8
   have hob : slB (.slice va 1 vc) ≠ o := by have := hv.lt; omega
   refine ⟨fun k => C k ∨ k = slB (.slice va 1 vc), ⟨hgW.mod M8 (by omega), .inl hCo, ?_, hMW.trans M8, .inr (.inl ⟨rfl, _, hv7.set _, own_keep ho7 (fun _ hl => S8.blk _ hl hob), .inr rfl⟩)⟩, ?_⟩
   ·rintro k (hk | rfl)
    ·exact hCk k hk
    ·exact .inr (by omega)
   ·refine ⟨M8.weaken fun k hk => by rw [hk]; exact hCo, ?_, ?_⟩
    ·rintro k (hk | rfl)
     ·exact .inl hk
     ·exact .inr (by omega)
    ·rintro k (hk | rfl)
     ·exact .inl hk
     ·exact .inr (by have := S8.size; omega)
  ·rcases hJ with ⟨h,-⟩ | ⟨-,v,hv,how,hcv⟩ | ⟨h,-⟩
   case inl => cases h
   case inr.inr => cases h
   simp [e3,arr_at,hgW.cell 6 _ rfl,hgW.cell 7 _ rfl,hgW.cell 8 _ rfl,hgW.cell 9 _ rfl,hgW.cell 10 _ rfl,hgW.cell 11 _ rfl]
   have E1 : Ext W (W.alloc (.cells #[u8 7,u8 1,u8 5,u8 0,u8 0,u8 0] 118)) := (Ext.refl _).alloc _
   have a1 : Blk (W.alloc (.cells #[u8 7,u8 1,u8 5,u8 0,u8 0,u8 0] 118)) W.heap.size [u8 7,u8 1,u8 5,u8 0,u8 0,u8 0] := Blk.new W _ _
   obtain ⟨q,hq⟩ : ∃ q,W.heap.size = q := ⟨_,rfl⟩
   rw [hq] at a1 ⊢
   generalize (W.alloc (.cells #[u8 7,u8 1,u8 5,u8 0,u8 0,u8 0] 118)) = W1 at *
   refine WC_drawC 11 (.F 0 <| .F 1 <| .F 2 <| .F 3 <| .F 4 <| .F 5 <| .F 6 <| .F 7 <| .F 8 <| .F 9 <| .F 10 <| .Z) (fun _ => false) rfl (by kernel_rfl) fun W2 hW2 => ?_
   have E2' : Ext W1 W2 := hW2 ▸ Ext.drew _
   have a2 := a1.ext E2'
   have oz : Blk (W2.alloc (.cells #[i64 0,u32 0,u32 0,u64 0,.bool false,u8 0,u32 0,u32 0,u32 0,u32 0,u32 0,u32 0,u64 0,u8 0,.slice none 0 0,u32 0,u32 0,u64 0,u64 0,u64 0,u32 0,u32 0,u64 0,u64 0,u32 0,u32 0,u32 0,.bool false,i64 0,u32 0,u32 0,u64 0,u32 0,i64 0,i64 0,u64 0,u64 0,u32 0,u32 0,.bool false,u64 0,u64 0,u8 0,.slice none 0 0] 45)) W2.heap.size (trC trn0 nilS nilS) := Blk.new W2 [i64 0,u32 0,u32 0,u64 0,.bool false,u8 0,u32 0,u32 0,u32 0,u32 0,u32 0,u32 0,u64 0,u8 0,.slice none 0 0,u32 0,u32 0,u64 0,u64 0,u64 0,u32 0,u32 0,u64 0,u64 0,u32 0,u32 0,u32 0,.bool false,i64 0,u32 0,u32 0,u64 0,u32 0,i64 0,i64 0,u64 0,u64 0,u32 0,u32 0,.bool false,u64 0,u64 0,u8 0,.slice none 0 0] 45
   have Ez : Ext W2 (W2.alloc (.cells #[i64 0,u32 0,u32 0,u64 0,.bool false,u8 0,u32 0,u32 0,u32 0,u32 0,u32 0,u32 0,u64 0,u8 0,.slice none 0 0,u32 0,u32 0,u64 0,u64 0,u64 0,u32 0,u32 0,u64 0,u64 0,u32 0,u32 0,u32 0,.bool false,i64 0,u32 0,u32 0,u64 0,u32 0,i64 0,i64 0,u64 0,u64 0,u32 0,u32 0,.bool false,u64 0,u64 0,u8 0,.slice none 0 0] 45)) := (Ext.refl _).alloc _
   have st0 := sv_turn oz trn0 nilS nilS rfl rfl
   change (storeVar 45 ⟨_,0,none⟩ (.agg #[i64 0,u32 0,u32 0,u64 0,.bool false,u8 0,u32 0,u32 0,u32 0,u32 0,u32 0,u32 0,u64 0,u8 0,.slice none 0 0,u32 0,u32 0,u64 0,u64 0,u64 0,u32 0,u32 0,u64 0,u64 0,u32 0,u32 0,u32 0,.bool false,i64 0,u32 0,u32 0,u64 0,u32 0,i64 0,i64 0,u64 0,u64 0,u32 0,u32 0,.bool false,u64 0,u64 0,u8 0,.slice none 0 0])).run _ _ = _ at st0
   simp [-loadVar,-storeVar,lvS,a2.cell 1 _ rfl,a2.cell 2 _ rfl]
   have a3 := a2.ext Ez
   have ha2 := a2.lt
   obtain ⟨d,hd⟩ : ∃ d,W2.heap.size = d := ⟨_,rfl⟩
   rw [hd] at oz st0 ⊢
   generalize (W2.alloc (.cells #[i64 0,u32 0,u32 0,u64 0,.bool false,u8 0,u32 0,u32 0,u32 0,u32 0,u32 0,u32 0,u64 0,u8 0,.slice none 0 0,u32 0,u32 0,u64 0,u64 0,u64 0,u32 0,u32 0,u64 0,u64 0,u32 0,u32 0,u32 0,.bool false,i64 0,u32 0,u32 0,u64 0,u32 0,i64 0,i64 0,u64 0,u64 0,u32 0,u32 0,.bool false,u64 0,u64 0,u8 0,.slice none 0 0] 45)) = W3 at *
   have o4 : Blk (putC W3 d 0 (trC trn0 nilS nilS)) d (trC trn0 nilS nilS) := Blk.put oz rfl
   have S4 : Mod (fun k => k = d) W3 (putC W3 d 0 (trC trn0 nilS nilS)) := putC_mod _ _ (Mod.refl _ _)
   have a4 := a3.mod S4 (by omega)
   simp [-loadVar,-storeVar,lvS,st0]
   generalize (putC W3 d 0 (trC trn0 nilS nilS)) = W4 at *
   have st1 := sv_turn o4 crash2 nilS nilS rfl rfl
   change (storeVar 45 ⟨_,0,none⟩ (.agg #[i64 13,u32 2,u32 0,u64 0,.bool false,u8 0,u32 0,u32 0,u32 0,u32 0,u32 0,u32 0,u64 0,u8 0,.slice none 0 0,u32 0,u32 0,u64 0,u64 0,u64 0,u32 0,u32 0,u64 0,u64 0,u32 0,u32 0,u32 0,.bool false,i64 0,u32 0,u32 0,u64 0,u32 0,i64 0,i64 0,u64 0,u64 0,u32 0,u32 0,.bool false,u64 0,u64 0,u8 0,.slice none 0 0])).run _ _ = _ at st1
   have o5 : Blk (putC W4 d 0 (trC crash2 nilS nilS)) d (trC crash2 nilS nilS) := Blk.put o4 rfl
   have S5 : Mod (fun k => k = d) W4 (putC W4 d 0 (trC crash2 nilS nilS)) := putC_mod _ _ (Mod.refl _ _)
   have a5 := a4.mod S5 (by omega)
   have wu : IntKind.u32.wrap (IntKind.u8.wrap 2) = 2 := rfl
   have M05 : Mod (fun k => W.heap.size ≤ k) W (putC W4 d 0 (trC crash2 nilS nilS)) := ((((E1.trans E2').trans Ez).mod).trans (S4.weaken fun k hk => by have := E1.size; have := E2'.size; omega)).trans (S5.weaken fun k hk => by have := E1.size; have := E2'.size; omega)
   simp [-loadVar,-storeVar,a4.cell 0 _ rfl,wu,st1]
   generalize (putC W4 d 0 (trC crash2 nilS nilS)) = W5 at *
   have E05 := M05.ext fun _ h => h
   have hdW : W.heap.size ≤ d := by have := E1.size; have := E2'.size; omega
   have ha5 := a5.lt
   have hd5 := o5.lt
   have hWw := hMW.size
   refine WC_loop (fun m ρ' ds' w' => ∃ (i : Nat) (vk : Value), m = 8 - i ∧ i ≤ 8 ∧ ρ' 2 = ptr o ∧ ρ' 4 = ptr q ∧ ρ' 7 = ptr d ∧ ρ' 34 = i64 i ∧ ds' = [] ∧ Blk w' d (trC crash2 nilS vk) ∧ w'.ownsRow W5.heap.size 4 1 vk i ((k8.take i).map Value.bool) ∧ Mod (fun k => k = d) W5 w') 8
    ⟨0,nilS,by omega,by omega,by simp [e2],by simp,by simp,by simp,rfl,o5,own_nothing _ _ _ _,Mod.refl _ _⟩ ?_
   rintro m ρ' ds' W6 ⟨i,vk,rfl,hi,f2,f4,f7,f34,rfl,o6,how6,M6⟩
   have a6 := a5.mod M6 (by omega)
   by_cases hlt : i < 8
   ·have hlt' : (i : Int) < 8 := by omega
    simp [-loadVar,-storeVar,f34,hlt']
    refine WC_drawC 9 (.F 0 <| .F 1 <| .F 2 <| .F 3 <| .F 4 <| .F 5 <| .F 6 <| .F 7 <| .C 8 <| .Z) (fun _ => false) rfl (by kernel_rfl) fun W7 hW7 => ?_
    have E7 : Ext W6 W7 := hW7 ▸ Ext.drew _
    have a7 := a6.ext E7
    have o7 := o6.ext E7
    simp [-loadVar,-storeVar,lvS,f4,f7,o7.cell 43 _ rfl,a7.cell 2 _ rfl]
    have hb8 := bit8 ⟨i,hlt⟩
    simp only at hb8
    rw [hb8]
    have EB : Ext W7 (W7.alloc (.cells #[.bool k8[i]] 4)) := (Ext.refl _).alloc _
    have slB8 : Sl (W7.alloc (.cells #[.bool k8[i]] 4)) 1 (.slice (some ⟨W7.heap.size,0,none⟩) 1 1) 1 [.bool k8[i]] := Sl.made W7 [.bool k8[i]] 4 1 1 rfl
    refine KR_ext EB ?_
    have E68 := E7.trans EB
    have z8 := E68.size
    have z6 := M6.size
    generalize (W7.alloc (.cells #[.bool k8[i]] 4)) = W8 at *
    obtain ⟨v',W9,hr,ho9,hM9,-⟩ := append_own (P := Tryz.prog) (t := 43) (ty := 43) (e := 4) (s := 1) (by simp) (by simp) (by kernel_rfl) (own_ext how6 E68) slB8 (fun u hu => by simp at hu; rw [hu]; rfl) (by omega) (by omega)
    obtain ⟨va,vc,hve0⟩ := own_val ho9
    have hve : v' = .slice va (i + 1) vc := hve0
    clear hve0
    subst hve
    have hne : ∀ k,(slN vk = false ∧ k = slB vk) → W5.heap.size ≤ k := fun k hk => by have := own_ge how6 hk.1; omega
    have o9 := (o6.ext E68).mod hM9 (fun h => by have := hne _ h; omega)
    simp [-loadVar,-storeVar,svS,f2,f4,f7,f34,hr,o9.cell 43 _ rfl,o9.thaw]
    have S10 : Mod (fun k => k = d) W9 (W9.setCell ⟨d,43,none⟩ (.slice va (i + 1) vc)) := (Mod.refl _ _).setC _ _
    have o10 : Blk (W9.setCell ⟨d,43,none⟩ (.slice va (i + 1) vc)) d (trC crash2 nilS (.slice va (i + 1) vc)) := o9.set 43 _
    have wi : IntKind.i64.wrap ((i : Int) + 1) = i + 1 := wrap64 _ (by omega) (by omega)
    have hn10 := own_ge ho9 (own_nil ho9 (by omega))
    simp [wi]
    refine ⟨8 - (i + 1),by omega,i + 1,rfl,by omega,by omega,.slice va (i + 1) vc,o10,?_,((M6.trans E68.mod).trans' hM9 fun k hk => .inr (hne k hk)).trans S10⟩
    have htk : (k8.take (i + 1)).map Value.bool = (k8.take i).map Value.bool ++ [.bool k8[i]] := by rw [List.take_add_one,List.map_append,List.getElem?_eq_getElem hlt]; rfl
    have := own_keep ho9 (fun _ hl => S10.blk _ hl (show ¬ slB (.slice va (i + 1) vc) = d by omega))
    show World.ownsRow _ _ _ _ _ _ ((k8.map Value.bool).take (i + 1))
    rw [← List.map_take,htk]
    exact this
   ·have hi8 : i = 8 := by omega
    subst hi8
    have hvd : o < d := by have := hv.lt; omega
    have hv6 : Var W6 o v := ((hv.ext E05).mod M6 (by omega))
    have hn6 := own_nil how6 (by omega)
    have hk6 := own_ge how6 hn6
    have z6 := M6.size
    have hns := own_nil how (by omega)
    have hlv := own_lt how hns
    simp [-loadVar,-storeVar,lvS,f2,f7,f34,hv6.cell,lv_turn o6]
    have EC : Ext W6 (W6.alloc (.cells (trC crash2 nilS vk).toArray 45)) := (Ext.refl _).alloc _
    have slC : Sl (W6.alloc (.cells (trC crash2 nilS vk).toArray 45)) 44 (.slice (some ⟨W6.heap.size,0,none⟩) 1 1) 1 (trC crash2 nilS vk) := Sl.made W6 (trC crash2 nilS vk) 45 44 1 rfl
    have M06 : Mod (fun k => W.heap.size ≤ k) W W6 := M05.trans (M6.weaken fun k hk => by omega)
    have M07 := M06.trans (EC.mod (S := fun k => W.heap.size ≤ k))
    have how7 : (W6.alloc (.cells (trC crash2 nilS vk).toArray 45)).ownsRow w2.heap.size 45 44 v 1 (trC tick9 nilS nilS) := own_keep how fun _ hl => M07.blk _ hl (by omega)
    have hk7 := own_ext how6 EC
    have hv7 := hv6.ext EC
    have hg7 := hgW.mod M07 (by have := hgW.lt; omega)
    have z7 := EC.size
    have ov1 : oneV vk = true := by obtain ⟨_,_,rfl⟩ := own_val how6; rfl
    generalize (W6.alloc (.cells (trC crash2 nilS vk).toArray 45)) = W7 at *
    obtain ⟨v', W8, hr, ho8, hM8, hfr⟩ := append_own (P := Tryz.prog) (t := 69) (ty := 69) (e := 45) (s := 44) (by simp) (by simp) (by kernel_rfl) how7 slC (by
     intro u hu
     have hkc : vk.oneCell' = true := by obtain ⟨_,_,rfl⟩ := own_val how6; rfl
     have : (trC crash2 nilS vk).all Value.oneCell' = true := by
      simp only [List.all_cons,List.all_nil,hkc]
      rfl
     exact List.all_eq_true.1 this u hu) (by omega) (by omega)
    obtain ⟨va,vc,hve0⟩ := own_val ho8
    have hve : v' = .slice va 2 vc := hve0
    clear hve0
    have hn8 := own_nil ho8 (by omega)
    have hs8 := own_lt ho8 hn8
    have hb8 : slB v' = slB v ∨ W7.heap.size ≤ slB v' := (hfr hn8).imp (fun h => h.2) id
    have hov : slB v ≠ o := by
     have := own_ge how hns
     omega
    have z8 := hM8.size
    have hv8 : Var W8 o v := hv7.mod hM8 (fun h => hov h.2.symm)
    simp [hr,f2]
    subst hve
    simp [hv8.cell,hv8.thaw]
    have S9 : Mod (fun k => k = o) W8 (W8.setCell ⟨o,0,none⟩ (.slice va 2 vc)) := (Mod.refl _ _).setC _ _
    have z9 := S9.size
    have hgv : ¬ (slN v = false ∧ g = slB v) := fun h => by
     have := own_ge how hns
     omega
    have hg8 := (hg7.mod hM8 hgv).mod S9 (by omega)
    have Mall : Mod C W (W8.setCell ⟨o, 0, none⟩ (.slice va 2 vc)) := by
     refine ⟨?_, ?_, ?_, ?_, ?_⟩
     ·exact S9.os.trans (hM8.os.trans M07.os)
     ·exact S9.tape.trans (hM8.tape.trans M07.tape)
     ·exact S9.out.trans (hM8.out.trans M07.out)
     ·have := M07.size; omega
     ·intro k hk hnC
      have h1 : k ≠ o := fun e => hnC (e ▸ hCo)
      have h2 : k ≠ slB v := fun e => hnC (e ▸ hcv)
      have := M07.size
      rw [S9.blk k (by omega) h1,hM8.blk k (by omega) (fun h => h2 h.2),M07.blk k hk (by omega)]
    have hge := own_ge how hns
    have hob : slB (.slice va 2 vc) ≠ o := by rcases hb8 with h | h <;> omega
    have hkv : slB vk ≠ slB v := by omega
    refine ⟨fun k => C k ∨ k = slB (.slice va 2 vc) ∨ k = slB vk, ⟨hg8, .inl hCo, ?_, hMW.trans' Mall (fun i hi => hCk i hi), .inr (.inr ⟨rfl, _, vk, hv8.set _, own_keep ho8 (fun _ hl => S9.blk _ hl hob), .inr (.inl rfl), ?_, .inr (.inr rfl)⟩)⟩, ?_⟩
    ·rintro k (hk | rfl | rfl)
     ·exact hCk k hk
     ·rcases hb8 with h | h
      ·exact .inr (by omega)
      ·exact .inr (by omega)
     ·exact .inr (by omega)
    ·exact own_lower (own_keep (own_keep hk7 (fun _ hl => hM8.blk _ hl (fun h => hkv h.2))) (fun _ hl => S9.blk _ hl (by omega))) (by omega)
    ·refine ⟨Mall, ?_, ?_⟩
     ·rintro k (hk | rfl | rfl)
      ·exact .inl hk
      ·rcases hb8 with h | h
       ·exact .inl (h ▸ hcv)
       ·exact .inr (by have := M07.size; omega)
      ·exact .inr (by omega)
     ·rintro k (hk | rfl | rfl)
      ·exact .inl hk
      ·exact .inr (by omega)
      ·have := own_lt hk7 hn6
       exact .inr (by omega)
 ·rintro C xs W rfl ⟨hgW,hCo,hCk,hMW,hJ⟩ hD
  rcases hJ with ⟨h, -⟩ | ⟨h, -⟩ | ⟨-, v, vk, hv, how, hcv, hk, hck⟩
  ·cases h
  ·cases h
  obtain ⟨va,vc,hve⟩ := own_val how
  subst hve
  simp [hv.cell,hv.thaw]
  have S : Mod (fun k => k = o) W (W.setCell ⟨o,0,none⟩ (.slice va 2 vc)) := (Mod.refl _ _).setC _ _
  have zW := hMW.size
  have hon : w2.heap.size ≠ o := by omega
  have hDl : w2.heap.size < W.heap.size := (Array.getElem?_eq_some_iff.1 hD).1
  refine LV_mark ((S.blk _ hDl hon).trans hD) (by simp) ?_
  have hvf := hv.set (.slice va 2 vc)
  have hn := own_nil how (by omega)
  have hge := own_ge how hn
  have hnk := own_nil hk (by omega)
  have hgk := own_ge hk hnk
  have PW : Mod (· = w2.heap.size) (W.setCell ⟨o,0,none⟩ (.slice va 2 vc)) (World.putObj (W.setCell ⟨o,0,none⟩ (.slice va 2 vc)) w2.heap.size (.deferred none)) := Mod.putObj _ _
  have hvf' := hvf.mod PW (fun h => hon h.symm)
  have nd : ∀ {e s : Nat} {v : Value} {n : Nat} {xs : List Value}, W.ownsRow w2.heap.size e s v n xs → slN v = false → slB v ≠ w2.heap.size := fun h hn he => by
   obtain ⟨c,hc⟩ := own_obj h hn
   rw [he,hD] at hc
   cases hc
  have hs1 := Sl.mod' (Sl.mod' (sl_of_own how) S (fun _ => by omega)) PW (fun _ => nd how hn)
  have hs2 := Sl.mod' (Sl.mod' (sl_of_own hk) S (fun _ => by omega)) PW (fun _ => nd hk hnk)
  simp [hvf'.cell]
  refine ⟨vk,hs1,by omega,hs2,by omega,?_⟩
  have MA : Mod (fun k => w.heap.size ≤ k) w W := (hE1.trans E2).mod.trans (hMW.weaken fun k hk => by omega)
  exact ((MA.trans (S.weaken fun k hk => by omega)).trans (PW.weaken fun k hk => by omega)).ext fun _ h => h
end Go.Proofs