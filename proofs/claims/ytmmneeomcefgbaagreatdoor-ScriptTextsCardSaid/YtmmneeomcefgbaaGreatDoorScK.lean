/-
  Contracts of the functions that the law reaches,step by step.
-/
import Derived.Test.YtmmneeomcefgbaaGreatDoorScJ
namespace Go.Proofs
open Pk
set_option maxRecDepth 100000
attribute [local simp] beq_dec bne_dec
/-- What Turn tells. -/
def TurnE (w w' : World) (o : Option Trn) (e : Ending) : Prop := Ext w w' ∧ match o with
  | none => e = .returned (.tuple #[trV trn0 nilS nilS,i64 370])
  | some t => ∃ vp vk,e = .returned (.tuple #[trV t vp vk,i64 0]) ∧ Sl w' 1 vp t.pay.length (t.pay.map encB) ∧ (t.pay ≠ [] → w.heap.size ≤ slB vp) ∧ Sl w' 1 vk t.keep.length (t.keep.map Value.bool) ∧ (t.keep ≠ [] → w.heap.size ≤ slB vk)
set_option maxHeartbeats 4000000 in
theorem turn_c (rd : Tx → Option (Int × (Trn → List Tx → Option (Trn × List Tx)))) (s : Tx) (hs : s.length ≤ 900000) {w : World} (hG : Gl w) (h8 : 8 ≤ w.heap.size) (hrd : ∀ f1 f2 s0 l, wds s = s0 :: l → LookOk rd f1 f2 s0) :
    FN Tryz.prog 13 [tv s] w fun e w' => TurnE w w' (turnP rd s) e := by
  refine FN_enter Tryz.func13 rfl rfl (by kernel_rfl) ?_
  have hE1 : Ext w ((w.alloc (.cells #[i64 0,u32 0,u32 0,u64 0,.bool false,u8 0,u32 0,u32 0,u32 0,u32 0,u32 0,u32 0,u64 0,u8 0,.slice none 0 0,u32 0,u32 0,u64 0,u64 0,u64 0,u32 0,u32 0,u64 0,u64 0,u32 0,u32 0,u32 0,.bool false,i64 0,u32 0,u32 0,u64 0,u32 0,i64 0,i64 0,u64 0,u64 0,u32 0,u32 0,.bool false,u64 0,u64 0,u8 0,.slice none 0 0] 45)).alloc (.cells #[i64 0] 48)) := ((Ext.refl w).alloc _).alloc _
  have o1 : Blk ((w.alloc (.cells #[i64 0,u32 0,u32 0,u64 0,.bool false,u8 0,u32 0,u32 0,u32 0,u32 0,u32 0,u32 0,u64 0,u8 0,.slice none 0 0,u32 0,u32 0,u64 0,u64 0,u64 0,u32 0,u32 0,u64 0,u64 0,u32 0,u32 0,u32 0,.bool false,i64 0,u32 0,u32 0,u64 0,u32 0,i64 0,i64 0,u64 0,u64 0,u32 0,u32 0,.bool false,u64 0,u64 0,u8 0,.slice none 0 0] 45)).alloc (.cells #[i64 0] 48)) w.heap.size (trC trn0 nilS nilS) := (Blk.new w [i64 0,u32 0,u32 0,u64 0,.bool false,u8 0,u32 0,u32 0,u32 0,u32 0,u32 0,u32 0,u64 0,u8 0,.slice none 0 0,u32 0,u32 0,u64 0,u64 0,u64 0,u32 0,u32 0,u64 0,u64 0,u32 0,u32 0,u32 0,.bool false,i64 0,u32 0,u32 0,u64 0,u32 0,i64 0,i64 0,u64 0,u64 0,u32 0,u32 0,.bool false,u64 0,u64 0,u8 0,.slice none 0 0] 45).ext ((Ext.refl _).alloc _)
  have q1 : Var ((w.alloc (.cells #[i64 0, u32 0, u32 0, u64 0, .bool false, u8 0, u32 0, u32 0, u32 0, u32 0, u32 0, u32 0, u64 0, u8 0, .slice none 0 0, u32 0, u32 0, u64 0, u64 0, u64 0, u32 0, u32 0, u64 0, u64 0, u32 0, u32 0, u32 0, .bool false, i64 0, u32 0, u32 0, u64 0, u32 0, i64 0, i64 0, u64 0, u64 0, u32 0, u32 0, .bool false, u64 0, u64 0, u8 0, .slice none 0 0] 45)).alloc (.cells #[i64 0] 48)) (w.heap.size + 1) (i64 0) := by
    have := Var.new (w.alloc (.cells #[i64 0,u32 0,u32 0,u64 0,.bool false,u8 0,u32 0,u32 0,u32 0,u32 0,u32 0,u32 0,u64 0,u8 0,.slice none 0 0,u32 0,u32 0,u64 0,u64 0,u64 0,u32 0,u32 0,u64 0,u64 0,u32 0,u32 0,u32 0,.bool false,i64 0,u32 0,u32 0,u64 0,u32 0,i64 0,i64 0,u64 0,u64 0,u32 0,u32 0,.bool false,u64 0,u64 0,u8 0,.slice none 0 0] 45)) (i64 0) 48
    simpa using this
  have hz1 : ((w.alloc (.cells #[i64 0,u32 0,u32 0,u64 0,.bool false,u8 0,u32 0,u32 0,u32 0,u32 0,u32 0,u32 0,u64 0,u8 0,.slice none 0 0,u32 0,u32 0,u64 0,u64 0,u64 0,u32 0,u32 0,u64 0,u64 0,u32 0,u32 0,u32 0,.bool false,i64 0,u32 0,u32 0,u64 0,u32 0,i64 0,i64 0,u64 0,u64 0,u32 0,u32 0,.bool false,u64 0,u64 0,u8 0,.slice none 0 0] 45)).alloc (.cells #[i64 0] 48)).heap.size = w.heap.size + 2 := by simp
  simp [-loadVar,-storeVar]
  obtain ⟨a,ha⟩ : ∃ a,w.heap.size = a := ⟨_,rfl⟩
  rw [ha] at o1 q1 h8 hz1 ⊢
  generalize ((w.alloc (.cells #[i64 0,u32 0,u32 0,u64 0,.bool false,u8 0,u32 0,u32 0,u32 0,u32 0,u32 0,u32 0,u64 0,u8 0,.slice none 0 0,u32 0,u32 0,u64 0,u64 0,u64 0,u32 0,u32 0,u64 0,u64 0,u32 0,u32 0,u32 0,.bool false,i64 0,u32 0,u32 0,u64 0,u32 0,i64 0,i64 0,u64 0,u64 0,u32 0,u32 0,.bool false,u64 0,u64 0,u8 0,.slice none 0 0] 45)).alloc (.cells #[i64 0] 48)) = w1 at *
  have M01 : Mod (fun k => a ≤ k) w w1 := hE1.mod
  have pan : ∀ (W : World) (ρ : Env), ρ 2 = ptr a → ρ 3 = ptr (a + 1) → TB W a → Var W (a + 1) (i64 0) → Mod (fun k => a ≤ k) w W → turnP rd s = none →
      LV Tryz.prog #[ResultVar.cell 2 45,ResultVar.cell 3 48] (fun e w' => TurnE w w' (turnP rd s) e) ρ [{ target := .fn (.func 21) #[],args := #[ptr (a + 1),.func (.func 32) #[] #[ptr a]] }] (.panicking (panE 370)) W := by
    intro W ρ e2 e3 ⟨t',vp,vk,T⟩ cW hM hN
    refine sLV_panic cW ?_
    rw [CV_func]
    have hM1 : Mod (fun k => k = a + 1) W (W.setCell ⟨a + 1,0,.none⟩ (i64 370)) := (Mod.refl _ _).setC _ _
    have T1 := T.mod hM1 (by omega)
    have cW1 := cW.set (i64 370)
    generalize (W.setCell ⟨a + 1,0,.none⟩ (i64 370)) = W1 at *
    refine FN.mono (turn1_c T1) ?_
    rintro e3' W2 ⟨⟨u,rfl⟩,hW2⟩
    refine ⟨⟨u,rfl⟩,?_⟩
    have hM2 : Mod (fun k => k = a) W1 W2 := by rw [hW2]; exact putC_mod _ _ (Mod.refl _ _)
    have x2 : Blk W2 a (trC trn0 nilS nilS) := by rw [hW2]; exact Blk.put T1 rfl
    have c2 := cW1.mod hM2 (by omega)
    simp [-loadVar,-storeVar,lvS,e2,e3,lv_turn x2,c2.cell]
    refine ⟨((hM.trans (hM1.weaken fun k hk => by omega)).trans (hM2.weaken fun k hk => by omega)).ext fun _ h => by omega,?_⟩
    rw [hN]
  obtain ⟨rb,hrb⟩ : ∃ rb,w1.heap.size = rb := ⟨_,rfl⟩
  have hsz1 := hE1.size
  refine FN.mono (split_c s (by omega) w1) ?_
  rintro _ w2 ⟨c,rfl,s2,E2⟩
  rw [hrb] at s2 ⊢
  simp
  have E3 : Ext w2 (w2.alloc (.cells #[.slice (some ⟨rb,0,none⟩) (wds s).length c] 99)) := (Ext.refl w2).alloc _
  have b3 : Blk (w2.alloc (.cells #[.slice (some ⟨rb,0,none⟩) (wds s).length c] 99)) w2.heap.size [.slice (some ⟨rb,0,none⟩) (wds s).length c] := Blk.new w2 _ _
  obtain ⟨b,hb⟩ : ∃ b,w2.heap.size = b := ⟨_,rfl⟩
  rw [hb] at b3 ⊢
  have s3 := s2.ext E3
  generalize (w2.alloc (.cells #[.slice (some ⟨rb,0,none⟩) (wds s).length c] 99)) = w3 at *
  obtain ⟨E2,z2⟩ := E2
  have E13 := E2.trans E3
  have z3 := E3.size
  obtain ⟨s0,l,hwl⟩ : ∃ s0 l,wds s = s0 :: l := List.exists_cons_of_ne_nil (wds_ne s)
  have hll := wds_len s
  have hls := wds_sub s
  have K3 : Rw w3 rb b (s0 :: l) := ⟨⟨_,b3,by rw [← hwl]; exact s3,rfl⟩,by omega⟩
  rw [hwl] at hll hls
  simp only [List.length_cons] at hll
  have hb1 : rb < b := by omega
  have hba : a + 2 ≤ rb := by omega
  clear b3 s2 s3
  refine WC_drawL 11 (.F 1 <| .F 2 <| .F 3 <| .D 9 <| .L 0 <| .L 4 <| .L 5 <| .F 6 <| .F 7 <| .F 8 <| .W 9 <| .S 10 <| .Z) (Xf fun k => k = b) (Xf fun k => k = b) (fun _ u W => ∃ j,u = ptr j ∧ b < j ∧ Blk W j [i64 0,.nilFunc,.nilFunc]) rfl (by kernel_rfl) (fun _ h => h) (fun _ _ _ _ ⟨j,h1,h2,h3⟩ hA => ⟨j,h1,h2,h3.agr hA (Xf_f (by omega))⟩) fun W hW => ?_
  have WE : Ext w3 W := hW ▸ Ext.drew _
  have zW := WE.size
  have hb3 := K3.lt
  simp [-loadVar,-storeVar]
  refine RL_float (fun W' h' => ?_) ?_
  · simp
    have := h'.size
    exact ⟨(Ext.refl _).alloc _,by omega,Blk.new W' [i64 0,.nilFunc,.nilFunc] 78⟩
  simp [-loadVar,-storeVar]
  refine RL_loose fun W4 h4 => ?_
  simp [-loadVar,-storeVar]
  refine FN.mono (slines_c W4) ?_
  rintro e5 W5 ⟨r,f1,f2,rfl,m5,vf1,vf2,gr,gf1,gf2,E5⟩
  have z4 := h4.size
  have K5 := K3.ext ((WE.trans h4).trans E5)
  have E15 := E13.trans ((WE.trans h4).trans E5)
  simp [-loadVar,-storeVar]
  refine KR_ext E5 ?_
  simp [-loadVar,-storeVar]
  refine RL_loose fun W6 h6 => ?_
  simp [-loadVar,-storeVar]
  have z5 := E5.size
  have z6 := h6.size
  refine FN.mono (wnext_c (K5.ext h6) (by simp; omega)) ?_
  rintro e7 W7 ⟨M7,rfl,K7⟩
  simp [-loadVar,-storeVar]
  refine KR_mk (Xf_agr M7) ?_
  have z7 := M7.size
  have m7 := (m5.ext h6).mod M7 (by omega)
  have vf1 := (vf1.ext h6).mod M7 (by omega)
  have vf2 := (vf2.ext h6).mod M7 (by omega)
  have M17 : Mod (fun k => k = b) w1 W7 := (E15.trans h6).mod.trans M7
  obtain ⟨x0, x1, x2, ok, hlk, ho1, ho2, hcase⟩ : ∃ (x0 : Int) (x1 x2 : Value) (ok : Bool), (∀ W8, Ext W7 W8 → (Instr.lookup 73 (.map (some r)) (tv s0) true).run Tryz.prog W8 = .ok (.tuple #[agE [i64 x0, x1, x2], .bool ok]) W8) ∧
      oneV x1 = true ∧ oneV x2 = true ∧ match rd s0 with
        | none => ok = false
        | some (k,R) => ok = true ∧ x0 = k ∧ Rds f1 f2 x2 R := by
    have hL := hrd f1 f2 s0 l hwl
    have lk := fun W8 (h8 : Ext W7 W8) => (m7.ext h8).lookup kst tln (zln W8) s0 true
    unfold LookOk at hL
    rcases hr : rd s0 with _ | ⟨k, R⟩
    · simp only [hr] at hL
      simp only [hL] at lk
      exact ⟨0,.nilFunc,.nilFunc,false,lk,rfl,rfl,rfl⟩
    · simp only [hr] at hL
      obtain ⟨fl,fr,hm,h1,h2,hR⟩ := hL
      simp only [hm] at lk
      exact ⟨k,fl,fr,true,lk,h1,h2,rfl,rfl,hR⟩
  have hst1 := fun (p : Addr) (W : World) => run_store_sto Tryz.prog W p x1 ho1
  have hst2 := fun (p : Addr) (W : World) => run_store_sto Tryz.prog W p x2 ho2
  simp [-loadVar,-storeVar]
  refine RL_loose fun W8 h8' => ?_
  simp [-loadVar,-storeVar,hlk W8 h8']
  refine KR_same ?_
  simp [-loadVar,-storeVar,agE]
  refine RL_wait fun v W9 h9 hv => ?_
  obtain ⟨j,rfl,hbj,l9⟩ := hv
  simp [-loadVar,-storeVar,svS,hst1,hst2,l9.cell 0 _ rfl,l9.cell 1 _ rfl,l9.cell 2 _ rfl,l9.thaw,cell_setCell]
  have S10 : Mod (fun k => k = j) W9 (((W9.setCell ⟨j,0,none⟩ (i64 x0)).setCell ⟨j,1,none⟩ x1).setCell ⟨j,2,none⟩ x2) := (((Mod.refl _ _).setC 0 _).setC 1 _).setC 2 _
  have l10 : Blk (((W9.setCell ⟨j,0,none⟩ (i64 x0)).setCell ⟨j,1,none⟩ x1).setCell ⟨j,2,none⟩ x2) j [i64 x0,x1,x2] := ((l9.set 0 (i64 x0)).set 1 x1).set 2 x2
  generalize (((W9.setCell ⟨j,0,none⟩ (i64 x0)).setCell ⟨j,1,none⟩ x1).setCell ⟨j,2,none⟩ x2) = W10 at *
  refine KR_mk (agr_any (S10.weaken fun _ _ => trivial)) ?_
  have E79 := h8'.trans h9
  have z9 := E79.size
  have z10 := S10.size
  have M10 : Mod (fun k => a + 2 ≤ k) w1 W10 := ((M17.weaken fun k hk => by omega).trans E79.mod).trans (S10.weaken fun k hk => by omega)
  have K10 := (K7.ext E79).mod S10 (by omega) (by omega)
  have nf : ∀ f y, Var W9 f (.bool y) → f ≠ j := fun f y h e => by
    have := h.cell
    rw [e,l9.cell 0 _ rfl] at this
    cases this
  have vf1 := (vf1.ext E79).mod S10 (nf _ _ (vf1.ext E79))
  have vf2 := (vf2.ext E79).mod S10 (nf _ _ (vf2.ext E79))
  have hja : ¬ j = a := by omega
  have o10 := o1.mod M10 (by omega)
  have q10 := q1.mod M10 (by omega)
  simp [-loadVar,-storeVar]
  have hP : turnP rd s = match rd s0 with
    | none => none
    | some (k, R) => match R { trn0 with kind := k } l with
      | some (t,[]) => some t
      | _ => none := by unfold turnP; rw [hwl]; rfl
  rcases hr : rd s0 with _ | ⟨k, R⟩
  · simp only [hr] at hcase hP
    subst hcase
    refine FN.mono (smust_f W10) ?_
    rintro _ W11 ⟨rfl,rfl⟩
    simp
    exact pan _ _ rfl rfl ⟨_,_,_,o10⟩ q10 (M01.trans (M10.weaken fun k hk => by omega)) hP
  simp only [hr] at hcase hP
  obtain ⟨rfl,rfl,hR⟩ := hcase
  refine FN.mono (smust_t W10) ?_
  rintro _ W11 ⟨⟨u,rfl⟩,rfl⟩
  simp [-loadVar,-storeVar,lvS,svS,l10.cell 0 _ rfl,o10.cell 0 _ rfl,o10.thaw,cell_setCell,hja,l10.cell 2 _ rfl]
  have S12 : Mod (fun k => k = a) W11 (W11.setCell ⟨a,0,none⟩ (i64 x0)) := (Mod.refl _ _).setC _ _
  have o12 : Blk (W11.setCell ⟨a,0,none⟩ (i64 x0)) a (trC { trn0 with kind := x0 } nilS nilS) := o10.set 0 (i64 x0)
  have hj9 := l9.lt
  have K12 := K10.mod S12 (by omega) (by omega)
  have q12 := q10.mod S12 (by omega)
  have nb : ∀ f y, Var W11 f (.bool y) → f ≠ a := fun f y h e => by
    have := h.cell
    rw [e,o10.cell 0 _ rfl] at this
    cases this
  have nc : ∀ f y, Var W11 f (.bool y) → f ≠ b := fun f y h e => by
    have := h.cell
    obtain ⟨⟨v,hb,hs,-⟩,-⟩ := K10
    obtain ⟨va,vc,rfl⟩ := hs.isSlice
    rw [e,hb.cell 0 _ rfl] at this
    cases this
  have vg1 := vf1.mod S12 (nb _ _ vf1)
  have vg2 := vf2.mod S12 (nb _ _ vf2)
  have M12 := M01.trans ((M10.weaken (S' := fun k => a ≤ k) fun k hk => by omega).trans (S12.weaken fun k hk => by omega))
  have z12 := S12.size
  generalize (W11.setCell ⟨a,0,none⟩ (i64 x0)) = W12 at *
  refine CV.mono (hR K12 (by omega) o12 rfl rfl (by omega) (by omega) (by omega) (fun x hx => by have := hls x (by simp [hx]); omega) (hG.mod M12 fun k hk => by omega) (by omega) (by omega) vg1 vg2 (nc _ _ vf1) (nb _ _ vf1) (nc _ _ vf2) (nb _ _ vf2)) ?_
  rintro e13 W13 ⟨M13,h13⟩
  have z13 := M13.size
  have q13 := q12.mod M13 (by omega)
  have M013 := M12.trans (M13.weaken fun k hk => by omega)
  rcases hx : R { trn0 with kind := x0 } l with _ | ⟨t, l'⟩
  · rw [hx] at h13 hP
    obtain ⟨rfl,T13⟩ := h13
    simp
    exact pan _ _ rfl rfl T13 q13 M013 hP
  rw [hx] at h13 hP
  obtain ⟨⟨u,rfl⟩,K13,T13⟩ := h13
  obtain ⟨vp,vk,o13,sp,gp,sk,gk⟩ := T13
  obtain ⟨⟨v13,b13,s13,-⟩,-⟩ := K13
  obtain ⟨va,vc,rfl⟩ := s13.isSlice
  have ln13 := fun ty W => s13.isLen (P := Tryz.prog) (t := 60) (by simp) ty W
  cases l' with
  | cons x l' =>
    have hp : ¬ (l'.length : Int) + 1 = 0 := by omega
    simp [-loadVar,-storeVar,lvS,b13.cell 0 _ rfl,hp]
    refine FN.mono (smust_f W13) ?_
    rintro _ W14 ⟨rfl,rfl⟩
    simp
    exact pan _ _ rfl rfl ⟨_,_,_,o13⟩ q13 M013 hP
  | nil =>
    simp [-loadVar,-storeVar,lvS,b13.cell 0 _ rfl]
    refine FN.mono (smust_t W13) ?_
    rintro _ W14 ⟨⟨u,rfl⟩,rfl⟩
    have h1 : oneV vp = true := by obtain ⟨_,_,rfl⟩ := sp.isSlice; rfl
    have h2 : oneV vk = true := by obtain ⟨_,_,rfl⟩ := sk.isSlice; rfl
    have o15 : Blk (putC W14 a 0 (trC t vp vk)) a (trC t vp vk) := Blk.put o13 rfl
    have S15 : Mod (fun k => k = a) W14 (putC W14 a 0 (trC t vp vk)) := putC_mod _ _ (Mod.refl _ _)
    have st15 := sv_turn o13 t vp vk h1 h2
    have q15 := q13.mod S15 (by omega)
    simp [-loadVar,-storeVar,svS,lv_turn o13,st15,q15.cell,q15.thaw]
    have S16 : Mod (fun k => k = a + 1) (putC W14 a 0 (trC t vp vk)) ((putC W14 a 0 (trC t vp vk)).setCell ⟨a + 1,0,none⟩ (i64 0)) := (Mod.refl _ _).setC _ _
    have o16 := o15.mod S16 (by omega)
    have q16 := q15.set (i64 0)
    have M16 := (M013.trans (S15.weaken (S' := fun k => a ≤ k) fun k hk => by omega)).trans (S16.weaken fun k hk => by omega)
    generalize ((putC W14 a 0 (trC t vp vk)).setCell ⟨a + 1,0,none⟩ (i64 0)) = W16 at *
    refine sLV_caught ?_
    simp [-loadVar,-storeVar,lvS,lv_turn o16,q16.cell]
    refine ⟨M16.ext fun _ h => by omega,?_⟩
    rw [hP]
    have hz12 := M12.size
    have hz10 := M10.size
    refine ⟨vp,vk,rfl,sl_keep (sl_keep sp S15 fun h => ?_) S16 fun h => ?_,fun h => ?_,sl_keep (sl_keep sk S15 fun h => ?_) S16 fun h => ?_,fun h => ?_⟩
    all_goals first | (have := gp (by simpa using h); omega) | (have := gk (by simpa using h); omega)
end Go.Proofs
