/-
  Contracts of the functions that the law reaches,step by step.
-/
import Derived.Test.YtmmneeomcefgbaaGreatDoorScP
namespace Go.Proofs
open Pk
set_option maxRecDepth 100000
attribute [local simp] beq_dec bne_dec
theorem Sl.mod' {w w' : World} {s : Nat} {v : Value} {n : Nat} {cs : List Value} {S : Nat → Prop} (h : Sl w s v n cs) (he : Mod S w w') (hs : cs ≠ [] → ¬ S (slB v)) : Sl w' s v n cs :=
  ⟨h.len,h.val,fun j u hj => he.cell (h.at_ j u hj) (hs (fun e => by rw [e] at hj; cases hj))⟩
/-- The line of a turn. -/
def lineP (rd : Tx → Option (Int × (Trn → List Tx → Option (Trn × List Tx)))) (tl : Trn → Option (List Tx)) (t : Trn) : Option Tx := match findW t with
  | none => none
  | some p => match layK tl t with
    | none => none
    | some l => match turnP rd (joinW (p.1 :: l)) with
      | none => none
      | some t' => if sameT t' t = true then some (joinW (p.1 :: l)) else none
def LineE (w w' : World) (o : Option Tx) (e : Ending) : Prop := Ext w w' ∧ match o with
  | none => e = .returned (.tuple #[tv [],i64 370])
  | some s => e = .returned (.tuple #[tv s,i64 0])
theorem line1_c {w : World} {b : Nat} {x : Value} (hb : Var w b x) : FN Tryz.prog 22 [ptr b] w fun e w' => (∃ v, e = .returned v) ∧ w' = w.setCell ⟨b, 0, none⟩ (tv []) := by
  refine FN_enter Tryz.func22 rfl rfl (by kernel_rfl) ?_
  simp [hb.cell,hb.thaw]
/-- None of these is the turn's. -/
def NoHit (t : Trn) (L : List (Tx × List Value)) (idxs : List Nat) : Prop := ∀ i ∈ idxs,∀ s k fl fr,L[i]? = some (s,[i64 k,fl,fr]) → hitW t (s,k) = false
theorem NoHit.none {t : Trn} {f1 f2 : Nat} {idxs : List Nat} (h : NoHit t (lnL f1 f2) idxs) (hp : idxs.Perm (List.range (lnL f1 f2).length)) : findW t = none := by
  refine List.find?_eq_none.2 fun x hx hh => ?_
  have : ∀ x ∈ lnW, ∃ (i : Nat) (fl fr : Value), (lnL f1 f2)[i]? = some (x.1, [i64 x.2, fl, fr]) := by
    intro x hx
    simp only [lnW,List.mem_cons,List.not_mem_nil,or_false] at hx
    rcases hx with rfl | rfl | rfl | rfl | rfl | rfl | rfl | rfl | rfl | rfl | rfl | rfl | rfl | rfl | rfl | rfl | rfl
    · exact ⟨0,_,_,rfl⟩
    · exact ⟨1,_,_,rfl⟩
    · exact ⟨2,_,_,rfl⟩
    · exact ⟨3,_,_,rfl⟩
    · exact ⟨4,_,_,rfl⟩
    · exact ⟨5,_,_,rfl⟩
    · exact ⟨6,_,_,rfl⟩
    · exact ⟨7,_,_,rfl⟩
    · exact ⟨8,_,_,rfl⟩
    · exact ⟨9,_,_,rfl⟩
    · exact ⟨10,_,_,rfl⟩
    · exact ⟨11,_,_,rfl⟩
    · exact ⟨12,_,_,rfl⟩
    · exact ⟨13,_,_,rfl⟩
    · exact ⟨14,_,_,rfl⟩
    · exact ⟨15,_,_,rfl⟩
    · exact ⟨16,_,_,rfl⟩
  obtain ⟨i,fl,fr,hi⟩ := this x hx
  have := h i (hp.mem_iff.2 (List.mem_range.2 (List.getElem?_eq_some_iff.1 hi).1)) _ _ _ _ hi
  rw [this] at hh
  cases hh
theorem mlnL {f1 f2 i : Nat} {p : Tx × List Value} (h : (lnL f1 f2)[i]? = some p) : p ∈ lnL f1 f2 := List.mem_of_getElem? h
set_option maxHeartbeats 8000000 in
theorem line_c (rd : Tx → Option (Int × (Trn → List Tx → Option (Trn × List Tx)))) (tl : Trn → Option (List Tx)) {t : Trn} {vp vk : Value} {w : World} (ht : t.Ok) (hp : SlB w 1 vp t.pay.length (t.pay.map encB)) (hk : SlB w 1 vk t.keep.length (t.keep.map Value.bool)) (hpl : t.pay.length ≤ 300) (hkl : t.keep.length ≤ 300) (hG : Gl w) (h8 : 8 ≤ w.heap.size)
    (htell : t.kind = 16 → LayF tl t vp vk (fnV 122)) (htl : Bnd 3000 (tl t)) (hrd : ∀ f1 f2 s0,(s0 = tellT → t.kind = 16) → LookOk rd f1 f2 s0) (hok : ∀ s t',turnP rd s = some t' → t'.Ok) : FN Tryz.prog 10 [trV t vp vk] w fun e w' => LineE w w' (lineP rd tl t) e := by
  refine FN_enter Tryz.func10 rfl rfl (by kernel_rfl) ?_
  have hE1 : Ext w (((w.alloc (.cells (trC t vp vk).toArray 45)).alloc (.cells #[tv []] 9)).alloc (.cells #[i64 0] 48)) := (((Ext.refl w).alloc _).alloc _).alloc _
  have x1 : Blk (((w.alloc (.cells (trC t vp vk).toArray 45)).alloc (.cells #[tv []] 9)).alloc (.cells #[i64 0] 48)) w.heap.size (trC t vp vk) := (Blk.new w _ _).ext (((Ext.refl _).alloc _).alloc _)
  have s1 : Var (((w.alloc (.cells (trC t vp vk).toArray 45)).alloc (.cells #[tv []] 9)).alloc (.cells #[i64 0] 48)) (w.heap.size + 1) (tv []) := by
    have := (Var.new (w.alloc (.cells (trC t vp vk).toArray 45)) (tv []) 9).ext ((Ext.refl _).alloc (.cells #[i64 0] 48))
    simpa using this
  have q1 : Var (((w.alloc (.cells (trC t vp vk).toArray 45)).alloc (.cells #[tv []] 9)).alloc (.cells #[i64 0] 48)) (w.heap.size + 1 + 1) (i64 0) := by
    have := Var.new ((w.alloc (.cells (trC t vp vk).toArray 45)).alloc (.cells #[tv []] 9)) (i64 0) 48
    simpa using this
  have hz1 : (((w.alloc (.cells (trC t vp vk).toArray 45)).alloc (.cells #[tv []] 9)).alloc (.cells #[i64 0] 48)).heap.size = w.heap.size + 3 := by simp
  simp [-loadVar,-storeVar]
  obtain ⟨a,ha⟩ : ∃ a,w.heap.size = a := ⟨_,rfl⟩
  rw [ha] at x1 s1 q1 h8 hz1 ⊢
  generalize (((w.alloc (.cells (trC t vp vk).toArray 45)).alloc (.cells #[tv []] 9)).alloc (.cells #[i64 0] 48)) = w1 at *
  have M01 : Mod (fun k => a ≤ k) w w1 := hE1.mod
  have pan : ∀ (W : World) (ρ : Env) (y : Value), ρ 2 = ptr (a + 1) → ρ 3 = ptr (a + 1 + 1) → Var W (a + 1) y → Var W (a + 1 + 1) (i64 0) → Mod (fun k => a ≤ k) w W → lineP rd tl t = none →
      LV Tryz.prog #[ResultVar.cell 2 9,ResultVar.cell 3 48] (fun e w' => LineE w w' (lineP rd tl t) e) ρ [{ target := .fn (.func 21) #[],args := #[ptr (a + 1 + 1),.func (.func 22) #[] #[ptr (a + 1)]] }] (.panicking (panE 370)) W := by
    intro W ρ y e2 e3 sW cW hM hN
    refine sLV_panic cW ?_
    rw [CV_func]
    have hM1 : Mod (fun k => k = a + 1 + 1) W (W.setCell ⟨a + 1 + 1,0,.none⟩ (i64 370)) := (Mod.refl _ _).setC _ _
    have sW1 := sW.mod hM1 (by omega)
    have cW1 := cW.set (i64 370)
    generalize (W.setCell ⟨a + 1 + 1,0,.none⟩ (i64 370)) = W1 at *
    refine FN.mono (line1_c sW1) ?_
    rintro e3' W2 ⟨⟨u,rfl⟩,rfl⟩
    refine ⟨⟨u,rfl⟩,?_⟩
    have hM2 : Mod (fun k => k = a + 1) W1 (W1.setCell ⟨a + 1,0,none⟩ (tv [])) := (Mod.refl _ _).setC _ _
    have s2 := sW1.set (tv [])
    have c2 := cW1.mod hM2 (by omega)
    simp [e2,e3,s2.cell,c2.cell]
    refine ⟨((hM.trans (hM1.weaken fun k hk => by omega)).trans (hM2.weaken fun k hk => by omega)).ext fun _ h => by omega,?_⟩
    rw [hN]
  refine FN.mono (slines_c w1) ?_
  rintro _ w2 ⟨r,f1,f2,rfl,m2,vf1,vf2,gr,gf1,gf2,E2⟩
  obtain ⟨o,hr,hi⟩ := m2.range (P := Tryz.prog) tln
  have z2 := E2.size
  simp [-loadVar,-storeVar,hr]
  have he := (Ext.refl w2).alloc o
  obtain ⟨b,hb⟩ : ∃ b,b = w2.heap.size := ⟨_,rfl⟩
  rw [← hb] at hi ⊢
  have E3 := E2.trans he
  have z3 := E3.size
  generalize (w2.alloc o) = w3 at *
  refine WC_loop (fun k ρ ds w' => ∃ (idxs : List Nat),k + idxs.length = (lnL f1 f2).length ∧ ρ 1 = ptr a ∧ ρ 2 = ptr (a + 1) ∧ ρ 3 = ptr (a + 1 + 1) ∧ ρ 10 = ptr b ∧ ds = [{ target := .fn (.func 21) #[],args := #[ptr (a + 1 + 1),.func (.func 22) #[] #[ptr (a + 1)]] }] ∧ MIter tv agE w' b r (lnL f1 f2) idxs ∧ Mod (fun k => k = b) w3 w' ∧ NoHit t (lnL f1 f2) idxs) (lnL f1 f2).length ⟨[],by simp,rfl,rfl,rfl,rfl,rfl,hi,Mod.refl _ _,fun i hi => by cases hi⟩ ?_
  rintro k ρ ds w4 ⟨idxs,hkn,e1,e2,e3,e10,rfl,hI,M4,hno⟩
  rcases hI.next (P := Tryz.prog) 0 with ⟨hperm, hrun⟩ | ⟨i, p, w5, hpi, hni, hrun, hI5, hM5, hent, hs5⟩
  · have M14 : Mod (fun k => a ≤ k) w w4 := (M01.trans E3.mod).trans (M4.weaken fun k hk => by omega)
    have sW := (s1.ext E3).mod M4 (by omega)
    have cW := (q1.ext E3).mod M4 (by omega)
    simp [-loadVar,-storeVar,svS,e10,hrun,e2,e3,sW.cell,sW.thaw,cW.cell,cW.thaw,cell_setCell]
    have S1 : Mod (fun k => k = a + 1) w4 (w4.setCell ⟨a + 1,0,none⟩ (tv [])) := (Mod.refl _ _).setC _ _
    have cW1 := (cW.mod S1 (by omega)).set (i64 370)
    have S2 : Mod (fun k => k = a + 1 + 1) (w4.setCell ⟨a + 1,0,none⟩ (tv [])) ((w4.setCell ⟨a + 1,0,none⟩ (tv [])).setCell ⟨a + 1 + 1,0,none⟩ (i64 370)) := (Mod.refl _ _).setC _ _
    have sW1 := (sW.set (tv [])).mod S2 (by omega)
    have MF := (M14.trans (S1.weaken (S' := fun k => a ≤ k) fun k hk => by omega)).trans (S2.weaken fun k hk => by omega)
    generalize ((w4.setCell ⟨a + 1,0,none⟩ (tv [])).setCell ⟨a + 1 + 1,0,none⟩ (i64 370)) = W2 at *
    refine sLV_caught ?_
    simp [e2,e3,sW1.cell,cW1.cell]
    refine ⟨MF.ext fun _ h => by omega,?_⟩
    rw [show lineP rd tl t = none by unfold lineP; rw [hno.none hperm]]
  · obtain ⟨kp,fl,fr,hp2,hpw,ho1,ho2,hL⟩ := lnL_all tl (f1 := f1) (f2 := f2) (vp := vp) (vk := vk) ht htell p (mlnL hpi)
    obtain ⟨s,row⟩ := p
    simp only at hp2 hpw
    subst hp2
    have hst1 := fun (p : Addr) (W : World) => run_store_sto Tryz.prog W p fl ho1
    have hst2 := fun (p : Addr) (W : World) => run_store_sto Tryz.prog W p fr ho2
    simp only [agE] at hent
    have M5 : Mod (fun k => k = b) w3 w5 := M4.trans hM5
    have z5 := M5.size
    have hb5 := hI5.bound
    simp only [List.length_append,List.length_singleton] at hb5
    simp [-loadVar,-storeVar,lvS,svS,e10,hrun,hent,hst1,hst2]
    have E6 : Ext w5 (w5.alloc (.cells #[i64 kp,fl,fr] 78)) := (Ext.refl _).alloc _
    have l6 : Blk (w5.alloc (.cells #[i64 kp,fl,fr] 78)) w5.heap.size [i64 kp,fl,fr] := Blk.new w5 _ _
    obtain ⟨j,hj⟩ : ∃ j,w5.heap.size = j := ⟨_,rfl⟩
    rw [hj] at l6 ⊢
    generalize (w5.alloc (.cells #[i64 kp,fl,fr] 78)) = w6 at *
    have I6 := hI5.mod (S := fun _ => False) E6.mod _root_.id _root_.id
    have M6 := M5.trans E6.mod
    have M16 : Mod (fun k => a ≤ k) w w6 := (M01.trans E3.mod).trans (M6.weaken fun k hk => by omega)
    have x6 := (x1.ext E3).mod M6 (by omega)
    have s6 := (s1.ext E3).mod M6 (by omega)
    have q6 := (q1.ext E3).mod M6 (by omega)
    have nohit : hitW t (s, kp) = false → NoHit t (lnL f1 f2) (idxs ++ [i]) := by
      intro h j hj s' k' fl' fr' e
      rcases List.mem_append.1 hj with hj | hj
      · exact hno j hj s' k' fl' fr' e
      · simp at hj
        subst hj
        rw [hpi] at e
        cases e
        exact h
    refine with_tail (T := ∀ (σ : Env),(σ 1 = ptr a ∧ σ 2 = ptr (a + 1) ∧ σ 3 = ptr (a + 1 + 1) ∧ σ 4 = tv s ∧ σ 5 = ptr j) ∧ kp = t.kind ∧ hitW t (s,kp) = true → WCt Tryz.prog ?n ?r ?c ?Q Tok.mk σ ?ds w6) (fun tail => ?br) ?jn
    case br =>
      by_cases hkk : kp = t.kind
      · by_cases h2 : t.kind = 2
        · by_cases hs : s = openT
          · have hq : (s == [111,112,101,110]) = true := by rw [hs]; rfl
            by_cases hy : t.yes = true
            · simp [-loadVar,-storeVar,lvS,e1,x6.cell 0 _ rfl,x6.cell 4 _ rfl,hkk,h2,hq,hy]
              refine tail _ ⟨⟨?_,?_,?_,?_,?_⟩,hkk,by simp [hitW,hkk,hs,hy]⟩
              all_goals simp [e1,e2,e3]
            · simp [-loadVar,-storeVar,lvS,e1,x6.cell 0 _ rfl,x6.cell 4 _ rfl,hkk,h2,hq,hy]
              exact ⟨k - 1,by omega,idxs ++ [i],by simp only [List.length_append,List.length_singleton]; omega,e2,e3,e10,I6,M6,nohit (by simp [hitW,hs,hy,h2])⟩
          · have hq : (s == [111,112,101,110]) = false := by simpa using hs
            by_cases hy : t.yes = true
            · simp [-loadVar,-storeVar,lvS,e1,x6.cell 0 _ rfl,x6.cell 4 _ rfl,hkk,h2,hq,hy]
              exact ⟨k - 1,by omega,idxs ++ [i],by simp only [List.length_append,List.length_singleton]; omega,e2,e3,e10,I6,M6,nohit (by simp [hitW,hs,hy,h2])⟩
            · simp [-loadVar,-storeVar,lvS,e1,x6.cell 0 _ rfl,x6.cell 4 _ rfl,hkk,h2,hq,hy]
              refine tail _ ⟨⟨?_,?_,?_,?_,?_⟩,hkk,by simp [hitW,hkk,hs,hy]⟩
              all_goals simp [e1,e2,e3]
        · simp [-loadVar,-storeVar,lvS,e1,x6.cell 0 _ rfl,hkk,h2]
          refine tail _ ⟨⟨?_,?_,?_,?_,?_⟩,hkk,by simp [hitW,hkk,h2]⟩
          all_goals simp [e1,e2,e3]
      · simp [-loadVar,-storeVar,lvS,e1,x6.cell 0 _ rfl,hkk]
        exact ⟨k - 1,by omega,idxs ++ [i],by simp only [List.length_append,List.length_singleton]; omega,e2,e3,e10,I6,M6,nohit (by simp [hitW,hkk])⟩
    case jn =>
      rintro σ ⟨⟨e1,e2,e3,e4,e5⟩,rfl,hh⟩
      have hfw := findW_hit hpw hh
      have hlF : LayF tl t vp vk fl := hL rfl
      have hsp := lnW_sp _ hpw
      simp only at hsp
      refine WC_drawC 6 (.F 0 <| .F 3 <| .F 4 <| .F 5 <| .C 1 <| .C 2 <| .Z) (fun _ => false) rfl (by kernel_rfl) fun W hW => ?_
      have WE : Ext w6 W := hW ▸ Ext.drew _
      have xW := x6.ext WE
      have lW := l6.ext WE
      simp [-loadVar,-storeVar,lvS,e1,e4,e5,lW.cell 1 _ rfl,lv_turn xW,xW.cell 0 _ rfl]
      have EB : Ext W (W.alloc (.cells #[tv s] 9)) := (Ext.refl _).alloc _
      have sB : (W.alloc (.cells #[tv s] 9)).ownsRow W.heap.size 9 1 (.slice (some ⟨W.heap.size,0,none⟩) 1 1) 1 [tv s] := own_made W [tv s] 9 1 1 rfl (by omega) _ (Nat.le_refl _)
      refine KR_ext EB ?_
      have E67 := WE.trans EB
      have zW := WE.size
      have zB := EB.size
      generalize (W.alloc (.cells #[tv s] 9)) = W7 at *
      simp
      refine FN.mono (slist_c W7 _) ?_
      rintro _ w7 ⟨rfl,hw7⟩
      rw [hw7]
      simp
      refine KR_same ?_
      have M17 : Mod (fun k => a ≤ k) w W7 := M16.trans E67.mod
      have out : ∀ {v : Value} {cs : List Value}, SlB w 1 v cs.length cs → cs ≠ [] → ¬ a ≤ slB v := fun h hn => by
        have := h.lt (List.length_pos_iff.2 hn)
        omega
      have hp7 := hp.mod M17 (fun hn => by have := hp.lt (List.length_pos_iff.2 hn); omega)
      have hk7 := hk.mod M17 (fun hn => by have := hk.lt (List.length_pos_iff.2 hn); omega)
      have hG7 := hG.mod M17 fun k hk => by omega
      simp
      refine CV.mono (hlF hp7 hk7 (by omega) (by omega) hG7) ?_
      rintro e8 W8 ⟨E8,h8'⟩
      have M18 := M17.trans (E8.mod (S := fun k => a ≤ k))
      have s8 := (s6.ext E67).ext E8
      have q8 := (q6.ext E67).ext E8
      have x8 := (x6.ext E67).ext E8
      rcases hlk : layK tl t with _ | l
      · rw [hlk] at h8'
        obtain rfl : e8 = _ := h8'
        simp
        exact pan _ _ _ (by simp [e2]) (by simp [e3]) s8 q8 M18 (by unfold lineP; rw [hfw]; simp only [hlk])
      rw [hlk] at h8'
      obtain ⟨v8,rfl,sl8⟩ := h8'
      have hbnd := layK_bnd tl ht (B := 3000) (by omega) htl
      have hl8 := (hbnd l hlk).1
      have hjl := joinW_len hbnd hlk hsp.2
      have z7 := E67.size
      have z8 := E8.size
      have z6 := M6.size
      obtain ⟨v9,w9,hr9,ho9,hM9,-⟩ := append_own (P := Tryz.prog) (t := 60) (ty := 60) (e := 9) (s := 1) (by simp) (by simp) (by kernel_rfl) (own_ext sB E8) sl8 (fun u hu => by obtain ⟨z,-,rfl⟩ := List.mem_map.1 hu; rfl) (by omega) (by omega)
      simp [hr9]
      have hn9 : ∀ k,(slN (.slice (some ⟨W.heap.size,0,none⟩) 1 1) = false ∧ k = slB (.slice (some ⟨W.heap.size,0,none⟩) 1 1)) → k = W.heap.size := fun k hk => by simpa [slB] using hk.2
      have s9 := s8.mod hM9 (fun h => by have := hn9 _ h; omega)
      have q9 := q8.mod hM9 (fun h => by have := hn9 _ h; omega)
      have x9 := x8.mod hM9 (fun h => by have := hn9 _ h; omega)
      have M19 := M18.trans (hM9.weaken (S' := fun k => a ≤ k) fun k hk => by have := hn9 _ hk; omega)
      have sl9 := sl_of_own ho9
      obtain ⟨bk,o9,c9,rfl,hc9⟩ := sl9.val.resolve_left (by rintro ⟨c,h,h0⟩; omega)
      have hj := Tryz.strings_Join bk o9 c9 ((s :: l).map fun x => (⟨x.toArray⟩ : ByteArray)) ⟨#[32]⟩ w9 (fun j x hx => by
        rw [List.getElem?_map] at hx
        obtain ⟨y,hy,rfl⟩ := Option.map_eq_some_iff.1 hx
        refine sl9.at_ j _ ?_
        rw [show [tv s] ++ l.map tv = (s :: l).map tv from rfl,List.getElem?_map,hy]; rfl) (own_lt ho9 rfl) (by simp; omega) (by simp; omega) (by
        rw [show ((s :: l).map fun x => (⟨x.toArray⟩ : ByteArray)).map (·.data.toList) = s :: l by simp [List.map_map,Function.comp_def]]
        show (joinW (s :: l)).length ≤ _
        omega)
      rw [show ((s :: l).map fun x => (⟨x.toArray⟩ : ByteArray)).map (·.data.toList) = s :: l by simp [List.map_map,Function.comp_def],show ((s :: l).map fun x => (⟨x.toArray⟩ : ByteArray)).length = 1 + l.length by simp; omega,show Lib.join (s :: l) (⟨#[32]⟩ : ByteArray).data.toList = joinW (s :: l) from rfl] at hj
      refine FN.mono (FN_of_calls Tryz.func24 rfl rfl hj) ?_
      rintro _ w10 ⟨rfl,b10⟩
      have E10 := ext_below b10
      have s10 := s9.ext E10
      have q10 := q9.ext E10
      have x10 := x9.ext E10
      simp [e2,s10.cell,s10.thaw,cell_setCell]
      have S11 : Mod (fun k => k = a + 1) w10 (w10.setCell ⟨a + 1,0,none⟩ (tv (joinW (s :: l)))) := (Mod.refl _ _).setC _ _
      have s11 := s10.set (tv (joinW (s :: l)))
      have q11 := q10.mod S11 (by omega)
      have x11 := x10.mod S11 (by omega)
      have M111 := (M19.trans (E10.mod (S := fun k => a ≤ k))).trans (S11.weaken (S' := fun k => a ≤ k) fun k hk => by omega)
      have hw0 := joinW_head s l hsp.1
      have hzz : 8 ≤ (w10.setCell ⟨a + 1,0,none⟩ (tv (joinW (s :: l)))).heap.size := by have := M111.size; omega
      refine FN.mono (turn_c rd (joinW (s :: l)) (by omega) (hG.mod M111 fun k hk => by omega) hzz (fun f1 f2 s0 l0 h0 => hrd f1 f2 s0 fun hs0 => by
        obtain ⟨l',hl'⟩ := hw0
        rw [hl'] at h0
        cases h0
        exact lnW_tell _ hpw hs0)) ?_
      generalize (w10.setCell ⟨a + 1,0,none⟩ (tv (joinW (s :: l)))) = w11 at *
      rintro e12 w12 ⟨E12,h12⟩
      have s12 := s11.ext E12
      have q12 := q11.ext E12
      have x12 := x11.ext E12
      have M112 := M111.trans (E12.mod (S := fun k => a ≤ k))
      have hlp : lineP rd tl t = match turnP rd (joinW (s :: l)) with
          | none => none
          | some t' => if sameT t' t = true then some (joinW (s :: l)) else none := by unfold lineP; rw [hfw]; simp only [hlk]
      have oz : Blk (w12.alloc (.cells #[i64 0,u32 0,u32 0,u64 0,.bool false,u8 0,u32 0,u32 0,u32 0,u32 0,u32 0,u32 0,u64 0,u8 0,.slice none 0 0,u32 0,u32 0,u64 0,u64 0,u64 0,u32 0,u32 0,u64 0,u64 0,u32 0,u32 0,u32 0,.bool false,i64 0,u32 0,u32 0,u64 0,u32 0,i64 0,i64 0,u64 0,u64 0,u32 0,u32 0,.bool false,u64 0,u64 0,u8 0,.slice none 0 0] 45)) w12.heap.size (trC trn0 nilS nilS) := Blk.new w12 [i64 0,u32 0,u32 0,u64 0,.bool false,u8 0,u32 0,u32 0,u32 0,u32 0,u32 0,u32 0,u64 0,u8 0,.slice none 0 0,u32 0,u32 0,u64 0,u64 0,u64 0,u32 0,u32 0,u64 0,u64 0,u32 0,u32 0,u32 0,.bool false,i64 0,u32 0,u32 0,u64 0,u32 0,i64 0,i64 0,u64 0,u64 0,u32 0,u32 0,.bool false,u64 0,u64 0,u8 0,.slice none 0 0] 45
      have Ez : Ext w12 (w12.alloc (.cells #[i64 0,u32 0,u32 0,u64 0,.bool false,u8 0,u32 0,u32 0,u32 0,u32 0,u32 0,u32 0,u64 0,u8 0,.slice none 0 0,u32 0,u32 0,u64 0,u64 0,u64 0,u32 0,u32 0,u64 0,u64 0,u32 0,u32 0,u32 0,.bool false,i64 0,u32 0,u32 0,u64 0,u32 0,i64 0,i64 0,u64 0,u64 0,u32 0,u32 0,.bool false,u64 0,u64 0,u8 0,.slice none 0 0] 45)) := (Ext.refl _).alloc _
      have zz := Ez.size
      have z12 := M112.size
      obtain ⟨c,hc⟩ : ∃ c,w12.heap.size = c := ⟨_,rfl⟩
      have s13 := s12.ext Ez
      have q13 := q12.ext Ez
      have x13 := x12.ext Ez
      have a12 := q12.lt
      rcases htp : turnP rd (joinW (s :: l)) with _ | t'
      · rw [htp] at h12 hlp
        obtain rfl : e12 = _ := h12
        have stz := sv_turn oz trn0 nilS nilS rfl rfl
        simp [-loadVar,-storeVar]
        rw [hc] at oz stz ⊢
        generalize (w12.alloc (.cells #[i64 0,u32 0,u32 0,u64 0,.bool false,u8 0,u32 0,u32 0,u32 0,u32 0,u32 0,u32 0,u64 0,u8 0,.slice none 0 0,u32 0,u32 0,u64 0,u64 0,u64 0,u32 0,u32 0,u64 0,u64 0,u32 0,u32 0,u32 0,.bool false,i64 0,u32 0,u32 0,u64 0,u32 0,i64 0,i64 0,u64 0,u64 0,u32 0,u32 0,.bool false,u64 0,u64 0,u8 0,.slice none 0 0] 45)) = w13 at *
        simp [-loadVar,-storeVar,stz]
        have S14 : Mod (fun k => k = c) w13 (putC w13 c 0 (trC trn0 nilS nilS)) := putC_mod _ _ (Mod.refl _ _)
        have s14 := s13.mod S14 (by omega)
        have q14 := q13.mod S14 (by omega)
        have M14 := (M112.trans (Ez.mod (S := fun k => a ≤ k))).trans (S14.weaken (S' := fun k => a ≤ k) fun k hk => by omega)
        generalize (putC w13 c 0 (trC trn0 nilS nilS)) = w14 at *
        refine FN.mono (smust_f w14) ?_
        rintro _ w15 ⟨rfl,rfl⟩
        simp
        exact pan _ _ _ (by simp [e2]) (by simp [e3]) s14 q14 M14 hlp
      rw [htp] at h12 hlp
      obtain ⟨vp',vk',rfl,sp',gp',sk',gk'⟩ := h12
      have o1' : oneV vp' = true := by obtain ⟨_,_,rfl⟩ := sp'.isSlice; rfl
      have o2' : oneV vk' = true := by obtain ⟨_,_,rfl⟩ := sk'.isSlice; rfl
      have stz := sv_turn oz t' vp' vk' o1' o2'
      simp [-loadVar,-storeVar]
      rw [hc] at oz stz ⊢
      have sp13 := sp'.ext Ez
      have sk13 := sk'.ext Ez
      generalize (w12.alloc (.cells #[i64 0,u32 0,u32 0,u64 0,.bool false,u8 0,u32 0,u32 0,u32 0,u32 0,u32 0,u32 0,u64 0,u8 0,.slice none 0 0,u32 0,u32 0,u64 0,u64 0,u64 0,u32 0,u32 0,u64 0,u64 0,u32 0,u32 0,u32 0,.bool false,i64 0,u32 0,u32 0,u64 0,u32 0,i64 0,i64 0,u64 0,u64 0,u32 0,u32 0,.bool false,u64 0,u64 0,u8 0,.slice none 0 0] 45)) = w13 at *
      simp [-loadVar,-storeVar,stz]
      have S14 : Mod (fun k => k = c) w13 (putC w13 c 0 (trC t' vp' vk')) := putC_mod _ _ (Mod.refl _ _)
      have s14 := s13.mod S14 (by omega)
      have q14 := q13.mod S14 (by omega)
      have x14 := x13.mod S14 (by omega)
      have o14 : Blk (putC w13 c 0 (trC t' vp' vk')) c (trC t' vp' vk') := Blk.put oz rfl
      have M14 := (M112.trans (Ez.mod (S := fun k => a ≤ k))).trans (S14.weaken (S' := fun k => a ≤ k) fun k hk => by omega)
      have hp14 := hp.mod M14 (fun hn => by have := hp.lt (List.length_pos_iff.2 hn); omega)
      have hk14 := hk.mod M14 (fun hn => by have := hk.lt (List.length_pos_iff.2 hn); omega)
      have nosl : ∀ {v : Value} {n : Nat} {cs : List Value}, Sl w12 1 v n cs → cs ≠ [] → ¬ slB v = c := fun h hn he => by
        have := h.toB.lt (List.length_pos_iff.2 hn)
        omega
      have sp14 := Sl.mod' sp13 S14 (fun hn => nosl sp' hn)
      have sk14 := Sl.mod' sk13 S14 (fun hn => nosl sk' hn)
      generalize (putC w13 c 0 (trC t' vp' vk')) = w14 at *
      simp [-loadVar,-storeVar,e1,lv_turn o14,lv_turn x14]
      refine FN.mono (ssame_c sp14.toB sk14.toB hp14 hk14 (by omega) (by omega) (hok _ _ htp).fate ht.fate) ?_
      rintro _ w15 ⟨rfl,E15⟩
      have s15 := s14.ext E15
      have q15 := q14.ext E15
      have M15 := M14.trans (E15.mod (S := fun k => a ≤ k))
      simp only at hlp
      by_cases hsm : sameT t' t = true
      · rw [if_pos hsm] at hlp
        simp [hsm]
        refine FN.mono (smust_t w15) ?_
        rintro _ w16 ⟨⟨u,rfl⟩,rfl⟩
        simp [e2,e3,s15.cell,s15.thaw,q15.cell,q15.thaw,cell_setCell]
        have S1 : Mod (fun k => k = a + 1) w16 (w16.setCell ⟨a + 1,0,none⟩ (tv (joinW (s :: l)))) := (Mod.refl _ _).setC _ _
        have q16 := (q15.mod S1 (by omega)).set (i64 0)
        have S2 : Mod (fun k => k = a + 1 + 1) (w16.setCell ⟨a + 1,0,none⟩ (tv (joinW (s :: l)))) ((w16.setCell ⟨a + 1,0,none⟩ (tv (joinW (s :: l)))).setCell ⟨a + 1 + 1,0,none⟩ (i64 0)) := (Mod.refl _ _).setC _ _
        have s16 := (s15.set (tv (joinW (s :: l)))).mod S2 (by omega)
        have MF := (M15.trans (S1.weaken (S' := fun k => a ≤ k) fun k hk => by omega)).trans (S2.weaken fun k hk => by omega)
        generalize ((w16.setCell ⟨a + 1,0,none⟩ (tv (joinW (s :: l)))).setCell ⟨a + 1 + 1,0,none⟩ (i64 0)) = W2 at *
        refine sLV_caught ?_
        simp [e2,e3,s16.cell,q16.cell]
        refine ⟨MF.ext fun _ h => by omega,?_⟩
        rw [hlp]
      · rw [if_neg hsm] at hlp
        simp [hsm]
        refine FN.mono (smust_f w15) ?_
        rintro _ w16 ⟨rfl,rfl⟩
        simp
        exact pan _ _ _ (by simp [e2]) (by simp [e3]) s15 q15 M15 hlp
end Go.Proofs
