/-
  Contracts of the functions that the law reaches,step by step.
-/
import Derived.Test.YtmmneeomcefgbaaGreatDoorTxE
import Derived.Test.YtmmneeomcefgbaaGreatDoorScY
namespace Go.Proofs
open Pk
set_option maxRecDepth 100000
attribute [local simp] beq_dec bne_dec
/-! ### ScriptTexts -/
set_option maxHeartbeats 4000000 in
theorem lawTexts_c {w : World} (hG : Gl w) (h8 : 8 ≤ w.heap.size) (s : Tx) (n : Int) : FN Tryz.prog 7 [tv s, i64 n] w fun e w' => e = .returned (.bool true) ∧ Ext w w' := by
  refine FN_enter Tryz.func7 rfl rfl (by kernel_rfl) ?_
  simp
  have E0 : Ext w ((w.alloc (.cells #[i64 n] 3)).alloc (.cells #[.bool false] 4)) := ((Ext.refl w).alloc _).alloc _
  have v3 : Var ((w.alloc (.cells #[i64 n] 3)).alloc (.cells #[.bool false] 4)) w.heap.size (i64 n) := (Var.new w _ _).ext ((Ext.refl _).alloc _)
  have v4 := Var.new (w.alloc (.cells #[i64 n] 3)) (.bool false) 4
  have hs0 : ((w.alloc (.cells #[i64 n] 3)).alloc (.cells #[.bool false] 4)).heap.size = w.heap.size + 2 := by simp
  rw [show (w.alloc (.cells #[i64 n] 3)).heap.size = w.heap.size + 1 by simp] at v4
  generalize ((w.alloc (.cells #[i64 n] 3)).alloc (.cells #[.bool false] 4)) = w0 at *
  by_cases hbig : 500 < s.length
  · have hbig' : (500 : Int) < s.length := by omega
    simp [hbig']
    refine FN.mono (works_c (hG.ext E0) (by omega)) ?_
    rintro _ w1 ⟨rfl,E1⟩
    have v41 := v4.ext E1
    simp [v41.cell,v41.thaw]
    have hM := Mod.setCell (S := fun k => w.heap.size ≤ k) (((E0.trans E1).mod)) ⟨w.heap.size + 1,0,none⟩ (.bool true) (.inl (Nat.le_succ _))
    have v42 := v41.set (.bool true)
    simp [v42.cell]
    exact hM.ext fun _ h => h
  · have hbig' : ¬ (500 : Int) < s.length := by omega
    simp [hbig']
    refine FN.mono (dsplit_c s (by omega) w0) ?_
    rintro _ w1 ⟨v,rfl,own1,E1⟩
    have D1 := E0.trans E1
    have v31 := v3.ext E1
    have v41 := v4.ext E1
    have z1 := D1.size
    obtain ⟨a0,c0,rfl⟩ := own_val own1
    obtain ⟨rows,hrows⟩ : ∃ rows,rows = wdn s := ⟨_,rfl⟩
    rw [← hrows] at own1 ⊢
    have hlen := wdn_len s
    rw [← hrows] at hlen
    have key : ∀ arr : Array Value, arr = (wordsW.map tv).toArray → ∀ W2, W2 = ((w1.alloc (.cells #[.slice a0 rows.length c0] 60)).alloc (.cells arr 9)).alloc (.cells #[.slice (some ⟨w1.heap.size + 1, 0, none⟩) 17 17] 60) →
        Ext w1 W2 ∧ Var W2 w1.heap.size (.slice a0 rows.length c0) ∧ Var W2 (w1.heap.size + 2) (.slice (some ⟨w1.heap.size + 1,0,none⟩) 17 17) ∧ Sl W2 1 (.slice (some ⟨w1.heap.size + 1,0,none⟩) 17 17) 17 (wordsW.map tv) ∧ W2.heap.size = w1.heap.size + 3 := by
      rintro arr rfl W2 rfl
      have s1 : (w1.alloc (.cells #[.slice a0 rows.length c0] 60)).heap.size = w1.heap.size + 1 := by simp
      have s2 : ((w1.alloc (.cells #[.slice a0 rows.length c0] 60)).alloc (.cells (wordsW.map tv).toArray 9)).heap.size = w1.heap.size + 2 := by simp
      have F1 := (Ext.refl w1).alloc (.cells #[.slice a0 rows.length c0] 60)
      have u1 := Var.new w1 (.slice a0 rows.length c0) 60
      refine ⟨(F1.alloc _).alloc _, (u1.ext ((Ext.refl _).alloc _)).ext ((Ext.refl _).alloc _), ?_, ⟨rfl, .inr ⟨_, 0, _, rfl, Nat.le_refl _⟩, fun j u hj => ?_⟩, by simp⟩
      · rw [← s2]; exact Var.new _ _ _
      · simp only [slB,slO,Nat.zero_add]
        rw [← s1]
        rw [World.cell?_alloc_lt _ _ _ (by rw [s1,s2]; simp),World.cell?_alloc_new]
        simpa using hj
    simp
    obtain ⟨W2,hW2⟩ : ∃ W2,W2 = ((w1.alloc (.cells #[.slice a0 rows.length c0] 60)).alloc (.cells (wordsW.map tv).toArray 9)).alloc (.cells #[.slice (some ⟨w1.heap.size + 1,0,none⟩) 17 17] 60) := ⟨_,rfl⟩
    have hk := key _ rfl W2 hW2
    simp only [wordsW,List.map_cons,List.map_nil,tv] at hW2
    rw [← hW2]
    clear hW2 key
    obtain ⟨E2,v52,v62,sw2,z2⟩ := hk
    have v32 := v31.ext E2
    have v42 := v41.ext E2
    have own2 := own_ext own1 E2
    have D2 := D1.trans E2
    refine FN.mono (lines_c W2 s) ?_
    rintro _ w3 ⟨bl,rfl,vl3,gl3,E3⟩
    have D3 := D2.trans E3
    have z3 := D3.size
    simp
    refine FN.mono (words_c w3) ?_
    rintro _ w4 ⟨rfl,rfl⟩
    simp
    have hz4 : w1.heap.size + 3 ≤ w4.heap.size ∧ w.heap.size + 2 ≤ w1.heap.size := by have := E1.size; have := E3.size; omega
    have v33 := v32.ext E3
    have v43 := v42.ext E3
    have v53 := v52.ext E3
    have v63 := v62.ext E3
    have sw3 := sw2.ext E3
    have own3 := own_ext own2 E3
    have v9 := Var.new w4 (i64 0) 3
    have E5 := (Ext.refl w4).alloc (.cells #[i64 0] 3)
    generalize (w4.alloc (.cells #[i64 0] 3)) = w5 at *
    refine WC_loop (fun k ρ ds w' => ∃ (rd b9 : Nat) (Ds : List Nat), k = 2 - rd ∧ rd ≤ 2 ∧ ρ 3 = ptr w.heap.size ∧ ρ 4 = ptr (w.heap.size + 1) ∧ ρ 5 = ptr w1.heap.size ∧ ρ 6 = ptr (w1.heap.size + 2) ∧ ρ 7 = .func (.func 40) #[] #[ptr bl] ∧ ρ 8 = .func (.func 41) #[] #[] ∧ ρ 9 = ptr b9 ∧
      Var w' b9 (i64 rd) ∧ w4.heap.size ≤ b9 ∧ ds = Ds.map dmark ∧ Ds.Nodup ∧ (∀ D ∈ Ds,w4.heap.size ≤ D ∧ w'.heap[D]? = some (.deferred (some []))) ∧ Ext w4 w') 2
      ⟨0,w4.heap.size,[],by simp,by simp,by simp,by simp,by simp,by simp,by simp,by simp,by simp,v9,Nat.le_refl _,rfl,List.nodup_nil,by simp,E5⟩ ?_
    rintro k ρ ds w6 ⟨rd,b9,Ds,rfl,hrd,e3,e4,e5,e6,e7,e8,e9,v96,g9,rfl,hnd,hDs,E6⟩
    have v36 := v33.ext E6
    have v46 := v43.ext E6
    have v56 := v53.ext E6
    have v66 := v63.ext E6
    have sw6 := sw3.ext E6
    have own6 := own_ext own3 E6
    have vl6 := vl3.ext E6
    have D6 := D3.trans E6
    have z6 := E6.size
    by_cases hlt : rd < 2
    · have hlt' : (rd : Int) < 2 := by omega
      simp [e9,v96.cell,hlt']
      have E7 : Ext w6 ((w6.alloc (.cells #[i64 0] 3)).alloc (.cells #[i64 0] 3)) := ((Ext.refl w6).alloc _).alloc _
      have v10 : Var ((w6.alloc (.cells #[i64 0] 3)).alloc (.cells #[i64 0] 3)) w6.heap.size (i64 0) := (Var.new w6 _ _).ext ((Ext.refl _).alloc _)
      have v11 := Var.new (w6.alloc (.cells #[i64 0] 3)) (i64 0) 3
      rw [show (w6.alloc (.cells #[i64 0] 3)).heap.size = w6.heap.size + 1 by simp] at v11
      have z7 : ((w6.alloc (.cells #[i64 0] 3)).alloc (.cells #[i64 0] 3)).heap.size = w6.heap.size + 2 := by simp
      generalize ((w6.alloc (.cells #[i64 0] 3)).alloc (.cells #[i64 0] 3)) = w7 at *
      have l6 := vl6.lt
      refine with_tail (T := ∀ (σ : Env) (W : World), (σ 3 = ptr w.heap.size ∧ σ 4 = ptr (w.heap.size + 1) ∧ σ 5 = ptr w1.heap.size ∧ σ 6 = ptr (w1.heap.size + 2) ∧ σ 7 = .func (.func 40) #[] #[ptr bl] ∧ σ 8 = .func (.func 41) #[] #[] ∧ σ 9 = ptr b9 ∧ σ 10 = ptr w6.heap.size ∧ σ 94 = .func (.func 41) #[] #[]) →
        Var W w6.heap.size (i64 0) → Ext w6 W → W.heap[w7.heap.size]? = some (.deferred (some [])) → WCt Tryz.prog ?nq ?rq ?cq ?Qq Tok.mk σ ({ target := .collected w7.heap.size,args := #[] } :: Ds.map dmark) W) (fun tail => ?br) ?jn
      case br =>
       refine WC_rangeFunc (gf := 40) (first := #[]) (caps := #[ptr bl]) (enc := lineE) (by simp [e7]) (fun _ _ => callFunc_enter Tryz.func40 rfl rfl _ _) (lines_it (vl6.ext E7) (by omega)) (fun x => rfl) (fun k => k = w6.heap.size ∨ k = w6.heap.size + 1)
         (fun C pre W => Var W w6.heap.size (i64 pre.length) ∧ Var W (w6.heap.size + 1) (i64 (nx 0 pre)) ∧ (∀ k,C k ↔ k = w6.heap.size ∨ k = w6.heap.size + 1) ∧ Mod (fun k => k = w6.heap.size ∨ k = w6.heap.size + 1) w7 W)
         (fun c C pre W => c = .exit 2 ∧ rd = 0 ∧ (∀ k,C k ↔ k = w6.heap.size ∨ k = w6.heap.size + 1) ∧ Var W w6.heap.size (i64 pre.length) ∧ Var W (w6.heap.size + 1) (i64 (nx 0 pre)) ∧ Mod (fun k => k = w6.heap.size ∨ k = w6.heap.size + 1) w7 W)
         (fun k hk => ?_) (fun k hk => by omega) ?_ ?_ ⟨v10,v11,fun _ => Iff.rfl,Mod.refl _ _⟩ ?ρ ?ha ?_ ?_ ?_
       case ha =>
         intro l x W
         simp
         exact rfl
       · subst hk; exact ⟨by omega,by omega⟩
       · rintro C pre W W' ⟨h1,h2,h3,h4⟩ hag
         exact ⟨h1.agr hag (.inr ((h3 _).2 (.inl rfl))),h2.agr hag (.inr ((h3 _).2 (.inr rfl))),h3,h4.agr_old hag⟩
       · rintro c C pre W W' ⟨h0,h0',h3,h1,h2,h4⟩ hag
         exact ⟨h0,h0',h3,h1.agr hag (.inr ((h3 _).2 (.inl rfl))),h2.agr hag (.inr ((h3 _).2 (.inr rfl))),h4.agr_old hag⟩
       · rintro l C pre x W hsp ⟨h1,h2,h3,h4⟩ - - -
         obtain ⟨-,suf,hsuf⟩ := hsp
         rw [← hrows,List.append_assoc,List.singleton_append] at hsuf
         obtain ⟨n0,n1,n2,n3,n4,n5⟩ := lnsF_next rows 0 pre suf x hsuf
         simp only [Nat.zero_add,Nat.sub_zero] at n2 n3 n5
         have npl : pre.length < rows.length := by have := lnsF_len rows 0; rw [← hsuf] at this; simp at this; omega
         have D7 := D6.trans E7
         simp
         refine WC_loop (fun k ρ' ds W' => ∃ i : Nat, k = x.1 - i ∧ nx 0 pre ≤ i ∧ i ≤ x.1 ∧ ρ' 3 = ρ 3 ∧ ρ' 4 = ρ 4 ∧ ρ' 5 = ρ 5 ∧ ρ' 9 = ρ 9 ∧ ρ' 10 = ptr w6.heap.size ∧ ρ' 11 = ptr (w6.heap.size + 1) ∧ ρ' 12 = i64 x.1 ∧ ρ' 13 = tv x.2 ∧ ds = [] ∧ Var W' (w6.heap.size + 1) (i64 i) ∧ Pk.Mod (fun k => k = w6.heap.size + 1) W W') (x.1 - nx 0 pre)
           ⟨nx 0 pre,rfl,Nat.le_refl _,n1,by simp,by simp,by simp,by simp,by simp,by simp,by simp,by simp,rfl,h2,Mod.refl _ _⟩ ?_
         rintro k ρ' ds W' ⟨i,rfl,hi1,hi2,f3,f4,f5,f9,f10,f11,f12,f13,rfl,v11W,hM⟩
         have hMW : Mod (fun k => k = w6.heap.size ∨ k = w6.heap.size + 1) w7 W' := h4.trans (hM.weaken fun k h => .inr h)
         have v5W := (v56.ext E7).mod hMW (by omega)
         have ownW := own_keep (own_ext own6 E7) fun hn hl => hMW.blk _ hl (by have := own_lt own6 hn; omega)
         have slW := sl_of_own ownW
         have lnW' := fun ty W => slW.isLen (P := Tryz.prog) (t := 60) (by simp) ty W
         have hil : i < rows.length := by omega
         have ixW := fun i (hi : i < rows.length) => slW.index (P := Tryz.prog) (t := 60) (by simp) .i64 i (by omega) (by omega) W'
         have hil' : (i : Int) < rows.length := by omega
         have wi : IntKind.i64.wrap ((i : Int) + 1) = i + 1 := wrap64 _ (by omega) (by omega)
         by_cases hix : i < x.1
         · have hri := n5 i hi1 hix
           have cl := slW.at_ i (tv []) (by simp [hri])
           simp [f3,f4,f5,f9,f10,f11,f12,f13,e3,e4,e5,e9,v11W.cell,v11W.thaw,v5W.cell,lnW',hil',ixW i hil,cl,wi]
           have vn := v11W.set (i64 ((i : Int) + 1))
           refine ⟨x.1 - (i + 1),by omega,i + 1,rfl,by omega,by omega,vn,hM.setCell _ _ (.inl rfl)⟩
         · have hix' : i = x.1 := by omega
           subst hix'
           have cl := slW.at_ x.1 (tv x.2) (by simp [n3])
           have hE : x.2.isEmpty = false := by simpa using n4
           simp [f5,f11,f12,f13,e5,v11W.cell,v5W.cell,lnW',hil',ixW x.1 hil,cl,hE,show ¬ rows.length ≤ x.1 by omega]
           have wn := v11W.set (i64 ((x.1 : Int) + 1))
           have v10W := (h1.mod hM (by omega)).mod ((Mod.refl (fun k => k = w6.heap.size + 1) W').setCell ⟨w6.heap.size + 1,0,none⟩ (i64 ((x.1 : Int) + 1)) (.inl rfl)) (by omega)
           have v9W := (((v96.ext E7).mod hMW (by have := v96.lt; omega)).mod ((Mod.refl (fun k => k = w6.heap.size + 1) W').setCell ⟨w6.heap.size + 1,0,none⟩ (i64 ((x.1 : Int) + 1)) (.inl rfl)) (by have := v96.lt; omega))
           have M1 := (Mod.refl (fun k => k = w6.heap.size ∨ k = w6.heap.size + 1) W').setCell ⟨w6.heap.size + 1,0,none⟩ (i64 ((x.1 : Int) + 1)) (.inl (.inr rfl))
           have pl : IntKind.i64.wrap ((pre.length : Int) + 1) = pre.length + 1 := wrap64 _ (by omega) (by omega)
           simp [f9,f10,e9,v11W.thaw,wi,v10W.cell,v10W.thaw,pl]
           have x10 := v10W.set (i64 ((pre.length : Int) + 1))
           have N2 := (Mod.refl (fun k => k = w6.heap.size) (W'.setCell ⟨w6.heap.size + 1,0,none⟩ (i64 ((x.1 : Int) + 1)))).setCell ⟨w6.heap.size,0,none⟩ (i64 ((pre.length : Int) + 1)) (.inl rfl)
           have x11 := wn.mod N2 (by omega)
           have MM := (hMW.trans M1).trans (N2.weaken fun k h => .inl h)
           have MW := (hM.weaken fun k h => (h3 k).2 (.inr h)).trans ((M1.trans (N2.weaken fun k h => .inl h)).weaken fun k h => (h3 k).2 h)
           have x9 := (v96.ext E7).mod MM (by have := v96.lt; omega)
           have x3 := (v36.ext E7).mod MM (by omega)
           generalize ((W'.setCell ⟨w6.heap.size + 1,0,none⟩ (i64 ((x.1 : Int) + 1))).setCell ⟨w6.heap.size,0,none⟩ (i64 ((pre.length : Int) + 1))) = W3 at *
           have hnx : ((nx 0 (pre ++ [x]) : Nat) : Int) = (x.1 : Int) + 1 := by rw [nx_snoc]; omega
           by_cases hz : rd = 0
           · subst hz
             by_cases hst : n ≤ (pre.length : Int) + 1
             · simp [f3,f10,e3,x9.cell,x3.cell,x10.cell,hst,hnx]
               exact ⟨C,⟨h3,x10,x11,MM⟩,Own.of_mod MW⟩
             · simp [f3,f10,e3,x9.cell,x3.cell,x10.cell,hst,hnx]
               exact ⟨C,⟨x10,x11,h3,MM⟩,Own.of_mod MW⟩
           · have hz' : ¬ (rd : Int) = 0 := by omega
             simp [x9.cell,hz,hnx]
             exact ⟨C,⟨x10,x11,h3,MM⟩,Own.of_mod MW⟩
       · rintro C xs W rfl ⟨h1,h2,h3,h4⟩ hD
         have hX := ((E7.mod (S := fun k => w6.heap.size ≤ k)).trans (h4.weaken fun k hk => by omega)).ext fun _ h => h
         have v9W := v96.ext hX
         have v5W := v56.ext hX
         rw [← hrows] at h2
         obtain ⟨-,n1,n2⟩ := lnsF_end rows 0
         simp only [Nat.zero_add,Nat.sub_zero] at n1 n2
         have slW0 := sl_of_own (own_ext own6 hX)
         by_cases hz : rd = 0
         · have hne : ¬ (rd : Int) = 1 := by omega
           simp
           refine WC_loop (fun k ρ' ds W' => (ρ' 3 = ρ 3 ∧ ρ' 4 = ρ 4 ∧ ρ' 5 = ρ 5 ∧ ρ' 6 = ρ 6 ∧ ρ' 7 = ρ 7 ∧ ρ' 8 = ρ 8 ∧ ρ' 9 = ρ 9 ∧ ρ' 10 = ptr w6.heap.size) ∧ ds = { target := .collected w7.heap.size,args := #[] } :: Ds.map dmark ∧ W' = W) 0 ⟨by simp,rfl,rfl⟩ ?_
           rintro k ρ' ds W' ⟨⟨f3,f4,f5,f6,f7,f8,f9,f10⟩,rfl,rfl⟩
           have hs1 := h1.set (i64 0)
           have hM1 := Mod.setCell (S := fun k => k = w6.heap.size) (Mod.refl _ W') ⟨w6.heap.size,0,none⟩ (i64 0) (.inl rfl)
           simp [f8,f9,f10,e8,e9,v9W.cell,h1.cell,h1.thaw,hne]
           refine tail _ _ ?_ hs1 ((hX.mod.trans (hM1.weaken (S' := fun k => w6.heap.size ≤ k) fun k hk => by omega)).ext fun _ h => h) ((hM1.blk _ (Array.getElem?_eq_some_iff.1 hD).1 (by omega)).trans hD)
           simp [f3,f4,f5,f6,f7,f8,f9,f10,e3,e4,e5,e6,e7,e8,e9]
         · have hz1 : (rd : Int) = 1 := by omega
           simp
           refine WC_loop (fun k ρ' ds W' => ∃ i : Nat,k = rows.length - i ∧ nx 0 (lnsF 0 rows) ≤ i ∧ i ≤ rows.length ∧ (ρ' 3 = ρ 3 ∧ ρ' 4 = ρ 4 ∧ ρ' 5 = ρ 5 ∧ ρ' 6 = ρ 6 ∧ ρ' 7 = ρ 7 ∧ ρ' 8 = ρ 8 ∧ ρ' 9 = ρ 9 ∧ ρ' 10 = ptr w6.heap.size ∧ ρ' 11 = ptr (w6.heap.size + 1)) ∧ ds = { target := .collected w7.heap.size,args := #[] } :: Ds.map dmark ∧ Var W' (w6.heap.size + 1) (i64 i) ∧ Pk.Mod (fun k => k = w6.heap.size + 1) W W') (rows.length - nx 0 (lnsF 0 rows)) ⟨_,rfl,Nat.le_refl _,n1,by simp,rfl,h2,Mod.refl _ _⟩ ?_
           rintro k ρ' ds W' ⟨i,rfl,hi1,hi2,⟨f3,f4,f5,f6,f7,f8,f9,f10,f11⟩,rfl,v11W,hM⟩
           have hXM : Ext w6 W' := (hX.mod.trans (hM.weaken (S' := fun k => w6.heap.size ≤ k) fun k hk => by omega)).ext fun _ h => h
           have v9W := v96.ext hXM
           have v5W := v56.ext hXM
           have v10W := h1.mod hM (by omega)
           have slW := sl_of_own (own_ext own6 hXM)
           have lnW' := fun ty W => slW.isLen (P := Tryz.prog) (t := 60) (by simp) ty W
           by_cases hil : i < rows.length
           · have hil' : (i : Int) < rows.length := by omega
             have ixW := slW.index (P := Tryz.prog) (t := 60) (by simp) .i64 i (by omega) (by omega) W'
             have wi : IntKind.i64.wrap ((i : Int) + 1) = i + 1 := wrap64 _ (by omega) (by omega)
             have cl := slW.at_ i (tv []) (by simp [n2 i hi1 hil])
             simp [f3,f4,f5,f6,f7,f8,f9,f10,e3,e4,e5,e6,e7,e8,e9,f11,v9W.cell,v5W.cell,v11W.cell,v11W.thaw,hz1,lnW',hil',ixW,cl,wi]
             exact ⟨rows.length - (i + 1),by omega,i + 1,rfl,by omega,by omega,v11W.set _,hM.setCell _ _ (.inl rfl)⟩
           · have hil' : ¬ (i : Int) < rows.length := by omega
             have hs1 := v10W.set (i64 0)
             have hM1 := Mod.setCell (S := fun k => k = w6.heap.size) (Mod.refl _ W') ⟨w6.heap.size,0,none⟩ (i64 0) (.inl rfl)
             have hD' := (hM.blk _ (Array.getElem?_eq_some_iff.1 hD).1 (by omega)).trans hD
             simp [f5,f8,f9,f10,e5,e8,e9,f11,v9W.cell,v5W.cell,v11W.cell,hz1,lnW',hil',v10W.cell,v10W.thaw]
             refine tail _ _ ?_ hs1 ((hXM.mod.trans (hM1.weaken (S' := fun k => w6.heap.size ≤ k) fun k hk => by omega)).ext fun _ h => h) ((hM1.blk _ (Array.getElem?_eq_some_iff.1 hD').1 (by omega)).trans hD')
             simp [f3,f4,f5,f6,f7,f8,f9,f10,e3,e4,e5,e6,e7,e8,e9]
       · rintro c C pre W hsp ⟨rfl,h0,h3,h1,h2,h4⟩ hD
         have hX := ((E7.mod (S := fun k => w6.heap.size ≤ k)).trans (h4.weaken fun k hk => by omega)).ext fun _ h => h
         have v9W := v96.ext hX
         have hne : ¬ (rd : Int) = 1 := by omega
         rw [QC_exit]
         simp
         refine WC_loop (fun k ρ' ds W' => (ρ' 3 = ρ 3 ∧ ρ' 4 = ρ 4 ∧ ρ' 5 = ρ 5 ∧ ρ' 6 = ρ 6 ∧ ρ' 7 = ρ 7 ∧ ρ' 8 = ρ 8 ∧ ρ' 9 = ρ 9 ∧ ρ' 10 = ptr w6.heap.size) ∧ ds = { target := .collected w7.heap.size,args := #[] } :: Ds.map dmark ∧ W' = W) 0 ⟨by simp,rfl,rfl⟩ ?_
         rintro k ρ' ds W' ⟨⟨f3,f4,f5,f6,f7,f8,f9,f10⟩,rfl,rfl⟩
         have hs1 := h1.set (i64 0)
         have hM1 := Mod.setCell (S := fun k => k = w6.heap.size) (Mod.refl _ W') ⟨w6.heap.size,0,none⟩ (i64 0) (.inl rfl)
         simp [f8,f9,f10,e8,e9,v9W.cell,h1.cell,h1.thaw,hne]
         refine tail _ _ ?_ hs1 ((hX.mod.trans (hM1.weaken (S' := fun k => w6.heap.size ≤ k) fun k hk => by omega)).ext fun _ h => h) ((hM1.blk _ (Array.getElem?_eq_some_iff.1 hD).1 (by omega)).trans hD)
         simp [f3,f4,f5,f6,f7,f8,f9,f10,e3,e4,e5,e6,e7,e8,e9]
      case jn =>
        rintro σ W ⟨e3,e4,e5,e6,e7,e8,e9,e10,e94⟩ v10W hX hD
        have hzD := (Array.getElem?_eq_some_iff.1 hD).1
        have hwl : wordsW.length = 17 := rfl
        have fin : ∀ (W1 : World) (v : Int), v = rd + 1 → Pk.Mod (fun k => k = w6.heap.size) W W1 → W1.heap[W.heap.size]? = some (.deferred (some [])) → ∃ m', m' < 2 - rd ∧ ∃ rd' : Nat, m' = 2 - rd' ∧ rd' ≤ 2 ∧ Var (W1.alloc (.cells #[.int .i64 v] 3)) W1.heap.size (i64 rd') ∧ w4.heap.size ≤ W1.heap.size ∧
            ∃ x,{ target := .collected W.heap.size,args := #[] } :: { target := .collected w7.heap.size,args := #[] } :: List.map dmark Ds = List.map dmark x ∧ x.Nodup ∧ (∀ D,D ∈ x → w4.heap.size ≤ D ∧ W1.heap[D]? = some (.deferred (some []))) ∧ Ext w4 (W1.alloc (.cells #[.int .i64 v] 3)) := by
          rintro W1 v rfl hM hD1
          have M6 : Pk.Mod (fun k => w6.heap.size ≤ k) w6 W1 := (hX.mod).trans (hM.weaken fun k hk => by omega)
          have X1 := M6.ext fun _ h => h
          have z1 := X1.size
          have zX := hX.size
          refine ⟨2 - (rd + 1), by omega, rd + 1, rfl, by omega, ?_, by omega, W.heap.size :: w7.heap.size :: Ds, rfl, ?_, ?_, (E6.trans X1).alloc _⟩
          · have := Var.new W1 (.int .i64 ((rd : Int) + 1)) 3
            simpa using this
          · have hl : ∀ D ∈ Ds,D < w6.heap.size := fun D h => (Array.getElem?_eq_some_iff.1 (hDs D h).2).1
            refine List.nodup_cons.2 ⟨fun h => ?_, List.nodup_cons.2 ⟨fun h => ?_, hnd⟩⟩
            · rcases List.mem_cons.1 h with h | h
              · omega
              · have := hl _ h; omega
            · have := hl _ h; omega
          · intro D h
            rcases List.mem_cons.1 h with rfl | h
            · exact ⟨by omega,hD1⟩
            rcases List.mem_cons.1 h with rfl | h
            · exact ⟨by omega,(hM.blk _ hzD (by omega)).trans hD⟩
            · obtain ⟨g,hd⟩ := hDs D h
              exact ⟨g,(X1.blk D (Array.getElem?_eq_some_iff.1 hd).1).trans hd⟩
        have hw1 : IntKind.i64.wrap 1 = 1 := by decide
        have hw2 : IntKind.i64.wrap 2 = 2 := by decide
        refine WC_rangeFunc (gf := 41) (first := #[]) (caps := #[]) (enc := fun (x : Tx) => [tv x]) (by simp [e94]) (fun _ _ => callFunc_enter Tryz.func41 rfl rfl _ _) (words_it W) (fun x => rfl) (fun k => k = w6.heap.size)
          (fun C pre W' => Var W' w6.heap.size (i64 pre.length) ∧ (∀ k,C k ↔ k = w6.heap.size) ∧ Pk.Mod (fun k => k = w6.heap.size) W W' ∧ (rd = 0 → pre ≠ [] → (pre.length : Int) < n))
          (fun cd C pre W' => cd = .exit 8 ∧ rd = 0 ∧ Var W' w6.heap.size (i64 pre.length) ∧ (∀ k,C k ↔ k = w6.heap.size) ∧ Pk.Mod (fun k => k = w6.heap.size) W W' ∧ n ≤ pre.length ∧ ((pre.length : Int) - 1 < n ∨ pre.length = 1))
          (fun k hk => hk.elim) (fun k hk => by subst hk; exact v10W.lt) ?_ ?_ ⟨v10W,fun _ => Iff.rfl,Mod.refl _ _,fun _ h => (h rfl).elim⟩ ?ρ2 ?ha2 ?_ ?_ ?_
        case ha2 =>
          intro l x W
          simp
          exact rfl
        · rintro C pre W W' ⟨h1,h5,h6,h7⟩ hag
          exact ⟨h1.agr hag (.inr ((h5 _).2 rfl)),h5,h6.agr_old hag,h7⟩
        · rintro cd C pre W W' ⟨h0,ht0,h1,h5,h6,h7,h8⟩ hag
          exact ⟨h0,ht0,h1.agr hag (.inr ((h5 _).2 rfl)),h5,h6.agr_old hag,h7,h8⟩
        · rintro l C pre x W1 hsp ⟨h1,h5,h6,h7⟩ - - -
          obtain ⟨_,suf,hsuf⟩ := hsp
          have hxq : wordsW[pre.length]? = some x := by rw [← hsuf]; simp
          have hpl : pre.length < 17 := by have := congrArg List.length hsuf; rw [hwl] at this; simp at this; omega
          have M6 : Pk.Mod (fun k => w6.heap.size ≤ k) w6 W1 := (hX.mod).trans (h6.weaken fun k hk => by omega)
          have X1 := M6.ext fun _ h => h
          have v6W := v66.ext X1
          have v9W := v96.ext X1
          have v3W := v36.ext X1
          have swW := sw6.ext X1
          have d1 := swW.at_ pre.length (tv x) (by rw [List.getElem?_map,hxq]; rfl)
          have ix := fun W => swW.index (P := Tryz.prog) (t := 60) (by simp) .i64 pre.length (by omega) (by omega) W
          have ln := fun ty W => swW.isLen (P := Tryz.prog) (t := 60) (by simp) ty W
          have wq : IntKind.i64.wrap ((pre.length : Int) + 1) = pre.length + 1 := wrap64 _ (by omega) (by omega)
          have hnl : ¬ (17 : Int) ≤ pre.length := by omega
          simp at ix d1 ln
          have hs := h1.set (i64 ((pre.length : Int) + 1))
          have hM1 := Mod.setCell (S := fun k => k = w6.heap.size) (Mod.refl _ W1) ⟨w6.heap.size,0,none⟩ (i64 ((pre.length : Int) + 1)) (.inl rfl)
          have X3 := (M6.trans (hM1.weaken fun k hk => by omega)).ext fun _ h => h
          have v9c := v96.ext X3
          have v3c := v36.ext X3
          have hMC := h6.trans hM1
          have hOw : Own C C W1 (W1.setCell ⟨w6.heap.size,0,none⟩ (i64 ((pre.length : Int) + 1))) := Own.of_mod (hM1.weaken fun k hk => (h5 k).2 hk)
          simp [e6,e9,e10,h1.cell,h1.thaw,v6W.cell,hnl,ix,d1,wq]
          generalize (W1.setCell ⟨w6.heap.size,0,none⟩ (i64 ((pre.length : Int) + 1))) = W2 at *
          by_cases hz : rd = 0
          · have hz0 : (rd : Int) = 0 := by omega
            by_cases hst : n ≤ (pre.length : Int) + 1
            · simp [e3,e10,v9c.cell,v3c.cell,hs.cell,hz0,hst]
              refine ⟨C,⟨hz,hs,h5,hMC,?_⟩,hOw⟩
              by_cases hp : pre = []
              · exact .inr hp
              · exact .inl (h7 hz hp)
            · simp [e3,e10,v9c.cell,v3c.cell,hs.cell,hz0,hst]
              exact ⟨C,⟨hs,h5,hMC,fun _ => by omega⟩,hOw⟩
          · simp [v9c.cell,hz]
            exact ⟨C,⟨hs,h5,hMC⟩,hOw⟩
        · rintro C _ W1 rfl ⟨h1,h5,h6,h7⟩ hD1
          have M6 : Pk.Mod (fun k => w6.heap.size ≤ k) w6 W1 := (hX.mod).trans (h6.weaken fun k hk => by omega)
          have X1 := M6.ext fun _ h => h
          have v6W := v66.ext X1
          have v9W := v96.ext X1
          have v3W := v36.ext X1
          have swW := sw6.ext X1
          have ln := fun ty W => swW.isLen (P := Tryz.prog) (t := 60) (by simp) ty W
          simp at ln
          rw [hwl] at h1 h7
          have wr : IntKind.i64.wrap ((rd : Int) + 1) = rd + 1 := wrap64 _ (by omega) (by omega)
          by_cases hz : rd = 0
          · have hz0 : (rd : Int) = 0 := by omega
            have hm : (17 : Int) = min 17 (max 1 n) := by have := h7 hz (by simp [wordsW]); omega
            simp [e3,e4,e5,e6,e7,e8,e9,e10,v6W.cell,v9W.cell,v3W.cell,h1.cell,hz0,← hm,hw1]
            exact fin W1 1 (by omega) h6 hD1
          · have hz1 : (rd : Int) = 1 := by omega
            simp [e3,e4,e5,e6,e7,e8,e9,e10,v6W.cell,v9W.cell,h1.cell,hz1,hw2]
            exact fin W1 2 (by omega) h6 hD1
        · rintro cd C pre W1 ⟨hne,suf,hsuf⟩ ⟨rfl,hz,h1,h5,h6,h7,h8⟩ hD1
          have M6 : Pk.Mod (fun k => w6.heap.size ≤ k) w6 W1 := (hX.mod).trans (h6.weaken fun k hk => by omega)
          have X1 := M6.ext fun _ h => h
          have v6W := v66.ext X1
          have v9W := v96.ext X1
          have v3W := v36.ext X1
          have swW := sw6.ext X1
          have ln := fun ty W => swW.isLen (P := Tryz.prog) (t := 60) (by simp) ty W
          simp at ln
          have hpl : pre.length ≤ 17 := by have := congrArg List.length hsuf; rw [hwl] at this; simp at this; omega
          have hp0 := List.length_pos_iff.2 hne
          have hz0 : (rd : Int) = 0 := by omega
          have hm : (pre.length : Int) = min 17 (max 1 n) := by omega
          rw [QC_exit]
          simp [e3,e4,e5,e6,e7,e8,e9,e10,v6W.cell,v9W.cell,v3W.cell,h1.cell,hz0,← hm,hw1]
          exact fin W1 1 (by omega) h6 hD1
    · have hlt' : ¬ (rd : Int) < 2 := by omega
      simp [e9,v96.cell,hlt']
      refine FN.mono (works_c (hG.ext D6) (by omega)) ?_
      rintro _ w7 ⟨rfl,E7⟩
      have v47 := v46.ext E7
      simp [e4,v47.cell,v47.thaw]
      have hM := Mod.setCell (S := fun k => w.heap.size ≤ k) (((D6.trans E7).mod)) ⟨w.heap.size + 1,0,none⟩ (.bool true) (.inl (Nat.le_succ _))
      have v48 := v47.set (.bool true)
      have hD8 : ∀ D ∈ Ds, (w7.setCell ⟨w.heap.size + 1, 0, none⟩ (.bool true)).heap[D]? = some (.deferred (some [])) := fun D hD => by
        obtain ⟨g,h⟩ := hDs D hD
        have hl : D < w6.heap.size := (Array.getElem?_eq_some_iff.1 h).1
        have h7 := (E7.blk D hl).trans h
        have hm := Mod.setCell (S := fun k => k = w.heap.size + 1) (Mod.refl _ w7) ⟨w.heap.size + 1,0,none⟩ (.bool true) (.inl rfl)
        exact (hm.blk D (by have := E7.size; omega) (by omega)).trans h7
      refine LV_marks Ds _ hnd hD8 fun w9 hM9 => ?_
      have v49 := v48.mod hM9 (fun h => by have := (hDs _ h).1; have := D3.size; omega)
      simp [e4,v49.cell]
      exact (hM.trans (hM9.weaken fun D hD => by have := (hDs _ hD).1; have := D3.size; omega)).ext fun _ h => h
end Go.Proofs
