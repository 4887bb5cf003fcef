/-
 Contracts of the functions that the law reaches,step by step.
-/
import Derived.Test.YtdgkfilajbnhgaaGreatGeP
namespace Go.Proofs
open Pk
set_option maxRecDepth 10000
theorem addL_cons (a : Ct) (l : List Ct) (c : Ct) : addL (a :: l) c = if aheadP a c then a :: addL l c else c :: a :: l := by
 unfold addL kOf
 rw [List.takeWhile_cons]
 by_cases h : aheadP a c
 ·simp [h]
 ·simp [h]
theorem addL_mem {l : List Ct} {c x : Ct} (h : x ∈ addL l c) : x = c ∨ x ∈ l := by
 unfold addL at h
 rcases List.mem_append.1 h with h | h
 ·exact .inr (List.mem_of_mem_take h)
 ·rcases List.mem_cons.1 h with h | h
  ·exact .inl h
  ·exact .inr (List.mem_of_mem_drop h)
theorem no_same {l : List Ct} {c x : Ct} (hx : x ∈ l) (hr : ctRight x = true) (hc : ctRight c = true) (hcl : clash l c = false) : aheadP x c ∨ aheadP c x := by
 have h1 := ctRight_is hr
 have h2 := ctRight_is hc
 by_cases hk : x.fr = c.fr ∧ x.to' = c.to' ∧ x.sf = c.sf
 ·exfalso
  unfold clash at hcl
  rw [List.any_eq_false] at hcl
  refine hcl x hx ?_
  have o1 : spOk ⟨x.sf,x.su⟩ = true := by unfold spOk; simp; omega
  have o2 : spOk ⟨c.sf,c.su⟩ = true := by unfold spOk; simp; omega
  unfold betP bothB
  simp only
  rw [o1,o2]
  simp
  omega
 ·unfold aheadP
  omega
theorem addL_sorted : ∀ {l : List Ct} {c : Ct}, l.Pairwise aheadP → (∀ x ∈ l, aheadP x c ∨ aheadP c x) → (addL l c).Pairwise aheadP
 | [],c,_,_ => by simp [addL]
 | a :: l, c, hs, hn => by
  obtain ⟨h1,h2⟩ := List.pairwise_cons.1 hs
  rw [addL_cons]
  split
  ·rename_i ha
   refine List.pairwise_cons.2 ⟨fun x hx => ?_,addL_sorted h2 fun x hx => hn x (by simp [hx])⟩
   rcases addL_mem hx with rfl | hx
   ·exact ha
   ·exact h1 x hx
  ·rename_i ha
   have hca : aheadP c a := by
    rcases hn a (by simp) with h | h
    ·exact (ha h).elim
    ·exact h
   refine List.pairwise_cons.2 ⟨fun x hx => ?_,hs⟩
   rcases List.mem_cons.1 hx with rfl | hx
   ·exact hca
   ·have := h1 x hx
    unfold aheadP at hca this ⊢
    omega
theorem sl_lenEq {w w' : World} {s n n' : Nat} {v : Value} {cs cs' : List Value} (h : Sl w s v n cs) (h' : Sl w' s v n' cs') : n = n' := by
 obtain ⟨a,c,h1⟩ := h.isSlice
 obtain ⟨a',c',h2⟩ := h'.isSlice
 rw [h1] at h2
 cases h2
 rfl
theorem row_off {w w' : World} {s n n' B1 : Nat} {v v' : Value} {cs cs' : List Value} (h : Sl w s v n cs) (h' : Sl w' s v' n' cs') (ho : n ≠ 0 → B1 ≤ slB v) (hb : B1 ≤ w.heap.size) (hv : v' = .slice none 0 0 ∨ v' = v ∨ w.heap.size ≤ slB v') : n' ≠ 0 → B1 ≤ slB v' := by
 intro hn
 rcases hv with rfl | rfl | hv
 ·obtain ⟨a',c',h2⟩ := h'.isSlice
  cases h2
  exact (hn rfl).elim
 ·exact ho (by rw [sl_lenEq h h']; exact hn)
 ·omega
theorem len_ne {α : Type} {l : List α} : l ≠ [] ↔ l.length ≠ 0 := by cases l <;> simp
structure SetOk (w : World) (vP vS vB : Value) (P : List Ct) (S : List St) (B : List LR) : Prop where
 p : SlB w 5 vP P.length (P.flatMap ctC)
 s : SlB w 4 vS S.length (S.flatMap stCells)
 b : SlB w 6 vB B.length (B.flatMap vrC)
 op : ∀ c ∈ P,CtOk c
 os : ∀ s ∈ S,StOk s
 ob : ∀ x ∈ B,CtOk x.1 ∧ 0 ≤ x.2
 lp : P.length ≤ 14
 ls : S.length ≤ 14
 lb : B.length ≤ 14
abbrev seV (vP vS vB : Value) : Value := .agg #[vP,vS,vB]
structure LOk (l : List Ct) : Prop where
 ok : ∀ c ∈ l,CtOk c
 ri : ∀ c ∈ l,ctRight c = true
 so : l.Pairwise aheadP
theorem LOk.add {l : List Ct} (h : LOk l) {c : Ct} (hc : CtOk c) : LOk (if addE l c = 0 then addL l c else l) := by
 split
 ·rename_i h0
  unfold addE at h0
  split at h0
  ·omega
  ·rename_i hr
   have hr : ctRight c = true := by simpa using hr
   split at h0
   ·omega
   ·rename_i hcl
    refine ⟨fun x hx => ?_, fun x hx => ?_, addL_sorted h.so fun x hx => no_same hx (h.ri x hx) hr (by simpa using hcl)⟩
    ·rcases addL_mem hx with rfl | hx
     ·exact hc
     ·exact h.ok x hx
    ·rcases addL_mem hx with rfl | hx
     ·exact hr
     ·exact h.ri x hx
 ·exact h
def nxL (l : List Ct) (c : Ct) : List Ct := if addE l c = 0 then addL l c else l
theorem nxL_len (l : List Ct) (c : Ct) : (nxL l c).length ≤ l.length + 1 := by
 unfold nxL
 split
 ·rw [addL_len]; omega
 ·omega
theorem rsetL_len (l : List St) (s : St) : (rsetL l s).length ≤ l.length + 1 := by
 unfold rsetL
 split
 ·omega
 ·split
  ·simp
  ·split
   ·omega
   ·simp
structure Made (w : World) (g : Nat) (vp vt vl : Value) (P : List Ct) (S : List St) (B : List LR) (L : List Ct) (M : ME) (m : VM) : Prop where
 g : ∃ p v t R q r,GrAt w g p v L t R M q r m
 d : ∃ ll,DGr w vp vt vl L (S.foldl rsetL []) ll M m
 eL : L = P.foldl nxL []
 eM : m = B.foldl (fun m x => bookM m x.1 x.2) []
 gd : gdT M
 sl : ∀ p,(sps M p).length ≤ 255
 so : LOk L
theorem knum_c (n : Int) (w : World) : FN Tryz.prog 12 [i64 n] w fun e w' => e = .returned (i64 n) ∧ w' = w := by
 refine FN_enter Tryz.func12 rfl rfl (by kernel_rfl) ?_
 simp
def MadeE (w' : World) (P : List Ct) (S : List St) (B : List LR) (e : Ending) : Prop := ∃ g vp vt vl L M m,e = .returned (.tuple #[ptr g,dgV vp vt vl,.bool true]) ∧ Made w' g vp vt vl P S B L M m ∧ L.length ≤ P.length
def MEnv (ρ : Env) (A p t q A1 A2 A3 : Nat) : Prop := ρ 1 = ptr A ∧ ρ 3 = ptr (A + 1) ∧ ρ 5 = ptr p ∧ ρ 6 = ptr t ∧ ρ 7 = ptr q ∧ ρ 8 = ptr A1 ∧ ρ 9 = ptr A2 ∧ ρ 10 = ptr A3
def MadeI1 (p t R q r A1 A2 A3 B1 A : Nat) (P : List Ct) (w0 : World) (k : Nat) (ρ : Env) (ds : List Deferred) (W : World) : Prop :=
 ∃ (i : Nat) (v vp : Value) (l : List Ct),(k = P.length - i ∧ i ≤ P.length) ∧ MI p t R q r A1 A2 A3 B1 W v vp (.slice none 0 0) (.slice none 0 0) l l [] [] [] [] ∧ LOk l ∧ (l.length ≤ i ∧ l = (P.take i).foldl nxL []) ∧ Ext w0 W ∧ MEnv ρ A p t q A1 A2 A3 ∧ ρ 11 = i64 i ∧ ds = []
def MadeI2 (p t R q r A1 A2 A3 B1 A : Nat) (v vp : Value) (l : List Ct) (S : List St) (w0 : World) (k : Nat) (ρ : Env) (ds : List Deferred) (W : World) : Prop :=
 ∃ (i : Nat) (vt : Value) (M : ME) (sl : List St),(k = S.length - i ∧ i ≤ S.length) ∧ MI p t R q r A1 A2 A3 B1 W v vp vt (.slice none 0 0) l l M sl [] [] ∧ RelT M sl ∧ (sl.length ≤ i ∧ sl = (S.take i).foldl rsetL []) ∧ Ext w0 W ∧ MEnv ρ A p t q A1 A2 A3 ∧ ρ 12 = i64 i ∧ ds = []
def MadeI3 (p t R q r A1 A2 A3 B1 A : Nat) (v vp vt : Value) (l : List Ct) (M : ME) (sl : List St) (B : List LR) (w0 : World) (k : Nat) (ρ : Env) (ds : List Deferred) (W : World) : Prop :=
 ∃ (i : Nat) (vl : Value) (m : VM) (ll : List LR),(k = B.length - i ∧ i ≤ B.length) ∧ MI p t R q r A1 A2 A3 B1 W v vp vt vl l l M sl m ll ∧ RelL m ll ∧ vmOk m ∧ (ll.length ≤ i ∧ m = (B.take i).foldl (fun m x => bookM m x.1 x.2) []) ∧ Ext w0 W ∧ MEnv ρ A p t q A1 A2 A3 ∧ ρ 13 = i64 i ∧ ds = []
set_option maxHeartbeats 4000000 in
theorem made_c {w : World} {vP vS vB : Value} {P : List Ct} {S : List St} {B : List LR} (h : SetOk w vP vS vB P S B) :
  FN Tryz.prog 9 [seV vP vS vB] w fun e w' => MadeE w' P S B e ∧ Ext w w' := by
 refine FN_enter Tryz.func9 rfl rfl (by kernel_rfl) ?_
 obtain ⟨pa,pc,hvP⟩ := h.p.isSlice
 obtain ⟨sa,sc,hvS⟩ := h.s.isSlice
 obtain ⟨ba,bc,hvB⟩ := h.b.isSlice
 have hE : Ext w ((w.alloc (.cells #[vP,vS,vB] 26)).alloc (.cells #[.slice none 0 0,.slice none 0 0,.slice none 0 0] 42)) := ((Ext.refl w).alloc _).alloc _
 have bS : Blk ((w.alloc (.cells #[vP,vS,vB] 26)).alloc (.cells #[.slice none 0 0,.slice none 0 0,.slice none 0 0] 42)) w.heap.size [vP,vS,vB] := (Blk.new w [vP,vS,vB] 26).ext ((Ext.refl _).alloc _)
 have bG : Blk ((w.alloc (.cells #[vP, vS, vB] 26)).alloc (.cells #[.slice none 0 0, .slice none 0 0, .slice none 0 0] 42)) (w.heap.size + 1) [.slice none 0 0, .slice none 0 0, .slice none 0 0] := by
  have := Blk.new (w.alloc (.cells #[vP,vS,vB] 26)) [.slice none 0 0,.slice none 0 0,.slice none 0 0] 42
  simpa using this
 have hsz : ((w.alloc (.cells #[vP,vS,vB] 26)).alloc (.cells #[.slice none 0 0,.slice none 0 0,.slice none 0 0] 42)).heap.size = w.heap.size + 2 := by simp
 rw [hvP,hvS,hvB] at hE bS bG hsz
 rw [hvP,hvS,hvB]
 simp
 rw [← hvP,← hvS,← hvB] at hE bS bG hsz ⊢
 generalize ((w.alloc (.cells #[vP,vS,vB] 26)).alloc (.cells #[.slice none 0 0,.slice none 0 0,.slice none 0 0] 42)) = w0 at *
 refine FN.mono (cnew_c w0) ?_
 rintro _ w1 ⟨p,rfl,hP1,hE1,z1⟩
 simp
 refine FN.mono (new_c w1) ?_
 rintro _ w2 ⟨t,R,rfl,hT2,hE2,z2,z2'⟩
 simp
 refine FN.mono (vnew_c w2) ?_
 rintro _ w3 ⟨q,r,rfl,hL3,hE3,z3,z3'⟩
 have e4 : Ext w3 (((w3.alloc (.cells #[.slice none 0 0] 35)).alloc (.cells #[.slice none 0 0] 37)).alloc (.cells #[.slice none 0 0] 40)) := (((Ext.refl w3).alloc _).alloc _).alloc _
 have k1 : Blk (((w3.alloc (.cells #[.slice none 0 0] 35)).alloc (.cells #[.slice none 0 0] 37)).alloc (.cells #[.slice none 0 0] 40)) w3.heap.size [.slice none 0 0] := (Blk.new w3 [.slice none 0 0] 35).ext (((Ext.refl _).alloc _).alloc _)
 have k2 : Blk (((w3.alloc (.cells #[.slice none 0 0] 35)).alloc (.cells #[.slice none 0 0] 37)).alloc (.cells #[.slice none 0 0] 40)) (w3.heap.size + 1) [.slice none 0 0] := by
  have := (Blk.new (w3.alloc (.cells #[.slice none 0 0] 35)) [.slice none 0 0] 37).ext ((Ext.refl _).alloc (.cells #[.slice none 0 0] 40))
  simpa using this
 have k3 : Blk (((w3.alloc (.cells #[.slice none 0 0] 35)).alloc (.cells #[.slice none 0 0] 37)).alloc (.cells #[.slice none 0 0] 40)) (w3.heap.size + 1 + 1) [.slice none 0 0] := by
  have := Blk.new ((w3.alloc (.cells #[.slice none 0 0] 35)).alloc (.cells #[.slice none 0 0] 37)) [.slice none 0 0] 40
  simpa using this
 have zb : (((w3.alloc (.cells #[.slice none 0 0] 35)).alloc (.cells #[.slice none 0 0] 37)).alloc (.cells #[.slice none 0 0] 40)).heap.size = w3.heap.size + 1 + 1 + 1 := by simp
 simp
 obtain ⟨A1,hA1⟩ : ∃ a,a = w3.heap.size := ⟨_,rfl⟩
 obtain ⟨A2,hA2⟩ : ∃ a,a = w3.heap.size + 1 := ⟨_,rfl⟩
 obtain ⟨A3,hA3⟩ : ∃ a,a = w3.heap.size + 1 + 1 := ⟨_,rfl⟩
 obtain ⟨B1,hB1⟩ : ∃ a,a = w3.heap.size + 1 + 1 + 1 := ⟨_,rfl⟩
 rw [← hA1] at k1
 rw [← hA2] at k2
 rw [← hA3] at k3
 rw [← hA3,← hA2,← hA1]
 generalize (((w3.alloc (.cells #[.slice none 0 0] 35)).alloc (.cells #[.slice none 0 0] 37)).alloc (.cells #[.slice none 0 0] 40)) = w4 at *
 have hp1 := hP1.lt
 have ht2 := hT2.lt t (.inl rfl)
 have hR2 := hT2.lt R (.inr (.inl rfl))
 have hq3 := hL3.lt
 have hoff := hL3.off
 have htR : t ≠ R := fun e => cell_map hT2.cell hT2.map e
 have N : Pl p t R q r A1 A2 A3 B1 := ⟨by omega,by omega,by omega,by omega,by omega,by omega,htR,fun e => hoff e.symm,by omega,by omega,by omega,by omega,by omega⟩
 have hI0 : MI p t R q r A1 A2 A3 B1 w4 (.slice none 0 0) (.slice none 0 0) (.slice none 0 0) (.slice none 0 0) [] [] [] [] [] [] :=
  ⟨hP1.ext ((hE2.trans hE3).trans e4), hT2.ext (hE3.trans e4), hL3.ext e4, k1, k2, k3, Sl.nil _ _ _, Sl.nil _ _ _, Sl.nil _ _ _, fun h => (h rfl).elim, fun h => (h rfl).elim, fun h => (h rfl).elim, fun h => (h rfl).elim, fun k hk => by
   rcases hk with hk | hk | ⟨x, hx, -⟩
   ·exact .inl hk
   ·exact .inr (.inl hk)
   ·cases hx⟩
 have hX04 : Ext w0 w4 := ((hE1.trans hE2).trans hE3).trans e4
 have hlP := h.lp
 have hlS := h.ls
 have hlB := h.lb
 have hlenP := fun ty W => h.p.isLen (P := Tryz.prog) (t := 22) (by simp) ty W
 have hlenS := fun ty W => h.s.isLen (P := Tryz.prog) (t := 23) (by simp) ty W
 have hlenB := fun ty W => h.b.isLen (P := Tryz.prog) (t := 24) (by simp) ty W
 have nw : ∀ i : Nat,i ≤ 14 → IntKind.i64.wrap ((i : Int) + 1) = ((i + 1 : Nat) : Int) := fun i hi => by rw [wrap64 _ (by omega) (by omega)]; rfl
 refine WC_loop (fun k ρ ds w' => MadeI1 p t R q r A1 A2 A3 B1 w.heap.size P w0 k ρ ds w') P.length ⟨0, _, _, [], by simp, hI0, ⟨by simp, by simp, by simp⟩, ⟨by simp, by simp⟩, hX04, ?_, by simp, rfl⟩ ?_
 ·unfold MEnv; simp
 rintro k ρ ds w5 ⟨i,v,vp,l,⟨rfl,hi⟩,hI,hL,⟨hll,heL⟩,hX5,⟨f1,f3,f5,f6,f7,f8,f9,f10⟩,f11,rfl⟩
 have c1 := bS.ext hX5
 by_cases hlt : i < P.length
 ·have hcP : CtOk P[i] := h.op _ (List.getElem_mem hlt)
  have g := ctRow ((h.p.ext (hE.trans hX5)).toSl (by omega)) hlt
  have ix := fun W => h.p.index (P := Tryz.prog) (t := 22) (by simp) .i64 i (by omega) (by omega) W
  simp at ix
  simp [f1,f5,f11,c1.cell 0 _ rfl,hlenP,hlt,ix,g.c0,g.c1,g.c2,g.c3,g.c4]
  refine FN.mono (cadd_c hI.plan (by omega) hL.so hcP) ?_
  rintro _ w6 ⟨rfl,v',hP6,hM6,hv6⟩
  have hb5 : B1 ≤ w5.heap.size := by have := hI.b3.lt; have := N.a3; omega
  have hI6 := hI.modp N hM6 hP6 (fun hne => row_off hI.plan.row hP6.row (fun hn => hI.ov (len_ne.2 hn)) hb5 (.inr hv6) (len_ne.1 hne))
  have hX6 : Ext w0 w6 := (hX5.mod (S := fun k => w0.heap.size ≤ k)).trans (hM6.weaken fun k hk => by omega) |>.ext fun _ h => h
  simp
  refine WC_drawL 11 (.F 0 <| .F 1 <| .F 2 <| .F 3 <| .F 4 <| .F 5 <| .C 6 <| .F 7 <| .F 8 <| .F 9 <| .S 10 <| .Z) (fun _ => false) (fun _ => false) (fun _ _ _ => False) rfl (by kernel_rfl) (fun _ h => h) (fun _ _ _ _ h1 h2 => h1) fun W hW => ?_
  have hEW : Ext w6 W := hW ▸ Ext.drew w6
  have hIW := hI6.ext hEW
  have hXW := hX6.trans hEW
  have cW := bS.ext hXW
  have gW := ctRow ((h.p.ext (hE.trans hXW)).toSl (by omega)) hlt
  simp [f1,f8,f11,cW.cell 0 _ rfl,hIW.b1.cell 0 _ rfl,ix,gW.c0,gW.c1,gW.c2,gW.c3,gW.c4]
  refine FN.mono (nadd_c hIW.pl hcP (by omega)) ?_
  rintro _ w7 ⟨vp',rfl,hpl7,hvp7,hE7⟩
  have hI7 := hIW.ext hE7
  simp
  refine KR_ext hE7 ?_
  obtain ⟨a7,c7,hv7⟩ := hpl7.isSlice
  subst hv7
  simp [f8,hI7.b1.cell 0 _ rfl,hI7.b1.thaw]
  refine KR_set ?_
  have hI8 := hI7.set1 N hpl7 (fun hne => row_off hIW.pl hpl7 (fun hn => hIW.op (len_ne.2 hn)) (by have := hIW.b3.lt; have := N.a3; omega) hvp7 (len_ne.1 hne))
  have hX8 : Ext w0 (w7.setCell ⟨A1,0,none⟩ (.slice a7 (if addE l P[i] = 0 then addL l P[i] else l).length c7)) := (hXW.trans hE7).setCell _ _ (by simp only; omega)
  have hln := nxL_len l P[i]
  simp [f11,nw i (by omega)]
  refine ⟨P.length - (i + 1),by omega,i + 1,v',_,nxL l P[i],⟨rfl,by omega⟩,hI8,hL.add hcP,⟨by omega,by rw [List.take_add_one,List.getElem?_eq_getElem hlt,List.foldl_append,← heL]; rfl⟩,hX8,?_,by simp,rfl⟩
  unfold MEnv
  simp [f1,f3,f5,f6,f7,f8,f9,f10]
 ·have : i = P.length := by omega
  subst this
  rw [List.take_length] at heL
  simp [f1,f11,c1.cell 0 _ rfl,hlenP]
  refine WC_loop (fun k ρ ds w' => MadeI2 p t R q r A1 A2 A3 B1 w.heap.size v vp l S w0 k ρ ds w') S.length ⟨0, _, [], [], by simp, hI, RelT.nil, ⟨by simp, by simp⟩, hX5, ?_, by simp, rfl⟩ ?_
  ·unfold MEnv; simp [f1,f3,f5,f6,f7,f8,f9,f10]
  clear hI hX5 c1 f1 f3 f5 f6 f7 f8 f9 f10 f11 hlt hI0 hX04 hi
  rintro k ρ ds w5 ⟨i,vt,M,sl,⟨rfl,hi⟩,hI,hRT,⟨hsll,heS⟩,hX5,⟨f1,f3,f5,f6,f7,f8,f9,f10⟩,f12,rfl⟩
  have c1 := bS.ext hX5
  by_cases hlt : i < S.length
  ·have hsS : StOk S[i] := h.os _ (List.getElem_mem hlt)
   have g := TRw.row ((h.s.ext (hE.trans hX5)).toSl (by omega)) (List.getElem?_eq_getElem hlt)
   have ix := fun W => h.s.index (P := Tryz.prog) (t := 23) (by simp) .i64 i (by omega) (by omega) W
   simp at ix
   have hb5 : B1 ≤ w5.heap.size := by have := hI.b3.lt; have := N.a3; omega
   simp [f1,f6,f12,c1.cell 1 _ rfl,hlenS,hlt,ix,g.c0,g.c1,g.c2,g.c3]
   refine FN.mono (set_c hI.tab (by rw [hRT.cnt]; omega) S[i]) ?_
   rintro _ w6 ⟨rfl,M',hT6,hM6,hf6,hs6,hn6⟩
   have hI6 := hI.modt N hM6 hT6 hf6
   have hRT6 := hRT.set hsS hs6 hn6
   have hX6 : Ext w0 w6 := (hX5.mod (S := fun k => w0.heap.size ≤ k)).trans (hM6.weaken fun k hk => by
    have := hI.of k hk; have := N.pt; have := N.pR; have := N.a3; have := N.a2; have := N.a1; omega) |>.ext fun _ h => h
   simp
   refine WC_drawL 12 (.F 0 <| .F 1 <| .F 2 <| .F 3 <| .F 4 <| .F 5 <| .C 6 <| .F 7 <| .F 8 <| .F 9 <| .F 10 <| .S 11 <| .Z) (fun _ => false) (fun _ => false) (fun _ _ _ => False) rfl (by kernel_rfl) (fun _ h => h) (fun _ _ _ _ h1 h2 => h1) fun W hW => ?_
   have hEW : Ext w6 W := hW ▸ Ext.drew w6
   have hIW := hI6.ext hEW
   have hXW := hX6.trans hEW
   have cW := bS.ext hXW
   have gW := TRw.row ((h.s.ext (hE.trans hXW)).toSl (by omega)) (List.getElem?_eq_getElem hlt)
   simp [f1,f9,f12,cW.cell 1 _ rfl,hIW.b2.cell 0 _ rfl,ix,gW.c0,gW.c1,gW.c2,gW.c3]
   refine FN.mono (rset_c hIW.tb S[i] hsS (by omega)) ?_
   rintro _ w7 ⟨vt',rfl,hE7,htb7,hvt7⟩
   have hI7 := hIW.ext hE7
   simp
   refine KR_ext hE7 ?_
   obtain ⟨a7,c7,hv7⟩ := htb7.isSlice
   subst hv7
   simp [f9,hI7.b2.cell 0 _ rfl,hI7.b2.thaw]
   refine KR_set ?_
   have hI8 := hI7.set2 N htb7 (fun hne => row_off hIW.tb htb7 (fun hn => hIW.ot (len_ne.2 hn)) (by have := hIW.b3.lt; have := N.a3; omega) (.inr (hvt7 hne)) (len_ne.1 hne))
   have hX8 : Ext w0 (w7.setCell ⟨A2,0,none⟩ (.slice a7 (rsetL sl S[i]).length c7)) := (hXW.trans hE7).setCell _ _ (by have := N.pt; have := N.pR; have := N.tq; have := N.qA; have := N.a1; simp only; omega)
   have hln := rsetL_len sl S[i]
   simp [f12,nw i (by omega)]
   refine ⟨S.length - (i + 1),by omega,i + 1,_,M',rsetL sl S[i],⟨rfl,by omega⟩,hI8,hRT6,⟨by omega,by rw [List.take_add_one,List.getElem?_eq_getElem hlt,List.foldl_append,← heS]; rfl⟩,hX8,?_,by simp,rfl⟩
   unfold MEnv
   simp [f1,f3,f5,f6,f7,f8,f9,f10]
  ·have : i = S.length := by omega
   subst this
   rw [List.take_length] at heS
   simp [f1,f12,c1.cell 1 _ rfl,hlenS]
   refine WC_loop (fun k ρ ds w' => MadeI3 p t R q r A1 A2 A3 B1 w.heap.size v vp vt l M sl B w0 k ρ ds w') B.length ⟨0, _, [], [], by simp, hI, RelL.nil, fun x hx => (by cases hx), ⟨by simp, by simp⟩, hX5, ?_, by simp, rfl⟩ ?_
   ·unfold MEnv; simp [f1,f3,f5,f6,f7,f8,f9,f10]
   have hgdT := hRT.gdT hI.tab
   clear hI hX5 c1 f1 f3 f5 f6 f7 f8 f9 f10 f12 hlt hi
   rintro k ρ ds w5 ⟨i,vl,m,ll,⟨rfl,hi⟩,hI,hRL,hvm,⟨hbll,heM⟩,hX5,⟨f1,f3,f5,f6,f7,f8,f9,f10⟩,f13,rfl⟩
   have c1 := bS.ext hX5
   by_cases hlt : i < B.length
   ·obtain ⟨hcB,hnB⟩ := h.ob _ (List.getElem_mem hlt)
    have ix := fun W => h.b.index (P := Tryz.prog) (t := 24) (by simp) .i64 i (by omega) (by omega) W
    simp at ix
    simp [f1,f13,c1.cell 2 _ rfl,hlenB,hlt]
    refine WC_drawC 13 (.F 0 <| .F 1 <| .F 2 <| .F 3 <| .F 4 <| .F 5 <| .F 6 <| .F 7 <| .F 8 <| .F 9 <| .F 10 <| .F 11 <| .F 12 <| .Z) (fun _ => false) rfl (by kernel_rfl) fun wa hWa => ?_
    have hEa : Ext w5 wa := hWa ▸ Ext.drew w5
    have hIa := hI.ext hEa
    have hXa := hX5.trans hEa
    have ca := bS.ext hXa
    have ga := lrRow ((h.b.ext (hE.trans hXa)).toSl (by omega)) hlt
    simp [f1,f7,f13,ca.cell 2 _ rfl,ix,ga.c0,ga.c1,ga.c2,ga.c3,ga.c4,ga.c5]
    refine FN.mono (book_c hIa.led hvm hcB hnB) ?_
    rintro _ w6 ⟨rfl,hL6,hM6⟩
    have hI6 := hIa.modr N hM6 hL6
    have hX6 : Ext w0 w6 := (hXa.mod (S := fun k => w0.heap.size ≤ k)).trans (hM6.weaken fun k hk => by have := N.pt; have := N.tr; omega) |>.ext fun _ h => h
    simp
    refine WC_drawL 18 (.F 0 <| .F 1 <| .F 2 <| .F 3 <| .F 4 <| .F 5 <| .F 6 <| .F 7 <| .F 8 <| .F 9 <| .F 10 <| .F 11 <| .F 12 <| .C 13 <| .F 14 <| .F 15 <| .F 16 <| .S 17 <| .Z) (fun _ => false) (fun _ => false) (fun _ _ _ => False) rfl (by kernel_rfl) (fun _ h => h) (fun _ _ _ _ h1 h2 => h1) fun W hW => ?_
    have hEW : Ext w6 W := hW ▸ Ext.drew w6
    have hIW := hI6.ext hEW
    have hXW := hX6.trans hEW
    have cW := bS.ext hXW
    have gW := lrRow ((h.b.ext (hE.trans hXW)).toSl (by omega)) hlt
    simp [f1,f10,f13,cW.cell 2 _ rfl,hIW.b3.cell 0 _ rfl,ix,gW.c0,gW.c1,gW.c2,gW.c3,gW.c4,gW.c5]
    refine FN.mono (lbook_c hIW.lg hRL hvm hcB (by omega) hnB) ?_
    rintro _ w7 ⟨vl',rfl,hlg7,hvl7,hE7⟩
    have hI7 := hIW.ext hE7
    simp
    refine KR_ext hE7 ?_
    obtain ⟨a7,c7,hv7⟩ := hlg7.isSlice
    subst hv7
    simp [f10,hI7.b3.cell 0 _ rfl,hI7.b3.thaw]
    refine KR_set ?_
    have hI8 := hI7.set3 N hlg7 (fun hne => row_off hIW.lg hlg7 (fun hn => hIW.ol (len_ne.2 hn)) (by have := hIW.b3.lt; have := N.a3; omega) hvl7 (len_ne.1 hne))
    have hX8 : Ext w0 (w7.setCell ⟨A3,0,none⟩ (.slice a7 (bookL m ll B[i].1 B[i].2).length c7)) := (hXW.trans hE7).setCell _ _ (by have := N.pt; have := N.tq; have := N.qA; have := N.a1; have := N.a2; simp only; omega)
    have hln := bookL_len (m := m) (l := ll) B[i].1 B[i].2
    simp [f13,nw i (by omega)]
    refine ⟨B.length - (i + 1),by omega,i + 1,_,_,_,⟨rfl,by omega⟩,hI8,hRL.book _ _,bookM_ok hvm hcB hnB,⟨by omega,by rw [List.take_add_one,List.getElem?_eq_getElem hlt,List.foldl_append,← heM]; rfl⟩,hX8,?_,by simp,rfl⟩
    unfold MEnv
    simp [f1,f3,f5,f6,f7,f8,f9,f10]
   ·have : i = B.length := by omega
    subst this
    rw [List.take_length] at heM
    simp [f1,f5,f6,f7,f13,c1.cell 2 _ rfl,hlenB]
    refine FN.mono (gnew_c hI.plan (by omega) hI.tab hI.led) ?_
    rintro _ w6 ⟨g,p',v',t',R',M',q',r',rfl,hG,hspM,htotM,hE6,y1,y2,y3,y4,y5,y6⟩
    have hI6 := hI.ext hE6
    have hX6 := hX5.trans hE6
    simp [f5]
    refine FN.mono (prune_c hI6.plan (by omega) 4611686018427387903) ?_
    rintro _ w7 ⟨rfl,v7,hP7,hM7,hv7⟩
    have hb6 : B1 ≤ w6.heap.size := by have := hI6.b3.lt; have := N.a3; omega
    have zz6 := hE6.size
    have hb5 : B1 ≤ w5.heap.size := by have := hI.b3.lt; have := N.a3; omega
    have hpB : p < B1 := by have := N.pt; have := N.tq; have := N.qA; have := N.a1; have := N.a2; have := N.a3; omega
    have hI7 := hI6.modp N hM7 hP7 (fun hne => by
     have hn7 : slN v7 = false := by
      rcases hP7.row.blk with ⟨-, h0⟩ | ⟨b', o', c', rfl, -⟩
      ·exact (len_ne.1 hne h0).elim
      ·rfl
     have := hv7 hn7
     omega)
    have hG7 := hG.mod hM7 (by omega) (by omega) (fun hne e => by have := y3 hne; omega) (fun k hk e => by have := y4 k hk; omega) (by omega) (by omega)
    have hX7 : Ext w0 w7 := (hX6.mod (S := fun k => w0.heap.size ≤ k)).trans (hM7.weaken fun k hk => by omega) |>.ext fun _ h => h
    simp
    refine WC_drawL 10 (.F 0 <| .F 1 <| .F 2 <| .F 3 <| .F 4 <| .F 5 <| .C 6 <| .F 7 <| .F 8 <| .S 9 <| .Z) (fun _ => false) (fun _ => false) (fun _ _ _ => False) rfl (by kernel_rfl) (fun _ h => h) (fun _ _ _ _ h1 h2 => h1) fun W hW => ?_
    have hEW : Ext w7 W := hW ▸ Ext.drew w7
    have hIW := hI7.ext hEW
    have hXW := hX7.trans hEW
    have hGW := hG7.ext hEW
    have cG := bG.ext hXW
    simp [f8,f9,f10,hIW.b1.cell 0 _ rfl,hIW.b2.cell 0 _ rfl,hIW.b3.cell 0 _ rfl]
    refine FN.mono (knum_c 0 W) ?_
    rintro _ _ ⟨rfl,rfl⟩
    rename_i W
    simp
    refine KR_same ?_
    obtain ⟨a1,d1,hp1⟩ := hIW.pl.isSlice
    obtain ⟨a2,d2,hp2⟩ := hIW.tb.isSlice
    obtain ⟨a3,d3,hp3⟩ := hIW.lg.isSlice
    rw [hp1,hp2,hp3]
    simp [f3,cG.cell 0 _ rfl,cG.cell 1 _ rfl,cG.cell 2 _ rfl,cG.thaw,cell_setCell]
    rw [← hp1,← hp2,← hp3]
    have hMs : Mod (fun k => k = w.heap.size + 1) W (((W.setCell ⟨w.heap.size + 1,0,none⟩ vp).setCell ⟨w.heap.size + 1,1,none⟩ vt).setCell ⟨w.heap.size + 1,2,none⟩ vl) := (((Mod.refl _ _).setC _ _).setC _ _).setC _ _
    refine KR_mk (agr_any (hMs.weaken fun _ _ => trivial)) ?_
    have hpw : w.heap.size + 1 < p := by omega
    have hAw : w.heap.size + 1 < B1 := by omega
    obtain ⟨r1,r2,r3,-⟩ := hIW.rows hMs fun a u hu hb => by omega
    have hGs := hGW.mod hMs (by omega) (by omega) (fun hne e => by have := y3 hne; omega) (fun k hk e => by have := y4 k hk; omega) (by omega) (by omega)
    have hXs : Ext w (((W.setCell ⟨w.heap.size + 1,0,none⟩ vp).setCell ⟨w.heap.size + 1,1,none⟩ vt).setCell ⟨w.heap.size + 1,2,none⟩ vl) := ((hE.trans hXW).mod (S := fun k => w.heap.size ≤ k)).trans (hMs.weaken fun k hk => by omega) |>.ext fun _ h => h
    have cG2 : Blk (((W.setCell ⟨w.heap.size + 1,0,none⟩ vp).setCell ⟨w.heap.size + 1,1,none⟩ vt).setCell ⟨w.heap.size + 1,2,none⟩ vl) (w.heap.size + 1) [vp,vt,vl] := ((cG.set 0 vp).set 1 vt).set 2 vl
    generalize ((W.setCell ⟨w.heap.size + 1,0,none⟩ vp).setCell ⟨w.heap.size + 1,1,none⟩ vt).setCell ⟨w.heap.size + 1,2,none⟩ vl = Ws at *
    have hRT' := hRT.congr hspM htotM
    have hnd : ∀ k,((sps M' k).map (·.1)).Nodup := fun k => (hGs.tab.inn k).nodup
    simp [f3,cG2.cell 0 _ rfl,cG2.cell 1 _ rfl,cG2.cell 2 _ rfl]
    refine ⟨⟨g,vp,vt,vl,l,M',m,rfl,⟨⟨_,_,_,_,_,_,hGs⟩,⟨ll,by rw [← heS]; exact ⟨r1,r2,r3,hRT',hRL,hnd,by omega,by omega,by omega,hL.ok,hvm⟩⟩,heL,heM,hRT'.gdT hGs.tab,fun k => ?_,hL⟩,hll⟩,hXs⟩
    have := Gr.sub_len (m := sl.map (·.a)) (hnd k) fun x hx => by
     obtain ⟨s,hs,-,-,rfl⟩ := (isKey hRT' k.1 k.2 x).1 hx
     exact List.mem_map.2 ⟨s,hs,rfl⟩
    simp at this
    omega
end Go.Proofs