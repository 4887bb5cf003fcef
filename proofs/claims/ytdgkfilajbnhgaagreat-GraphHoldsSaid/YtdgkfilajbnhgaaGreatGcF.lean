/-
 Contracts of the functions that the law reaches,step by step.
-/
import Derived.Test.YtdgkfilajbnhgaaGreatGcD
namespace Go.Proofs
open Pk
set_option maxRecDepth 10000
theorem askedC_c {w : World} {v : Value} (qs : List Qn) (hs : Sl w 2 v qs.length (askCells qs)) (hb : qs.length ≤ 1000) (hf : ∀ q ∈ qs, ∃ f x y, q.f = .func f x y)
  (hq : ∀ (i : Nat) (q : Qn),qs[i]? = some q → (∀ (j : Nat) (p : Qn),j < i → qs[j]? = some p → p.b = false) → ∀ w',Ext w w' → CV Tryz.prog q.f [] w' fun e w'' => e = .returned (.bool q.b) ∧ Ext w' w'') :
  FN Tryz.prog 55 [v] w fun e w' => e = .returned (.int .i64 (askE qs)) ∧ Ext w w' := by
 refine FN_enter Tryz.func55 rfl rfl (by kernel_rfl) ?_
 simp
 refine WC_scope 0 _ rfl ?_
 simp [hs.isLen]
 refine WC_loop (fun k ρ ds w' => ∃ i : Nat,k = qs.length - i ∧ i ≤ qs.length ∧ ρ 5 = v ∧ ρ 6 = .int .i64 qs.length ∧ ρ 7 = .int .i64 i ∧ ds = [] ∧ Ext w w' ∧ ∀ (j : Nat) (q : Qn),j < i → qs[j]? = some q → q.b = false) qs.length ⟨0,by simp [Ext.refl]⟩ ?_
 rintro k ρ ds w1 ⟨i,rfl,hi,e5,e6,e7,rfl,hE,hno⟩
 by_cases hlt : i < qs.length
 ·have hq0 : qs[i]? = some qs[i] := by simp [hlt]
  obtain ⟨c1,c2⟩ := askCells_at qs i _ hq0
  have hs1 := hs.ext hE
  have d1 := hs1.at_ _ _ c1
  have d2 := hs1.at_ _ _ c2
  rw [← Nat.add_assoc] at d2
  have hix := hs1.index (P := Tryz.prog) (t := 213) (by simp) .i64 i (by omega) (by omega) w1
  obtain ⟨f,x,y,hfv⟩ := hf qs[i] (by simp)
  have hcall := hq i _ hq0 hno
  rw [hfv] at d1 hcall
  simp [e5,e6,e7,hlt,hix,d1,d2]
  have hE1 := (Ext.refl w1).alloc (.cells #[.func f x y,.int .i64 qs[i].e] 145)
  refine CV.mono (hcall _ (hE.trans hE1)) ?_
  rintro _ w2 ⟨rfl,hE2⟩
  cases hqb : qs[i].b with
  | true =>
   simp
   exact ⟨(askE_at qs i _ hq0 hqb hno).symm,(hE.trans hE1).trans hE2⟩
  | false =>
   simp [e5,e6,e7]
   refine ⟨qs.length - (i + 1), by omega, i + 1, rfl, by omega, ?_, (hE.trans hE1).trans hE2, ?_⟩
   ·rw [wrap64 _ (by omega) (by omega)]; rfl
   ·intro j q hj hjq
    rcases Nat.lt_succ_iff_lt_or_eq.1 hj with h1 | rfl
    ·exact hno j q h1 hjq
    ·rw [hq0] at hjq; cases hjq; exact hqb
 ·simp [e6,e7,hlt]
  exact ⟨(askE_none qs fun j q hj => hno j q (by have := (List.getElem?_eq_some_iff.1 hj).1; omega) hj).symm,hE⟩
theorem add1_c {w : World} {b : Nat} {c : Ct} (hc : CtOk c) (h : Blk w b (ctC c)) : FN Tryz.prog 57 [ptr b] w fun e w' => e = .returned (.bool (!ctRight c)) ∧ Ext w w' := by
 refine FN_enter Tryz.func57 rfl rfl (by kernel_rfl) ?_
 simp [h.cell 0 _ rfl,h.cell 1 _ rfl,h.cell 2 _ rfl,h.cell 3 _ rfl,h.cell 4 _ rfl]
 refine FN.mono (check_c c hc w) ?_
 rintro _ w1 ⟨rfl,h1⟩
 cases hr : ctRight c with
 | true => simp; exact h1
 | false => simp; exact h1
theorem add21_c {w : World} {b : Nat} {c : Ct} (h : Blk w b (ctC c)) (s : Sp2) : FN Tryz.prog 60 [spV s, ptr b] w fun e w' => e = .returned (.bool (bothB s ⟨c.sf, c.su⟩)) ∧ Ext w w' := by
 refine FN_enter Tryz.func60 rfl rfl (by kernel_rfl) ?_
 have hE := (Ext.refl w).alloc (.cells #[u64 s.from',u64 s.til] 46)
 have h1 := h.ext hE
 simp [h1.cell 2 _ rfl,h1.cell 3 _ rfl]
 generalize (w.alloc (.cells #[u64 s.from',u64 s.til] 46)) = w1 at *
 refine FN.mono (both_c s ⟨c.sf,c.su⟩ w1) ?_
 rintro _ w2 ⟨rfl,h2⟩
 simp
 exact (hE.trans h2).alloc _
def clash (l : List Ct) (c : Ct) : Bool := l.any (betP c.fr c.to' fun s => bothB s ⟨c.sf,c.su⟩)
theorem add2_c {w : World} {b0 b1 p : Nat} {v : Value} {l : List Ct} {c : Ct} (v0 : Var w b0 (ptr p)) (h : Blk w b1 (ctC c)) (hP : PlanAt w p v l) (hb : l.length ≤ 1000000) : FN Tryz.prog 58 [ptr b0, ptr b1] w fun e w' => e = .returned (.bool (clash l c)) ∧ Ext w w' := by
 refine FN_enter Tryz.func58 rfl rfl (by kernel_rfl) ?_
 simp
 refine WC_drawC 9 (.F 0 <| .F 1 <| .F 2 <| .F 3 <| .F 4 <| .F 5 <| .F 6 <| .F 7 <| .F 8 <| .Z) (fun _ => false) rfl (by kernel_rfl) fun W hW => ?_
 have hE : Ext w W := hW ▸ Ext.drew w
 have h1 := h.ext hE
 have hP1 := hP.ext hE
 simp [(v0.ext hE).cell,h1.cell 0 _ rfl,h1.cell 1 _ rfl,hP1.blk.cell 0 _ rfl]
 refine FN.mono (cbet_c (fun s => bothB s ⟨c.sf,c.su⟩) hP1.row hb (fun x hx W' hW' => add21_c (h1.ext hW') ⟨x.sf,x.su⟩)) ?_
 rintro _ w2 ⟨rfl,h2⟩
 simp [ixOf_geq,clash]
 exact hE.trans h2
theorem add3_c {w : World} {b0 p : Nat} {v : Value} {l : List Ct} (v0 : Var w b0 (ptr p)) (hP : PlanAt w p v l) : FN Tryz.prog 62 [ptr b0] w fun e w' => e = .returned (.bool (decide (256 ≤ l.length))) ∧ w' = w := by
 refine FN_enter Tryz.func62 rfl rfl (by kernel_rfl) ?_
 simp [v0.cell,hP.blk.cell 0 _ rfl]
 refine FN.mono (clen_c hP.row) ?_
 rintro _ _ ⟨rfl,rfl⟩
 simp
 omega
def addE (l : List Ct) (c : Ct) : Int := if ctRight c = false then 2 else if clash l c then 270 else if 256 ≤ l.length then 271 else 0
def addL (l : List Ct) (c : Ct) : List Ct := l.take (kOf l c) ++ (c :: l.drop (kOf l c))
theorem addL_len (l : List Ct) (c : Ct) : (addL l c).length = l.length + 1 := by
 have := kOf_le l c
 simp [addL]; omega
theorem cadd_c {w : World} {p : Nat} {v : Value} {l : List Ct} {c : Ct} (hP : PlanAt w p v l) (hb : l.length ≤ 1000) (hs : l.Pairwise aheadP) (hc : CtOk c) :
  FN Tryz.prog 24 [ptr p,ctV c] w fun e w' => e = .returned (i64 (addE l c)) ∧ ∃ v',PlanAt w' p v' (if addE l c = 0 then addL l c else l) ∧ Mod (· = p) w w' ∧ (v' = v ∨ w.heap.size ≤ slB v') := by
 refine FN_enter Tryz.func24 rfl rfl (by kernel_rfl) ?_
 have hE : Ext w ((w.alloc (.cells #[ptr p] 57)).alloc (.cells #[u32 c.fr,u32 c.to',u64 c.sf,u64 c.su,u64 c.rate] 48)) := ((Ext.refl w).alloc _).alloc _
 have v0 : Var ((w.alloc (.cells #[ptr p] 57)).alloc (.cells #[u32 c.fr,u32 c.to',u64 c.sf,u64 c.su,u64 c.rate] 48)) w.heap.size (ptr p) := (Var.new w (ptr p) 57).ext ((Ext.refl _).alloc _)
 have hB : Blk ((w.alloc (.cells #[ptr p] 57)).alloc (.cells #[u32 c.fr, u32 c.to', u64 c.sf, u64 c.su, u64 c.rate] 48)) (w.heap.size + 1) (ctC c) := by
  have := Blk.new (w.alloc (.cells #[ptr p] 57)) (ctC c) 48
  simpa using this
 have hP1 := hP.ext hE
 have hsz : ((w.alloc (.cells #[ptr p] 57)).alloc (.cells #[u32 c.fr,u32 c.to',u64 c.sf,u64 c.su,u64 c.rate] 48)).heap.size = w.heap.size + 1 + 1 := by simp
 simp [v0.cell]
 generalize ((w.alloc (.cells #[ptr p] 57)).alloc (.cells #[u32 c.fr,u32 c.to',u64 c.sf,u64 c.su,u64 c.rate] 48)) = w1 at *
 let qs : List Qn := [⟨.func (.func 56) #[ptr p] #[],1,false⟩,⟨.func (.func 57) #[] #[ptr (w.heap.size + 1)],2,!ctRight c⟩,⟨.func (.func 58) #[] #[ptr w.heap.size,ptr (w.heap.size + 1)],270,clash l c⟩,⟨.func (.func 62) #[] #[ptr w.heap.size],271,decide (256 ≤ l.length)⟩]
 have hsl := Sl.made w1 (askCells qs) 145 2 4 rfl
 rw [hsz] at hsl
 have he3 := (Ext.refl w1).alloc (.cells (askCells qs).toArray 145)
 refine FN.mono (askedC_c qs hsl (by simp [qs]) ?_ ?_) ?_
 ·intro q hq
  simp [qs] at hq
  rcases hq with rfl | rfl | rfl | rfl <;> exact ⟨_,_,_,rfl⟩
 ·intro i q hq hno w' hw'
  have hx := he3.trans hw'
  match i,hq with
  | 0, hq =>
   simp [qs] at hq; subst hq
   exact FN.mono (cnone_c (hP1.ext hx)) fun _ _ h => ⟨h.1,h.2 ▸ Ext.refl _⟩
  | 1, hq =>
   simp [qs] at hq; subst hq
   exact add1_c hc (hB.ext hx)
  | 2, hq =>
   simp [qs] at hq; subst hq
   exact add2_c (v0.ext hx) (hB.ext hx) (hP1.ext hx) (by omega)
  | 3, hq =>
   simp [qs] at hq; subst hq
   exact FN.mono (add3_c (v0.ext hx) (hP1.ext hx)) fun _ _ h => ⟨h.1,h.2 ▸ Ext.refl _⟩
  | i + 4,hq => simp [qs] at hq
 ·rintro _ w3 ⟨rfl,h3⟩
  have hq : askE qs = addE l c := by
   simp [qs,askE,addE]
  rw [hq]
  have hx := he3.trans h3
  have hX := hE.trans hx
  have v3 := v0.ext hx
  have hB3 := hB.ext hx
  have hP3 := hP1.ext hx
  by_cases h0 : addE l c = 0
  ·simp [h0]
   refine WC_drawC 10 (.F 0 <| .F 1 <| .F 2 <| .F 3 <| .F 4 <| .C 5 <| .F 6 <| .F 7 <| .F 8 <| .F 9 <| .Z) (fun _ => false) rfl (by kernel_rfl) fun W hW => ?_
   have hWE : Ext w3 W := hW ▸ Ext.drew w3
   have v4 := v3.ext hWE
   have hB4 := hB3.ext hWE
   have hP4 := hP3.ext hWE
   simp [v4.cell,hP4.blk.cell 0 _ rfl,hB4.cell 0 _ rfl,hB4.cell 1 _ rfl,hB4.cell 2 _ rfl,hB4.cell 3 _ rfl,hB4.cell 4 _ rfl]
   refine FN.mono (bs_c hP4.row (by omega) hs c) ?_
   rintro _ W5 ⟨b5,rfl,h5⟩
   simp
   refine KR_ext h5 ?_
   simp
   refine WC_drawC 18 (.F 0 <| .F 1 <| .F 2 <| .F 3 <| .F 4 <| .F 5 <| .F 6 <| .F 7 <| .F 8 <| .F 10 <| .F 11 <| .F 12 <| .F 13 <| .F 14 <| .F 15 <| .C 9 <| .C 16 <| .C 17 <| .Z) (fun _ => false) rfl (by kernel_rfl) fun W6 hW6 => ?_
   have hE6 : Ext W W6 := h5.trans (hW6 ▸ Ext.drew W5)
   have v6 := v4.ext hE6
   have hB6 := hB4.ext hE6
   have hP6 := hP4.ext hE6
   have hk := kOf_le l c
   have sHM := hP6.row.sliceHM (P := Tryz.prog) (t := 136) (by simp) .i64 .i64 (kOf l c) (kOf l c) (by omega) (by omega) (by omega) W6
   have sL := hP6.row.sliceL (P := Tryz.prog) (t := 136) (by simp) .i64 (kOf l c) (by omega) (by omega) W6
   simp at sHM sL
   have s1 := hP6.row.takeHM (kOf l c) (kOf l c) (Nat.le_refl _) hk
   have s3 := hP6.row.dropL (kOf l c) hk
   rw [← flat_take ctC (s := 5) (fun _ => rfl)] at s1
   rw [← flat_drop ctC (s := 5) (fun _ => rfl)] at s3
   obtain ⟨a1,c1,e1⟩ := s1.isSlice
   obtain ⟨a3,c3,e3⟩ := s3.isSlice
   rw [e1] at sHM s1
   rw [e3] at sL s3
   simp [v6.cell,hP6.blk.cell 0 _ rfl,hB6.cell 0 _ rfl,hB6.cell 1 _ rfl,hB6.cell 2 _ rfl,hB6.cell 3 _ rfl,hB6.cell 4 _ rfl,sHM,sL]
   have hE7 := (Ext.refl W6).alloc (.cells #[u32 c.fr,u32 c.to',u64 c.sf,u64 c.su,u64 c.rate] 48)
   have s2 : Sl (W6.alloc (.cells #[u32 c.fr,u32 c.to',u64 c.sf,u64 c.su,u64 c.rate] 48)) 5 (.slice (some ⟨W6.heap.size,0,none⟩) 1 1) 1 ([c].flatMap ctC) := Sl.made W6 (ctC c) 48 5 1 rfl
   refine KR_ext hE7 ?_
   have s1' := s1.ext hE7
   have s3' := s3.ext hE7
   generalize (W6.alloc (.cells #[u32 c.fr,u32 c.to',u64 c.sf,u64 c.su,u64 c.rate] 48)) = W7 at *
   simp
   have hE8 := (Ext.refl W7).alloc (.cells #[.slice a1 (kOf l c) c1,.slice (some ⟨W6.heap.size,0,none⟩) 1 1,.slice a3 (l.length - kOf l c) c3] 136)
   have sV := Sl.made W7 [.slice a1 (kOf l c) c1,.slice (some ⟨W6.heap.size,0,none⟩) 1 1,.slice a3 (l.length - kOf l c) c3] 136 1 3 rfl
   refine KR_ext hE8 ?_
   have hR : ccat_Rows (W7.alloc (.cells #[.slice a1 (kOf l c) c1, .slice (some ⟨W6.heap.size, 0, none⟩) 1 1, .slice a3 (l.length - kOf l c) c3] 136)) [.slice a1 (kOf l c) c1, .slice (some ⟨W6.heap.size, 0, none⟩) 1 1, .slice a3 (l.length - kOf l c) c3] [l.take (kOf l c), [c], l.drop (kOf l c)] := by
    refine ⟨rfl,fun i x b hx hb => ?_⟩
    match i,hx,hb with
    | 0,hx,hb => simp at hx hb; subst hx hb; simpa [Nat.min_eq_left hk] using s1'.ext hE8
    | 1,hx,hb => simp at hx hb; subst hx hb; exact s2.ext hE8
    | 2,hx,hb => simp at hx hb; subst hx hb; simpa using s3'.ext hE8
    | i + 3,hx,hb => simp at hx
   have e8 : ([.slice a1 (kOf l c) c1,.slice (some ⟨W6.heap.size,0,none⟩) 1 1,.slice a3 (l.length - kOf l c) c3] : List Value).toArray = #[.slice a1 (kOf l c) c1,.slice (some ⟨W6.heap.size,0,none⟩) 1 1,.slice a3 (l.length - kOf l c) c3] := rfl
   rw [e8] at sV
   generalize (W7.alloc (.cells #[.slice a1 (kOf l c) c1,.slice (some ⟨W6.heap.size,0,none⟩) 1 1,.slice a3 (l.length - kOf l c) c3] 136)) = W8 at *
   simp
   have hfl : [l.take (kOf l c),[c],l.drop (kOf l c)].flatten = addL l c := by simp [addL]
   have hll := addL_len l c
   refine FN.mono (ccat_c (vs := [.slice a1 (kOf l c) c1,.slice (some ⟨W6.heap.size,0,none⟩) 1 1,.slice a3 (l.length - kOf l c) c3]) sV hR (by simp) (by rw [hfl,hll]; omega)) ?_
   rintro _ W9 ⟨v9,rfl,ho9,h9⟩
   rw [hfl] at ho9
   simp
   refine KR_ext h9 ?_
   have hX9 := ((hX.trans hWE).trans hE6).trans (hE7.trans (hE8.trans h9))
   have hP9 := (hP6.ext hE7).ext (hE8.trans h9)
   have v9' := (v6.ext hE7).ext (hE8.trans h9)
   obtain ⟨a9,c9,rfl⟩ := own_val ho9
   simp [hP9.blk.cell 0 _ rfl,hP9.blk.thaw 0]
   have hM := Mod.setCell (S := (· = p)) (Mod.refl _ W9) ⟨p,0,none⟩ (.slice a9 (addL l c).length c9) (.inl rfl)
   have hpl := hP.lt
   have hnn : slN (.slice a9 (addL l c).length c9) = false := own_nil ho9 (by omega)
   have hge := own_ge ho9 hnn
   have h8s := (((hX.trans hWE).trans hE6).trans (hE7.trans hE8)).size
   refine ⟨.slice a9 (addL l c).length c9,⟨hP9.blk.set 0 _,(sl_of_own ho9).mod hM (fun e => ?_)⟩,hX9.mod.trans hM,.inr (by omega)⟩
   omega
  ·simp [h0,beq_dec]
   exact ⟨v,hP3,hX.mod,.inl rfl⟩
end Go.Proofs
namespace Go.Proofs
open Pk
set_option maxRecDepth 10000
theorem fCt : flatA Tryz.prog 48 = some [.int .u32,.int .u32,.int .u64,.int .u64,.int .u64] := by kernel_rfl
theorem ct_eqcs (a b : Ct) : eqcs (ctC a) (ctC b) = decide (a = b) := by
 obtain ⟨a1,a2,a3,a4,a5⟩ := a
 obtain ⟨b1,b2,b3,b4,b5⟩ := b
 rw [Bool.eq_iff_iff]
 simp [eqcs,eqc]
theorem ct_eq (a b : Ct) (w : World) : (binOp .eql 48 (ctV a) (ctV b)).run Tryz.prog w = .ok (.bool (decide (a = b))) w := by
 rw [← ct_eqcs]
 exact run_eql_flat w fCt _ _ rfl rfl
theorem cidx_c {w : World} {v : Value} {l : List Ct} (h : SlB w 5 v l.length (l.flatMap ctC)) (hb : l.length ≤ 1000000) (c : Ct) : FN Tryz.prog 130 [v, ctV c] w fun e w' => e = .returned (i64 (ixOf (fun x => decide (c = x)) l)) ∧ Ext w w' := by
 refine FN_enter Tryz.func130 rfl rfl (by kernel_rfl) ?_
 have hlen := fun ty W => h.isLen (P := Tryz.prog) (t := 22) (by simp) ty W
 have hE := (Ext.refl w).alloc (.cells #[u32 c.fr,u32 c.to',u64 c.sf,u64 c.su,u64 c.rate] 48)
 have hB := Blk.new w (ctC c) 48
 rw [show (ctC c).toArray = #[u32 c.fr,u32 c.to',u64 c.sf,u64 c.su,u64 c.rate] from rfl] at hB
 simp [hlen]
 generalize (w.alloc (.cells #[u32 c.fr,u32 c.to',u64 c.sf,u64 c.su,u64 c.rate] 48)) = w0 at *
 refine WC_loop (fun k ρ ds w' => ∃ i : Nat,k = l.length - i ∧ i ≤ l.length ∧ ρ 0 = v ∧ ρ 3 = ptr w.heap.size ∧ ρ 7 = i64 l.length ∧ ρ 8 = i64 i ∧ ds = [] ∧ Ext w0 w' ∧ NoneYet (fun x => decide (c = x)) l i) l.length ⟨0,by simp,by simp,by simp,by simp,by simp,by simp,rfl,Ext.refl _,noneYet_0 _ l⟩ ?_
 rintro k ρ ds w1 ⟨i,rfl,hi,e0,e3,e7,e8,rfl,hE1,hno⟩
 by_cases hlt : i < l.length
 ·simp [e7,e8,hlt]
  refine WC_drawC 6 (.F 0 <| .F 1 <| .F 2 <| .F 3 <| .F 4 <| .C 5 <| .Z) (fun _ => false) rfl (by kernel_rfl) fun W hW => ?_
  have hWE : Ext w1 W := hW ▸ Ext.drew w1
  have hX := hE1.trans hWE
  have hS := (h.toSl (by omega)).ext (hE.trans hX)
  have g := ctRow hS hlt
  have ix := hS.index (P := Tryz.prog) (t := 22) (by simp) .i64 i (by omega) (by omega) W
  have b1 := hB.ext hX
  simp at ix
  simp [e0,e3,ix,g.c0,g.c1,g.c2,g.c3,g.c4,b1.cell 0 _ rfl,b1.cell 1 _ rfl,b1.cell 2 _ rfl,b1.cell 3 _ rfl,b1.cell 4 _ rfl]
  have q := ct_eq c l[i] W
  simp only [ctV] at q
  simp [q]
  refine KR_same ?_
  simp
  by_cases hp : c = l[i]
  ·have dp : decide (c = l[i]) = true := decide_eq_true hp
   simp [dp,ixOf_some hlt hno dp]
   exact hE.trans hX
  ·have dp : decide (c = l[i]) = false := decide_eq_false hp
   simp [dp,e0,e3,e7,e8]
   exact ⟨l.length - (i + 1),by omega,i + 1,rfl,by omega,by rw [wrap64 _ (by omega) (by omega)]; rfl,hX,noneYet_s hlt hno (by simp [hp])⟩
 ·have : i = l.length := by omega
  subst this
  simp [e7,e8,ixOf_none hno]
  exact hE.trans hE1
theorem ccon_c {w : World} {v : Value} {l : List Ct} (h : SlB w 5 v l.length (l.flatMap ctC)) (hb : l.length ≤ 1000000) (c : Ct) : FN Tryz.prog 93 [v, ctV c] w fun e w' => e = .returned (.bool (decide (c ∈ l))) ∧ Ext w w' := by
 refine FN_enter Tryz.func93 rfl rfl (by kernel_rfl) ?_
 have hE := (Ext.refl w).alloc (.cells #[u32 c.fr,u32 c.to',u64 c.sf,u64 c.su,u64 c.rate] 48)
 simp
 generalize (w.alloc (.cells #[u32 c.fr,u32 c.to',u64 c.sf,u64 c.su,u64 c.rate] 48)) = w0 at *
 refine FN.mono (cidx_c (h.ext hE) hb c) ?_
 rintro _ w1 ⟨rfl,h1⟩
 simp [ixOf_geq]
 refine ⟨?_,hE.trans h1⟩
 rw [Bool.eq_iff_iff]; simp
theorem zero_one {z : Array Value} (h : ∀ u ∈ z.toList, u.oneCell' = true) (m : Nat) : ∀ u ∈ (Builtin.zeroCells z m).toList, u.oneCell' = true := by
 intro u hu
 unfold Builtin.zeroCells at hu
 rw [Array.toList_map,List.mem_map] at hu
 obtain ⟨i,hi,rfl⟩ := hu
 have hp : 0 < z.size := by
  rcases Nat.eq_zero_or_pos z.size with h0 | h0
  ·rw [h0] at hi; simp at hi
  ·exact h0
 have hlt := Nat.mod_lt i hp
 rw [getElem!_pos z _ hlt]
 exact h _ (by simp)
theorem clear_rest {P : Program} {w : World} {base s : Nat} {t ty : TypeId} {v : Value} {n : Nat} {xs : List Value} {e : TypeId} {z : Value} (hs : isS (P.underlying t) = true) (he : elemT (P.underlying t) = e) (hz : ∀ w, (zeroValue e).run P w = .ok z w) (hzs : z.cells.size = s) (hz1 : ∀ u ∈ z.cells.toList, u.oneCell' = true)
  (hown : w.ownsRow base e s v n xs) (i : Nat) (hi : i ≤ n) :
  ∃ w',(Builtin.clear_ #[t] ty #[slcL v i s]).run P w = .ok (.tuple #[]) w' ∧ w'.ownsRow base e s (slcH v i) i (xs.take (i * s)) ∧ Mod (fun k => slN v = false ∧ k = slB v) w w' ∧ w'.heap.size = w.heap.size := by
 have hel := isS_inv hs
 rw [he] at hel
 have hu := run_und hel w
 obtain ⟨a1,a2⟩ := id hown
 rcases a2 with ⟨rfl, rfl⟩ | ⟨g, cap, cur, rfl, b1, b2, b3, b4, b5, b6⟩
 ·have h0 : i = 0 := by omega
  subst h0
  have a0 : xs = [] := by rw [Nat.zero_mul] at a1; exact List.length_eq_zero_iff.1 a1
  refine ⟨w, ?_, ?_, Mod.refl _ _, rfl⟩
  ·simp [slcL,Builtin.clear_,hu]
  ·rw [a0,List.take_nil]; exact World.ownsRow_nil _ _ _ _
 ·by_cases hin : i = n
  ·subst hin
   refine ⟨w, ?_, ?_, Mod.refl _ _, rfl⟩
   ·by_cases hc : cap = i
    ·subst hc; simp [slcL,Builtin.clear_,hu]
    ·simp [slcL,hc,Builtin.clear_,hu]
   ·rw [List.take_of_length_le (by omega)]; exact hown
  ·have hci : ¬ cap = i := by omega
   have hzc : (Builtin.zeroCells z.cells (n - i)).toList.length = (n - i) * s := by
    rw [Array.length_toList,Go.size_zeroCells,hzs]
   have hms : i * s + (n - i) * s ≤ cap * s := by
    rw [← Nat.add_mul]; exact Nat.mul_le_mul_right _ (by omega)
   have hst := run_storeCells_cells (P := P) g (i * s) (Builtin.zeroCells z.cells (n - i)).toList 0 w (fun j hj => by
     have : i * s + 0 + j < cur.size := by omega
     simp [World.cell?,b2]; omega) (fun j hj => by simp [World.frozen?,b2]) (zero_one hz1 _)
   simp only [Nat.add_zero] at hst
   have ht := own_take hown i hi
   refine ⟨w.setCells g (i * s) (Builtin.zeroCells z.cells (n - i)).toList,?_,own_behind ht (Nat.le_refl _) (by omega),(mod_setCells _ _ _ _).weaken fun k hk => ⟨rfl,hk⟩,over_size _ _ _ _⟩
   obtain ⟨m,hm⟩ : ∃ m,n - i = m + 1 := ⟨n - i - 1,by omega⟩
   rw [hm] at hst
   simp [-Value.cells,slcL,hci,Builtin.clear_,hu,hz,hm,hst]
def stay (p : Ct → Bool) (l : List Ct) : List Ct := l.filter fun x => !p x
theorem stay_take {p : Ct → Bool} {l : List Ct} {i : Nat} (h : i ≤ l.length) (hn : NoneYet p l i) : stay p (l.take i) = l.take i := by
 unfold stay
 rw [List.filter_eq_self]
 intro x hx
 obtain ⟨j,hj,rfl⟩ := List.getElem_of_mem hx
 have hj' : j < i := by rw [List.length_take] at hj; omega
 rw [List.getElem_take]
 have := hn j (by omega) hj'
 simp [this]
theorem stay_next {p : Ct → Bool} {l : List Ct} {j : Nat} (h : j < l.length) : stay p (l.take (j + 1)) = stay p (l.take j) ++ (if p l[j] then [] else [l[j]]) := by
 rw [List.take_add_one,List.getElem?_eq_getElem h]
 simp only [stay,Option.toList_some,List.filter_append]
 congr 1
 cases hp : p l[j] <;> simp [hp]
theorem stay_len (p : Ct → Bool) (l : List Ct) (j : Nat) : (stay p (l.take j)).length ≤ j := by
 have h1 : (stay p (l.take j)).length ≤ (l.take j).length := List.length_filter_le _ _
 rw [List.length_take] at h1
 omega
structure Sift (p : Ct → Bool) (l : List Ct) (i j : Nat) (r : List Ct) : Prop where
 len : r.length = l.length
 hd : r.take i = stay p (l.take j)
 il : i = (stay p (l.take j)).length
 tl : r.drop j = l.drop j
theorem Sift.skip {p : Ct → Bool} {l r : List Ct} {i j : Nat} (h : Sift p l i j r) (hj : j < l.length) (hp : p l[j] = true) : Sift p l i (j + 1) r := by
 have e := stay_next (p := p) hj
 rw [if_pos hp,List.append_nil] at e
 refine ⟨h.len,by rw [e]; exact h.hd,by rw [e]; exact h.il,?_⟩
 have := congrArg (List.drop 1) h.tl
 simpa [List.drop_drop] using this
theorem Sift.take {p : Ct → Bool} {l r : List Ct} {i j : Nat} (h : Sift p l i j r) (hj : j < l.length) (hp : p l[j] = false) : Sift p l (i + 1) (j + 1) (r.set i l[j]) := by
 have e := stay_next (p := p) hj
 simp only [hp] at e
 have hij : i ≤ j := by rw [h.il]; exact stay_len p l j
 have hl := h.len
 refine ⟨by simpa using hl, ?_, by rw [e]; simp [h.il], ?_⟩
 ·rw [e,← h.hd]
  rw [List.take_add_one,List.getElem?_set_self (by omega)]
  rw [List.take_set_of_le (Nat.le_refl _)]
  simp
 ·rw [List.drop_set_of_lt (by omega)]
  have := congrArg (List.drop 1) h.tl
  simpa [List.drop_drop] using this
theorem Sift.at_ {p : Ct → Bool} {l r : List Ct} {i j : Nat} (h : Sift p l i j r) (hj : j < l.length) : r[j]'(by rw [h.len]; exact hj) = l[j] := by
 have h1 : (r.drop j)[0]? = (l.drop j)[0]? := by rw [h.tl]
 rw [List.getElem?_drop,List.getElem?_drop,Nat.add_zero,List.getElem?_eq_getElem hj,List.getElem?_eq_getElem (by rw [h.len]; exact hj)] at h1
 exact Option.some.inj h1
theorem zCt (w : World) : (zeroValue 48).run Tryz.prog w = .ok (.agg #[u32 0,u32 0,u64 0,u64 0,u64 0]) w := by simp
set_option maxHeartbeats 1000000 in
theorem delf_c {w : World} {base : Nat} {v : Value} {l : List Ct} {f : FuncId} {fi ca : Array Value} (p : Ct → Bool) (h : w.ownsRow base 48 5 v l.length (l.flatMap ctC)) (hb : l.length ≤ 1000)
  (hp : ∀ x ∈ l,∀ W,Mod (fun k => slN v = false ∧ k = slB v) w W → CV Tryz.prog (.func (.func f) fi ca) [ctV x] W fun e W' => e = .returned (.bool (p x)) ∧ Ext W W') :
  FN Tryz.prog 85 [v,.func (.func f) fi ca] w fun e w' => ∃ v',e = .returned v' ∧ w'.ownsRow base 48 5 v' (stay p l).length ((stay p l).flatMap ctC) ∧ Mod (fun k => slN v = false ∧ k = slB v) w w' := by
 refine FN_enter Tryz.func85 rfl rfl (by kernel_rfl) ?_
 simp
 refine FN.mono (ixL_c p (sl_of_own h) (by omega) (fun x hx W hW => hp x hx W hW.mod)) ?_
 rintro _ w1 ⟨rfl,h1⟩
 have ho1 := own_ext h h1
 rcases hix : l.findIdx? p with _ | i
 ·have hst : stay p l = l := by
   unfold stay
   rw [List.filter_eq_self]
   intro x hx
   rw [List.findIdx?_eq_none_iff] at hix
   simp [hix x hx]
  have hi : ixOf p l = -1 := by unfold ixOf; rw [hix]
  simp [hi,hst]
  exact ⟨ho1,h1.mod⟩
 ·have hi : ixOf p l = i := by unfold ixOf; rw [hix]
  rw [List.findIdx?_eq_some_iff_getElem] at hix
  obtain ⟨hil,hpi,hno⟩ := hix
  have hNY : NoneYet p l i := fun j hj hji => by simpa using hno j hji
  have hne : ¬ (i : Int) = -1 := by omega
  have hw0 : IntKind.i64.wrap ((i : Int) + 1) = ((i + 1 : Nat) : Int) := by rw [wrap64 _ (by omega) (by omega)]; rfl
  simp [beq_dec,hi,hne,hw0]
  have hS0 : Sift p l i (i + 1) l := by
   have e := stay_take (p := p) (Nat.le_of_lt hil) hNY
   exact Sift.skip ⟨rfl,e.symm,by rw [e,List.length_take]; omega,rfl⟩ hil hpi
  refine WC_loop (fun k ρ ds w' => ∃ (i j : Nat) (r : List Ct), k = l.length - j ∧ j ≤ l.length ∧ i < j ∧ ρ 0 = v ∧ ρ 1 = .func (.func f) fi ca ∧ ρ 5 = i64 i ∧ ρ 6 = i64 j ∧ ds = [] ∧ Sift p l i j r ∧ w'.ownsRow base 48 5 v l.length (r.flatMap ctC) ∧ Mod (fun k => slN v = false ∧ k = slB v) w w') (l.length - (i + 1))
   ⟨i,i + 1,l,rfl,by omega,by omega,by simp,by simp,by simp,by simp,rfl,hS0,ho1,h1.mod⟩ ?_
  rintro k ρ ds w2 ⟨i,j,r,rfl,hj,hij,e0,e1,e5,e6,rfl,hS,ho,hM⟩
  have hlen := fun ty W => (sl_of_own ho).isLen (P := Tryz.prog) (t := 136) (by simp) ty W
  have hrl := hS.len
  by_cases hlt : j < l.length
  ·have hs2 := sl_of_own ho
   have hs2' : Sl w2 5 v r.length (r.flatMap ctC) := by rw [hrl]; exact hs2
   have g := ctRow hs2' (i := j) (by omega)
   rw [hS.at_ hlt] at g
   have ix := fun W => hs2.index (P := Tryz.prog) (t := 136) (by simp) .i64 j (by omega) (by omega) W
   have ixi := fun W => hs2.index (P := Tryz.prog) (t := 136) (by simp) .i64 i (by omega) (by omega) W
   simp at ix ixi
   simp [e0,e1,e6,hlen,hlt,ix,g.c0,g.c1,g.c2,g.c3,g.c4]
   have hE3 := (Ext.refl w2).alloc (.cells #[u32 l[j].fr,u32 l[j].to',u64 l[j].sf,u64 l[j].su,u64 l[j].rate] 48)
   have hB3 := Blk.new w2 (ctC l[j]) 48
   rw [show (ctC l[j]).toArray = #[u32 l[j].fr,u32 l[j].to',u64 l[j].sf,u64 l[j].su,u64 l[j].rate] from rfl] at hB3
   generalize (w2.alloc (.cells #[u32 l[j].fr,u32 l[j].to',u64 l[j].sf,u64 l[j].su,u64 l[j].rate] 48)) = w3 at *
   refine CV.mono (hp l[j] (List.getElem_mem hlt) w3 (hM.trans hE3.mod)) ?_
   rintro _ w4 ⟨rfl,hE4⟩
   have hE34 := hE3.trans hE4
   have ho4 := own_ext ho hE34
   have hM4 := hM.trans hE34.mod
   have hwj : IntKind.i64.wrap ((j : Int) + 1) = ((j + 1 : Nat) : Int) := by rw [wrap64 _ (by omega) (by omega)]; rfl
   have hwi : IntKind.i64.wrap ((i : Int) + 1) = ((i + 1 : Nat) : Int) := by rw [wrap64 _ (by omega) (by omega)]; rfl
   cases hpj : p l[j] with
   | true =>
    simp [e0,e1,e5,e6,hwj]
    exact ⟨l.length - (j + 1),by omega,i,j + 1,rfl,by omega,by omega,rfl,rfl,r,hS.skip hlt hpj,ho4,hM4⟩
   | false =>
    have b4 := hB3.ext hE4
    have hs4 : Sl w4 5 v r.length (r.flatMap ctC) := by rw [hrl]; exact sl_of_own ho4
    have gi := ctRow hs4 (i := i) (by omega)
    have hn := own_nil ho4 (by omega)
    have th := fun j => own_thaw ho4 (by omega) j
    have ho4' : w4.ownsRow base 48 5 v r.length (r.flatMap ctC) := by rw [hrl]; exact ho4
    have hput := own_put ctC (fun _ => rfl) ho4' i (by omega) l[j]
    have hMp : Mod (fun k => k = slB v) w4 (putC w4 (slB v) (slO v + i * 5) (ctC l[j])) := putC_mod _ _ (Mod.refl _ _)
    simp [e0,e1,e5,e6,ixi,b4.cell 0 _ rfl,b4.cell 1 _ rfl,b4.cell 2 _ rfl,b4.cell 3 _ rfl,b4.cell 4 _ rfl,gi.c0,gi.c1,gi.c2,gi.c3,gi.c4,th,cell_setCell,hwj,hwi]
    refine ⟨l.length - (j + 1),by omega,i + 1,j + 1,rfl,by omega,by omega,rfl,rfl,r.set i l[j],hS.take hlt hpj,?_,hM4.trans (hMp.weaken fun k hk => ⟨hn,hk⟩)⟩
    rw [List.length_set,hrl] at hput
    exact hput
  ·have : j = l.length := by omega
   subst this
   have hs2 := sl_of_own ho
   have sL := hs2.sliceL (P := Tryz.prog) (t := 136) (by simp) .i64 i (by omega) (by omega)
   simp at sL
   obtain ⟨w5,hc,ho5,hM5,hsz5⟩ := clear_rest (P := Tryz.prog) (t := 136) (ty := 136) (e := 48) (by simp) (by simp) zCt (by simp) (by simp [Value.oneCell']) ho i (by omega)
   have hc0 : ∀ ty,(Builtin.clear_ #[136] ty #[slcL v i 5]).run Tryz.prog w2 = .ok (.tuple #[]) w5 := fun _ => hc
   have sH := (Sl.sliceH (P := Tryz.prog) (t := 136) hs2 (by simp) .i64 i (by omega) (by omega) w5)
   simp at sH
   simp [e0,e5,e6,hlen,sL,hc0,sH]
   have e : r.take i = stay p l := by have := hS.hd; rwa [List.take_length] at this
   have el : i = (stay p l).length := by have := hS.il; rwa [List.take_length] at this
   rw [← flat_take ctC (s := 5) (fun _ => rfl),e] at ho5
   rw [← el]
   exact ⟨ho5,hM.trans hM5⟩
theorem prune1_c {w : World} {b : Nat} {a : Int} (hv : Var w b (u64 a)) (c : Ct) : FN Tryz.prog 87 [ctV c, ptr b] w fun e w' => e = .returned (.bool (decide (c.su ≤ a))) ∧ Ext w w' := by
 refine FN_enter Tryz.func87 rfl rfl (by kernel_rfl) ?_
 have hE := (Ext.refl w).alloc (.cells #[u32 c.fr,u32 c.to',u64 c.sf,u64 c.su,u64 c.rate] 48)
 simp [(hv.ext hE).cell]
 exact hE
def pruneL (l : List Ct) (a : Int) : List Ct := stay (fun c => decide (c.su ≤ a)) l
theorem pruneL_len (l : List Ct) (a : Int) : (pruneL l a).length ≤ l.length := List.length_filter_le _ _
theorem prune_c {w : World} {p : Nat} {v : Value} {l : List Ct} (hP : PlanAt w p v l) (hb : l.length ≤ 1000) (a : Int) : FN Tryz.prog 30 [ptr p, u64 a] w fun e w' => e = .returned (.tuple #[i64 (l.length - (pruneL l a).length), i64 0]) ∧ ∃ v', PlanAt w' p v' (pruneL l a) ∧ Mod (· = p) w w' ∧ (slN v' = false → w.heap.size ≤ slB v') := by
 refine FN_enter Tryz.func30 rfl rfl (by kernel_rfl) ?_
 simp
 have hE := (Ext.refl w).alloc (.cells #[u64 a] 28)
 have hv := Var.new w (u64 a) 28
 have hP1 := hP.ext hE
 have hsz : (w.alloc (.cells #[u64 a] 28)).heap.size = w.heap.size + 1 := by simp
 generalize (w.alloc (.cells #[u64 a] 28)) = w1 at *
 refine FN.mono (cnone_c hP1) ?_
 rintro _ _ ⟨rfl,rfl⟩
 rename_i w1
 simp [hP1.blk.cell 0 _ rfl]
 refine FN.mono (clen_c hP1.row) ?_
 rintro _ _ ⟨rfl,rfl⟩
 rename_i w1
 simp [hP1.blk.cell 0 _ rfl]
 refine FN.mono (cclone_c hP1.row (by omega)) ?_
 rintro _ w2 ⟨u,rfl,ho,hE2⟩
 simp
 have hpl := hP.lt
 have hnR : ∀ {k : Nat}, k < w1.heap.size → ¬ (slN u = false ∧ k = slB u) := fun hk h => by
  have := own_ge ho h.1; omega
 refine FN.mono (delf_c (fun c => decide (c.su ≤ a)) ho hb (fun x _ W hW => prune1_c ((hv.ext hE2).mod hW (hnR (by omega))) x)) ?_
 rintro _ w3 ⟨u3,rfl,ho3,hM3⟩
 have hX2 := hE.trans hE2
 have hX3 : Ext w w3 := ((hX2.mod (S := fun k => w1.heap.size ≤ k)).trans (hM3.weaken fun k hk => by have := own_ge ho hk.1; omega)).ext fun k hk => by omega
 have hP3 := hP.ext hX3
 obtain ⟨a3,c3,rfl⟩ := own_val ho3
 have hn3 : (stay (fun c => decide (c.su ≤ a)) l).length = (pruneL l a).length := rfl
 simp [hP3.blk.cell 0 _ rfl,hP3.blk.thaw 0]
 have hM := Mod.setCell (S := (· = p)) (Mod.refl _ w3) ⟨p,0,none⟩ (.slice a3 (stay (fun c => decide (c.su ≤ a)) l).length c3) (.inl rfl)
 have hP4 : PlanAt (w3.setCell ⟨p, 0, none⟩ (.slice a3 (stay (fun c => decide (c.su ≤ a)) l).length c3)) p (.slice a3 (stay (fun c => decide (c.su ≤ a)) l).length c3) (pruneL l a) :=
  ⟨hP3.blk.set 0 _, sl_mod (sl_of_own ho3) hM fun hne e => by
   have h0 : slN (.slice a3 (stay (fun c => decide (c.su ≤ a)) l).length c3) = false := by
    refine own_nil ho3 (Nat.pos_of_ne_zero fun e0 => hne ?_)
    unfold pruneL; rw [List.length_eq_zero_iff.1 e0]; rfl
   have := own_ge ho3 h0
   omega⟩
 simp [hP4.blk.cell 0 _ rfl]
 refine FN.mono (clen_c hP4.row) ?_
 rintro _ _ ⟨rfl,rfl⟩
 have hpl2 := pruneL_len l a
 simp
 refine ⟨by rw [wrap64 _ (by omega) (by omega)],_,hP4,hX3.mod.trans hM,fun hn => ?_⟩
 have := own_ge ho3 hn
 omega
end Go.Proofs