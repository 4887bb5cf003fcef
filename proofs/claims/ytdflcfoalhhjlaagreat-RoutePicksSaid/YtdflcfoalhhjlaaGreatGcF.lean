/-
 Contracts of the functions that the law reaches,step by step.
-/
import Derived.Test.YtdflcfoalhhjlaaGreatGcD
namespace Go.Proofs
open Pk
set_option maxRecDepth 10000
theorem askedC_c {w : World} {v : Value} (qs : List Qn) (hs : Sl w 2 v qs.length (askCells qs)) (hb : qs.length ≤ 1000) (hf : ∀ q ∈ qs, ∃ f x y, q.f = .func f x y)
  (hq : ∀ (i : Nat) (q : Qn),qs[i]? = some q → (∀ (j : Nat) (p : Qn),j < i → qs[j]? = some p → p.b = false) → ∀ w',Ext w w' → CV Tryz.prog q.f [] w' fun e w'' => e = .returned (.bool q.b) ∧ Ext w' w'') :
  FN Tryz.prog 65 [v] w fun e w' => e = .returned (.int .i64 (askE qs)) ∧ Ext w w' := by
 refine FN_enter Tryz.func65 rfl rfl (by kernel_rfl) ?_
 simp
 refine WC_scope 0 _ rfl ?_
 simp [hs.isLen]
 refine WC_loop (fun k ρ ds w' => ∃ i : Nat,k = qs.length - i ∧ i ≤ qs.length ∧ ρ 5 = v ∧ ρ 6 = .int .i64 qs.length ∧ ρ 7 = .int .i64 i ∧ ds = [] ∧ Ext w w' ∧ ∀ (j : Nat) (q : Qn),j < i → qs[j]? = some q → q.b = false) qs.length ⟨0,by simp [Ext.refl]⟩ ?_
 rintro k ρ ds w1 ⟨i,rfl,hi,e5,e6,e7,rfl,hE,hno⟩
 by_cases hlt : i < qs.length
 ·have hq0 : qs[i]? = some qs[i] := by simp [hlt]
  obtain ⟨c1,c2⟩ := askCells_at qs i _ hq0
  have hs1 := hs.ext hE
  have d1 := hs1.at_ _ _ c1
  have d2 := hs1.at_ _ _ c2
  rw [← Nat.add_assoc] at d2
  have hix := hs1.index (P := Tryz.prog) (t := 193) (by simp) .i64 i (by omega) (by omega) w1
  obtain ⟨f,x,y,hfv⟩ := hf qs[i] (by simp)
  have hcall := hq i _ hq0 hno
  rw [hfv] at d1 hcall
  simp [e5,e6,e7,hlt,hix,d1,d2]
  have hE1 := (Ext.refl w1).alloc (.cells #[.func f x y,.int .i64 qs[i].e] 147)
  refine CV.mono (hcall _ (hE.trans hE1)) ?_
  rintro _ w2 ⟨rfl,hE2⟩
  cases hqb : qs[i].b with
  | true =>
   simp
   exact ⟨(askE_at qs i _ hq0 hqb hno).symm,(hE.trans hE1).trans hE2⟩
  | false =>
   simp [e5,e6,e7]
   refine ⟨qs.length - (i + 1), by omega, i + 1, rfl, by omega, ?_, (hE.trans hE1).trans hE2, ?_⟩
   ·rw [wrap64 _ (by omega) (by omega)]; rfl
   ·intro j q hj hjq
    rcases Nat.lt_succ_iff_lt_or_eq.1 hj with h1 | rfl
    ·exact hno j q h1 hjq
    ·rw [hq0] at hjq; cases hjq; exact hqb
 ·simp [e6,e7,hlt]
  exact ⟨(askE_none qs fun j q hj => hno j q (by have := (List.getElem?_eq_some_iff.1 hj).1; omega) hj).symm,hE⟩
theorem add1_c {w : World} {b : Nat} {c : Ct} (hc : CtOk c) (h : Blk w b (ctC c)) : FN Tryz.prog 67 [ptr b] w fun e w' => e = .returned (.bool (!ctRight c)) ∧ Ext w w' := by
 refine FN_enter Tryz.func67 rfl rfl (by kernel_rfl) ?_
 simp [h.cell 0 _ rfl,h.cell 1 _ rfl,h.cell 2 _ rfl,h.cell 3 _ rfl,h.cell 4 _ rfl]
 refine FN.mono (check_c c hc w) ?_
 rintro _ w1 ⟨rfl,h1⟩
 cases hr : ctRight c with
 | true => simp; exact h1
 | false => simp; exact h1
theorem add21_c {w : World} {b : Nat} {c : Ct} (h : Blk w b (ctC c)) (s : Sp2) : FN Tryz.prog 71 [spV s, ptr b] w fun e w' => e = .returned (.bool (bothB s ⟨c.sf, c.su⟩)) ∧ Ext w w' := by
 refine FN_enter Tryz.func71 rfl rfl (by kernel_rfl) ?_
 have hE := (Ext.refl w).alloc (.cells #[u64 s.from',u64 s.til] 62)
 have h1 := h.ext hE
 simp [h1.cell 2 _ rfl,h1.cell 3 _ rfl]
 generalize (w.alloc (.cells #[u64 s.from',u64 s.til] 62)) = w1 at *
 refine FN.mono (both_c s ⟨c.sf,c.su⟩ w1) ?_
 rintro _ w2 ⟨rfl,h2⟩
 simp
 exact (hE.trans h2).alloc _
def clash (l : List Ct) (c : Ct) : Bool := l.any (betP c.fr c.to' fun s => bothB s ⟨c.sf,c.su⟩)
theorem add2_c {w : World} {b0 b1 p : Nat} {v : Value} {l : List Ct} {c : Ct} (v0 : Var w b0 (ptr p)) (h : Blk w b1 (ctC c)) (hP : PlanAt w p v l) (hb : l.length ≤ 1000000) : FN Tryz.prog 69 [ptr b0, ptr b1] w fun e w' => e = .returned (.bool (clash l c)) ∧ Ext w w' := by
 refine FN_enter Tryz.func69 rfl rfl (by kernel_rfl) ?_
 simp
 refine WC_drawC 9 (.F 0 <| .F 1 <| .F 2 <| .F 3 <| .F 4 <| .F 5 <| .F 6 <| .F 7 <| .F 8 <| .Z) (fun _ => false) rfl (by kernel_rfl) fun W hW => ?_
 have hE : Ext w W := hW ▸ Ext.drew w
 have h1 := h.ext hE
 have hP1 := hP.ext hE
 simp [(v0.ext hE).cell,h1.cell 0 _ rfl,h1.cell 1 _ rfl,hP1.blk.cell 0 _ rfl]
 refine FN.mono (cbet_c (fun s => bothB s ⟨c.sf,c.su⟩) hP1.row hb (fun x hx W' hW' => add21_c (h1.ext hW') ⟨x.sf,x.su⟩)) ?_
 rintro _ w2 ⟨rfl,h2⟩
 simp [ixOf_geq,clash]
 exact hE.trans h2
theorem add3_c {w : World} {b0 p : Nat} {v : Value} {l : List Ct} (v0 : Var w b0 (ptr p)) (hP : PlanAt w p v l) : FN Tryz.prog 73 [ptr b0] w fun e w' => e = .returned (.bool (decide (256 ≤ l.length))) ∧ w' = w := by
 refine FN_enter Tryz.func73 rfl rfl (by kernel_rfl) ?_
 simp [v0.cell,hP.blk.cell 0 _ rfl]
 refine FN.mono (clen_c hP.row) ?_
 rintro _ _ ⟨rfl,rfl⟩
 simp
 omega
def addE (l : List Ct) (c : Ct) : Int := if ctRight c = false then 2 else if clash l c then 270 else if 256 ≤ l.length then 271 else 0
def addL (l : List Ct) (c : Ct) : List Ct := l.take (kOf l c) ++ (c :: l.drop (kOf l c))
theorem addL_len (l : List Ct) (c : Ct) : (addL l c).length = l.length + 1 := by
 have := kOf_le l c
 simp [addL]; omega
theorem cadd_c {w : World} {p : Nat} {v : Value} {l : List Ct} {c : Ct} (hP : PlanAt w p v l) (hb : l.length ≤ 1000) (hs : l.Pairwise aheadP) (hc : CtOk c) :
  FN Tryz.prog 31 [ptr p,ctV c] w fun e w' => e = .returned (i64 (addE l c)) ∧ ∃ v',PlanAt w' p v' (if addE l c = 0 then addL l c else l) ∧ Mod (· = p) w w' ∧ (v' = v ∨ w.heap.size ≤ slB v') := by
 refine FN_enter Tryz.func31 rfl rfl (by kernel_rfl) ?_
 have hE : Ext w ((w.alloc (.cells #[ptr p] 84)).alloc (.cells #[u32 c.fr,u32 c.to',u64 c.sf,u64 c.su,u64 c.rate] 64)) := ((Ext.refl w).alloc _).alloc _
 have v0 : Var ((w.alloc (.cells #[ptr p] 84)).alloc (.cells #[u32 c.fr,u32 c.to',u64 c.sf,u64 c.su,u64 c.rate] 64)) w.heap.size (ptr p) := (Var.new w (ptr p) 84).ext ((Ext.refl _).alloc _)
 have hB : Blk ((w.alloc (.cells #[ptr p] 84)).alloc (.cells #[u32 c.fr, u32 c.to', u64 c.sf, u64 c.su, u64 c.rate] 64)) (w.heap.size + 1) (ctC c) := by
  have := Blk.new (w.alloc (.cells #[ptr p] 84)) (ctC c) 64
  simpa using this
 have hP1 := hP.ext hE
 have hsz : ((w.alloc (.cells #[ptr p] 84)).alloc (.cells #[u32 c.fr,u32 c.to',u64 c.sf,u64 c.su,u64 c.rate] 64)).heap.size = w.heap.size + 1 + 1 := by simp
 simp [v0.cell]
 generalize ((w.alloc (.cells #[ptr p] 84)).alloc (.cells #[u32 c.fr,u32 c.to',u64 c.sf,u64 c.su,u64 c.rate] 64)) = w1 at *
 let qs : List Qn := [⟨.func (.func 66) #[ptr p] #[],1,false⟩,⟨.func (.func 67) #[] #[ptr (w.heap.size + 1)],2,!ctRight c⟩,⟨.func (.func 69) #[] #[ptr w.heap.size,ptr (w.heap.size + 1)],270,clash l c⟩,⟨.func (.func 73) #[] #[ptr w.heap.size],271,decide (256 ≤ l.length)⟩]
 have hsl := Sl.made w1 (askCells qs) 147 2 4 rfl
 rw [hsz] at hsl
 have he3 := (Ext.refl w1).alloc (.cells (askCells qs).toArray 147)
 refine FN.mono (askedC_c qs hsl (by simp [qs]) ?_ ?_) ?_
 ·intro q hq
  simp [qs] at hq
  rcases hq with rfl | rfl | rfl | rfl <;> exact ⟨_,_,_,rfl⟩
 ·intro i q hq hno w' hw'
  have hx := he3.trans hw'
  match i,hq with
  | 0, hq =>
   simp [qs] at hq; subst hq
   exact FN.mono (cnone_c (hP1.ext hx)) fun _ _ h => ⟨h.1,h.2 ▸ Ext.refl _⟩
  | 1, hq =>
   simp [qs] at hq; subst hq
   exact add1_c hc (hB.ext hx)
  | 2, hq =>
   simp [qs] at hq; subst hq
   exact add2_c (v0.ext hx) (hB.ext hx) (hP1.ext hx) (by omega)
  | 3, hq =>
   simp [qs] at hq; subst hq
   exact FN.mono (add3_c (v0.ext hx) (hP1.ext hx)) fun _ _ h => ⟨h.1,h.2 ▸ Ext.refl _⟩
  | i + 4,hq => simp [qs] at hq
 ·rintro _ w3 ⟨rfl,h3⟩
  have hq : askE qs = addE l c := by
   simp [qs,askE,addE]
  rw [hq]
  have hx := he3.trans h3
  have hX := hE.trans hx
  have v3 := v0.ext hx
  have hB3 := hB.ext hx
  have hP3 := hP1.ext hx
  by_cases h0 : addE l c = 0
  ·simp [h0]
   refine WC_drawC 10 (.F 0 <| .F 1 <| .F 2 <| .F 3 <| .F 4 <| .C 5 <| .F 6 <| .F 7 <| .F 8 <| .F 9 <| .Z) (fun _ => false) rfl (by kernel_rfl) fun W hW => ?_
   have hWE : Ext w3 W := hW ▸ Ext.drew w3
   have v4 := v3.ext hWE
   have hB4 := hB3.ext hWE
   have hP4 := hP3.ext hWE
   simp [v4.cell,hP4.blk.cell 0 _ rfl,hB4.cell 0 _ rfl,hB4.cell 1 _ rfl,hB4.cell 2 _ rfl,hB4.cell 3 _ rfl,hB4.cell 4 _ rfl]
   refine FN.mono (bs_c hP4.row (by omega) hs c) ?_
   rintro _ W5 ⟨b5,rfl,h5⟩
   simp
   refine KR_ext h5 ?_
   simp
   refine WC_drawC 18 (.F 0 <| .F 1 <| .F 2 <| .F 3 <| .F 4 <| .F 5 <| .F 6 <| .F 7 <| .F 8 <| .F 10 <| .F 11 <| .F 12 <| .F 13 <| .F 14 <| .F 15 <| .C 9 <| .C 16 <| .C 17 <| .Z) (fun _ => false) rfl (by kernel_rfl) fun W6 hW6 => ?_
   have hE6 : Ext W W6 := h5.trans (hW6 ▸ Ext.drew W5)
   have v6 := v4.ext hE6
   have hB6 := hB4.ext hE6
   have hP6 := hP4.ext hE6
   have hk := kOf_le l c
   have sHM := hP6.row.sliceHM (P := Tryz.prog) (t := 137) (by simp) .i64 .i64 (kOf l c) (kOf l c) (by omega) (by omega) (by omega) W6
   have sL := hP6.row.sliceL (P := Tryz.prog) (t := 137) (by simp) .i64 (kOf l c) (by omega) (by omega) W6
   simp at sHM sL
   have s1 := hP6.row.takeHM (kOf l c) (kOf l c) (Nat.le_refl _) hk
   have s3 := hP6.row.dropL (kOf l c) hk
   rw [← flat_take ctC (s := 5) (fun _ => rfl)] at s1
   rw [← flat_drop ctC (s := 5) (fun _ => rfl)] at s3
   obtain ⟨a1,c1,e1⟩ := s1.isSlice
   obtain ⟨a3,c3,e3⟩ := s3.isSlice
   rw [e1] at sHM s1
   rw [e3] at sL s3
   simp [v6.cell,hP6.blk.cell 0 _ rfl,hB6.cell 0 _ rfl,hB6.cell 1 _ rfl,hB6.cell 2 _ rfl,hB6.cell 3 _ rfl,hB6.cell 4 _ rfl,sHM,sL]
   have hE7 := (Ext.refl W6).alloc (.cells #[u32 c.fr,u32 c.to',u64 c.sf,u64 c.su,u64 c.rate] 64)
   have s2 : Sl (W6.alloc (.cells #[u32 c.fr,u32 c.to',u64 c.sf,u64 c.su,u64 c.rate] 64)) 5 (.slice (some ⟨W6.heap.size,0,none⟩) 1 1) 1 ([c].flatMap ctC) := Sl.made W6 (ctC c) 64 5 1 rfl
   refine KR_ext hE7 ?_
   have s1' := s1.ext hE7
   have s3' := s3.ext hE7
   generalize (W6.alloc (.cells #[u32 c.fr,u32 c.to',u64 c.sf,u64 c.su,u64 c.rate] 64)) = W7 at *
   simp
   have hE8 := (Ext.refl W7).alloc (.cells #[.slice a1 (kOf l c) c1,.slice (some ⟨W6.heap.size,0,none⟩) 1 1,.slice a3 (l.length - kOf l c) c3] 137)
   have sV := Sl.made W7 [.slice a1 (kOf l c) c1,.slice (some ⟨W6.heap.size,0,none⟩) 1 1,.slice a3 (l.length - kOf l c) c3] 137 1 3 rfl
   refine KR_ext hE8 ?_
   have hR : ccat_Rows (W7.alloc (.cells #[.slice a1 (kOf l c) c1, .slice (some ⟨W6.heap.size, 0, none⟩) 1 1, .slice a3 (l.length - kOf l c) c3] 137)) [.slice a1 (kOf l c) c1, .slice (some ⟨W6.heap.size, 0, none⟩) 1 1, .slice a3 (l.length - kOf l c) c3] [l.take (kOf l c), [c], l.drop (kOf l c)] := by
    refine ⟨rfl,fun i x b hx hb => ?_⟩
    match i,hx,hb with
    | 0,hx,hb => simp at hx hb; subst hx hb; simpa [Nat.min_eq_left hk] using s1'.ext hE8
    | 1,hx,hb => simp at hx hb; subst hx hb; exact s2.ext hE8
    | 2,hx,hb => simp at hx hb; subst hx hb; simpa using s3'.ext hE8
    | i + 3,hx,hb => simp at hx
   have e8 : ([.slice a1 (kOf l c) c1,.slice (some ⟨W6.heap.size,0,none⟩) 1 1,.slice a3 (l.length - kOf l c) c3] : List Value).toArray = #[.slice a1 (kOf l c) c1,.slice (some ⟨W6.heap.size,0,none⟩) 1 1,.slice a3 (l.length - kOf l c) c3] := rfl
   rw [e8] at sV
   generalize (W7.alloc (.cells #[.slice a1 (kOf l c) c1,.slice (some ⟨W6.heap.size,0,none⟩) 1 1,.slice a3 (l.length - kOf l c) c3] 137)) = W8 at *
   simp
   have hfl : [l.take (kOf l c),[c],l.drop (kOf l c)].flatten = addL l c := by simp [addL]
   have hll := addL_len l c
   refine FN.mono (ccat_c (vs := [.slice a1 (kOf l c) c1,.slice (some ⟨W6.heap.size,0,none⟩) 1 1,.slice a3 (l.length - kOf l c) c3]) sV hR (by simp) (by rw [hfl,hll]; omega)) ?_
   rintro _ W9 ⟨v9,rfl,ho9,h9⟩
   rw [hfl] at ho9
   simp
   refine KR_ext h9 ?_
   have hX9 := ((hX.trans hWE).trans hE6).trans (hE7.trans (hE8.trans h9))
   have hP9 := (hP6.ext hE7).ext (hE8.trans h9)
   have v9' := (v6.ext hE7).ext (hE8.trans h9)
   obtain ⟨a9,c9,rfl⟩ := own_val ho9
   simp [hP9.blk.cell 0 _ rfl,hP9.blk.thaw 0]
   have hM := Mod.setCell (S := (· = p)) (Mod.refl _ W9) ⟨p,0,none⟩ (.slice a9 (addL l c).length c9) (.inl rfl)
   have hpl := hP.lt
   have hnn : slN (.slice a9 (addL l c).length c9) = false := own_nil ho9 (by omega)
   have hge := own_ge ho9 hnn
   have h8s := (((hX.trans hWE).trans hE6).trans (hE7.trans hE8)).size
   refine ⟨.slice a9 (addL l c).length c9,⟨hP9.blk.set 0 _,(sl_of_own ho9).mod hM (fun e => ?_)⟩,hX9.mod.trans hM,.inr (by omega)⟩
   omega
  ·simp [h0,beq_dec]
   exact ⟨v,hP3,hX.mod,.inl rfl⟩
end Go.Proofs
namespace Go.Proofs
open Pk
set_option maxRecDepth 10000
theorem fCt : flatA Tryz.prog 64 = some [.int .u32,.int .u32,.int .u64,.int .u64,.int .u64] := by kernel_rfl
theorem ct_eqcs (a b : Ct) : eqcs (ctC a) (ctC b) = decide (a = b) := by
 obtain ⟨a1,a2,a3,a4,a5⟩ := a
 obtain ⟨b1,b2,b3,b4,b5⟩ := b
 rw [Bool.eq_iff_iff]
 simp [eqcs,eqc]
theorem ct_eq (a b : Ct) (w : World) : (binOp .eql 64 (ctV a) (ctV b)).run Tryz.prog w = .ok (.bool (decide (a = b))) w := by
 rw [← ct_eqcs]
 exact run_eql_flat w fCt _ _ rfl rfl
theorem cidx_c {w : World} {v : Value} {l : List Ct} (h : SlB w 5 v l.length (l.flatMap ctC)) (hb : l.length ≤ 1000000) (c : Ct) : FN Tryz.prog 147 [v, ctV c] w fun e w' => e = .returned (i64 (ixOf (fun x => decide (c = x)) l)) ∧ Ext w w' := by
 refine FN_enter Tryz.func147 rfl rfl (by kernel_rfl) ?_
 have hlen := fun ty W => h.isLen (P := Tryz.prog) (t := 22) (by simp) ty W
 have hE := (Ext.refl w).alloc (.cells #[u32 c.fr,u32 c.to',u64 c.sf,u64 c.su,u64 c.rate] 64)
 have hB := Blk.new w (ctC c) 64
 rw [show (ctC c).toArray = #[u32 c.fr,u32 c.to',u64 c.sf,u64 c.su,u64 c.rate] from rfl] at hB
 simp [hlen]
 generalize (w.alloc (.cells #[u32 c.fr,u32 c.to',u64 c.sf,u64 c.su,u64 c.rate] 64)) = w0 at *
 refine WC_loop (fun k ρ ds w' => ∃ i : Nat,k = l.length - i ∧ i ≤ l.length ∧ ρ 0 = v ∧ ρ 3 = ptr w.heap.size ∧ ρ 7 = i64 l.length ∧ ρ 8 = i64 i ∧ ds = [] ∧ Ext w0 w' ∧ NoneYet (fun x => decide (c = x)) l i) l.length ⟨0,by simp,by simp,by simp,by simp,by simp,by simp,rfl,Ext.refl _,noneYet_0 _ l⟩ ?_
 rintro k ρ ds w1 ⟨i,rfl,hi,e0,e3,e7,e8,rfl,hE1,hno⟩
 by_cases hlt : i < l.length
 ·simp [e7,e8,hlt]
  refine WC_drawC 6 (.F 0 <| .F 1 <| .F 2 <| .F 3 <| .F 4 <| .C 5 <| .Z) (fun _ => false) rfl (by kernel_rfl) fun W hW => ?_
  have hWE : Ext w1 W := hW ▸ Ext.drew w1
  have hX := hE1.trans hWE
  have hS := (h.toSl (by omega)).ext (hE.trans hX)
  have g := ctRow hS hlt
  have ix := hS.index (P := Tryz.prog) (t := 22) (by simp) .i64 i (by omega) (by omega) W
  have b1 := hB.ext hX
  simp at ix
  simp [e0,e3,ix,g.c0,g.c1,g.c2,g.c3,g.c4,b1.cell 0 _ rfl,b1.cell 1 _ rfl,b1.cell 2 _ rfl,b1.cell 3 _ rfl,b1.cell 4 _ rfl]
  have q := ct_eq c l[i] W
  simp only [ctV] at q
  simp [q]
  refine KR_same ?_
  simp
  by_cases hp : c = l[i]
  ·have dp : decide (c = l[i]) = true := decide_eq_true hp
   simp [dp,ixOf_some hlt hno dp]
   exact hE.trans hX
  ·have dp : decide (c = l[i]) = false := decide_eq_false hp
   simp [dp,e0,e3,e7,e8]
   exact ⟨l.length - (i + 1),by omega,i + 1,rfl,by omega,by rw [wrap64 _ (by omega) (by omega)]; rfl,hX,noneYet_s hlt hno (by simp [hp])⟩
 ·have : i = l.length := by omega
  subst this
  simp [e7,e8,ixOf_none hno]
  exact hE.trans hE1
theorem ccon_c {w : World} {v : Value} {l : List Ct} (h : SlB w 5 v l.length (l.flatMap ctC)) (hb : l.length ≤ 1000000) (c : Ct) : FN Tryz.prog 125 [v, ctV c] w fun e w' => e = .returned (.bool (decide (c ∈ l))) ∧ Ext w w' := by
 refine FN_enter Tryz.func125 rfl rfl (by kernel_rfl) ?_
 have hE := (Ext.refl w).alloc (.cells #[u32 c.fr,u32 c.to',u64 c.sf,u64 c.su,u64 c.rate] 64)
 simp
 generalize (w.alloc (.cells #[u32 c.fr,u32 c.to',u64 c.sf,u64 c.su,u64 c.rate] 64)) = w0 at *
 refine FN.mono (cidx_c (h.ext hE) hb c) ?_
 rintro _ w1 ⟨rfl,h1⟩
 simp [ixOf_geq]
 refine ⟨?_,hE.trans h1⟩
 rw [Bool.eq_iff_iff]; simp
end Go.Proofs