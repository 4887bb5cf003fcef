/-
 Contracts of the functions that the law reaches,step by step.
-/
import Derived.Test.YtdflcfoalhhjlaaGreatGvA
namespace Go.Proofs
open Pk
set_option maxRecDepth 10000
theorem vasked1_c {w : World} {b0 b1 : Nat} {c : Ct} {n : Int} (h : Blk w b0 (ctC c)) (hv : Var w b1 (u64 n)) (hc : CtOk c) : FN Tryz.prog 100 [ptr b0, ptr b1] w fun e w' => e = .returned (.bool (!ctRight c || decide (n = 0))) ∧ Ext w w' := by
 refine FN_enter Tryz.func100 rfl rfl (by kernel_rfl) ?_
 simp [(h).cell 0 _ rfl,(h).cell 1 _ rfl,(h).cell 2 _ rfl,(h).cell 3 _ rfl,(h).cell 4 _ rfl]
 refine FN.mono (vright_c c hc w) ?_
 rintro _ w1 ⟨rfl,h1⟩
 have hv1 := (hv.ext h1).cell
 cases hr : ctRight c with
 | false => simp; exact h1
 | true =>
  by_cases h0 : n = 0
  ·have d0 : decide (n = 0) = true := decide_eq_true h0
   simp [beq_dec,hv1,d0]
   exact h1
  ·simp [beq_dec,hv1,h0]
   exact h1
theorem askCells_app (a b : List Qn) : askCells (a ++ b) = askCells a ++ askCells b := by simp [askCells]
theorem ask_one {qs : List Qn} (hf : ∀ q ∈ qs, ∃ f x y, q.f = .func f x y) : ∀ u ∈ askCells qs, u.oneCell' = true := by
 intro u hu
 obtain ⟨q,hq,hu⟩ := List.mem_flatMap.1 hu
 obtain ⟨f,x,y,e⟩ := hf q hq
 simp [e] at hu
 rcases hu with rfl | rfl <;> rfl
def vaskE (c : Ct) (n : Int) (qs : List Qn) : Int := if (!ctRight c || decide (n = 0)) = true then 2 else askE qs
set_option maxHeartbeats 1000000 in
theorem vasked_c {w : World} {q r : Nat} {m : VM} {v : Value} {c : Ct} {n : Int} (h : LedAt w q r m) (hc : CtOk c) (qs : List Qn) (hs : Sl w 2 v qs.length (askCells qs)) (hb : qs.length ≤ 1000) (hf : ∀ q ∈ qs, ∃ f x y, q.f = .func f x y)
  (hq : ctRight c = true → n ≠ 0 → ∀ (i : Nat) (q : Qn),qs[i]? = some q → (∀ (j : Nat) (p : Qn),j < i → qs[j]? = some p → p.b = false) → ∀ w',Ext w w' → CV Tryz.prog q.f [] w' fun e w'' => e = .returned (.bool q.b) ∧ Ext w' w'') :
  FN Tryz.prog 41 [ptr q,ctV c,u64 n,v] w fun e w' => e = .returned (i64 (vaskE c n qs)) ∧ Ext w w' := by
 refine FN_enter Tryz.func41 rfl rfl (by kernel_rfl) ?_
 have hE2 : Ext w ((w.alloc (.cells #[u32 c.fr,u32 c.to',u64 c.sf,u64 c.su,u64 c.rate] 64)).alloc (.cells #[u64 n] 27)) := ((Ext.refl w).alloc _).alloc _
 have hB : Blk ((w.alloc (.cells #[u32 c.fr,u32 c.to',u64 c.sf,u64 c.su,u64 c.rate] 64)).alloc (.cells #[u64 n] 27)) w.heap.size (ctC c) := (Blk.new w (ctC c) 64).ext ((Ext.refl _).alloc _)
 have hN : Var ((w.alloc (.cells #[u32 c.fr, u32 c.to', u64 c.sf, u64 c.su, u64 c.rate] 64)).alloc (.cells #[u64 n] 27)) (w.heap.size + 1) (u64 n) := by
  have := Var.new (w.alloc (.cells #[u32 c.fr,u32 c.to',u64 c.sf,u64 c.su,u64 c.rate] 64)) (u64 n) 27
  simpa using this
 have hsz : ((w.alloc (.cells #[u32 c.fr,u32 c.to',u64 c.sf,u64 c.su,u64 c.rate] 64)).alloc (.cells #[u64 n] 27)).heap.size = w.heap.size + 1 + 1 := by simp
 simp
 generalize ((w.alloc (.cells #[u32 c.fr,u32 c.to',u64 c.sf,u64 c.su,u64 c.rate] 64)).alloc (.cells #[u64 n] 27)) = w1 at *
 refine WC_scope 0 _ rfl ?_
 let q2 : List Qn := [⟨.func (.func 51) #[ptr q] #[],1,false⟩,⟨.func (.func 100) #[] #[ptr w.heap.size,ptr (w.heap.size + 1)],2,!ctRight c || decide (n = 0)⟩]
 have hE3 := (Ext.refl w1).alloc (.cells (askCells q2).toArray 115)
 have ho := own_made w1 (askCells q2) 115 2 2 rfl (by omega) w1.heap.size (Nat.le_refl _)
 have hs3 := (hs.ext hE2).ext hE3
 obtain ⟨v',w4,hr,ho4,hM4,-⟩ := append_own (P := Tryz.prog) (t := 185) (ty := 185) (e := 115) (s := 2) (by simp) (by simp) (by kernel_rfl) ho hs3 (ask_one hf) (by omega) (by simp)
 rw [← askCells_app] at ho4
 have hE14 : Ext w1 w4 := ((hE3.mod (S := fun k => w1.heap.size ≤ k)).trans (hM4.weaken fun i hi => by have := hi.2; simp only [slB] at this; omega)).ext fun _ h => h
 rw [show (askCells q2).toArray = #[.func (.func 51) #[ptr q] #[],i64 1,.func (.func 100) #[] #[ptr w.heap.size,ptr (w.heap.size + 1)],i64 2] from rfl] at hr
 simp [hr]
 obtain ⟨Q,hQ⟩ : ∃ Q,Q = q2 ++ qs := ⟨_,rfl⟩
 rw [← hQ] at ho4
 have hQl : Q.length = 2 + qs.length := by rw [hQ]; simp [q2]; omega
 have hsQ : Sl w4 2 v' Q.length (askCells Q) := by rw [hQl]; exact sl_of_own ho4
 have hfQ : ∀ x ∈ Q, ∃ f a b, x.f = .func f a b := by
  rw [hQ]
  intro x hx
  rcases List.mem_append.1 hx with hx | hx
  ·simp [q2] at hx
   rcases hx with rfl | rfl <;> exact ⟨_,_,_,rfl⟩
  ·exact hf x hx
 have heQ : askE Q = vaskE c n qs := by
  rw [hQ]
  simp [q2,askE,vaskE]
 have hX4 := hE2.trans hE14
 have hqQ : ∀ (i : Nat) (x : Qn), Q[i]? = some x → (∀ (j : Nat) (p : Qn), j < i → Q[j]? = some p → p.b = false) → ∀ w', Ext w4 w' → CV Tryz.prog x.f [] w' fun e w'' => e = .returned (.bool x.b) ∧ Ext w' w'' := by
  intro i x hx hno w' hw'
  have hXw := hX4.trans hw'
  rw [hQ] at hx hno
  match i,hx,hno with
  | 0, hx, _ =>
   simp [q2] at hx; subst hx
   exact FN.mono (vnone_c (h.ext hXw)) fun _ _ h => ⟨h.1,h.2 ▸ Ext.refl _⟩
  | 1, hx, _ =>
   simp [q2] at hx; subst hx
   exact vasked1_c (hB.ext (hE14.trans hw')) (hN.ext (hE14.trans hw')) hc
  | i + 2, hx, hno =>
   have h1 := hno 1 _ (by omega) rfl
   simp at h1
   refine hq h1.1 h1.2 i x (by simpa [q2] using hx) (fun j p hj hp => hno (j + 2) p (by omega) (by simpa [q2] using hp)) w' hXw
 simp [hsQ.isLen]
 refine WC_loop (fun k ρ ds w' => ∃ i : Nat,k = Q.length - i ∧ i ≤ Q.length ∧ ρ 18 = v' ∧ ρ 19 = .int .i64 Q.length ∧ ρ 20 = .int .i64 i ∧ ds = [] ∧ Ext w4 w' ∧ ∀ (j : Nat) (q : Qn),j < i → Q[j]? = some q → q.b = false) Q.length ⟨0,by simp [Ext.refl]⟩ ?_
 rintro k ρ ds w5 ⟨i,rfl,hi,e5,e6,e7,rfl,hE,hno⟩
 by_cases hlt : i < Q.length
 ·have hq0 : Q[i]? = some Q[i] := by simp [hlt]
  obtain ⟨c1,c2⟩ := askCells_at Q i _ hq0
  have hs1 := hsQ.ext hE
  have d1 := hs1.at_ _ _ c1
  have d2 := hs1.at_ _ _ c2
  rw [← Nat.add_assoc] at d2
  have hix := hs1.index (P := Tryz.prog) (t := 185) (by simp) .i64 i (by omega) (by omega) w5
  obtain ⟨f,x,y,hfv⟩ := hfQ Q[i] (by simp)
  have hcall := hqQ i _ hq0 hno
  rw [hfv] at d1 hcall
  simp [e5,e6,e7,hlt,hix,d1,d2]
  have hE1 := (Ext.refl w5).alloc (.cells #[.func f x y,.int .i64 Q[i].e] 115)
  refine CV.mono (hcall _ (hE.trans hE1)) ?_
  rintro _ w6 ⟨rfl,hE6⟩
  cases hqb : Q[i].b with
  | true =>
   simp
   rw [← heQ]
   exact ⟨(askE_at Q i _ hq0 hqb hno).symm,hX4.trans ((hE.trans hE1).trans hE6)⟩
  | false =>
   simp [e5,e6,e7]
   refine ⟨Q.length - (i + 1), by omega, i + 1, rfl, by omega, ?_, (hE.trans hE1).trans hE6, ?_⟩
   ·rw [wrap64 _ (by omega) (by omega)]; rfl
   ·intro j q hj hjq
    rcases Nat.lt_succ_iff_lt_or_eq.1 hj with h1 | rfl
    ·exact hno j q h1 hjq
    ·rw [hq0] at hjq; cases hjq; exact hqb
 ·simp [e6,e7,hlt]
  rw [← heQ]
  exact ⟨(askE_none Q fun j q hj => hno j q (by have := (List.getElem?_eq_some_iff.1 hj).1; omega) hj).symm,hX4.trans hE⟩
end Go.Proofs
namespace Go.Proofs
open Pk
set_option maxRecDepth 10000
theorem book1_c {w : World} {b0 b1 b2 q r : Nat} {m : VM} {c : Ct} {n : Int} (v0 : Var w b0 (ptr q)) (h : Blk w b1 (ctC c)) (v2 : Var w b2 (u64 n)) (hL : LedAt w q r m) (hm : vmOk m) (hc : CtOk c) : FN Tryz.prog 42 [ptr b0, ptr b1, ptr b2] w fun e w' => e = .returned (.bool (decide (roomT m c c.sf < n))) ∧ Ext w w' := by
 refine FN_enter Tryz.func42 rfl rfl (by kernel_rfl) ?_
 simp
 refine WC_drawC 7 (.F 0 <| .F 1 <| .F 2 <| .F 3 <| .F 4 <| .F 6 <| .C 5 <| .Z) (fun _ => false) rfl (by kernel_rfl) fun W hW => ?_
 have hE : Ext w W := hW ▸ Ext.drew w
 simp [(v0.ext hE).cell,(v2.ext hE).cell,(h.ext hE).cell 0 _ rfl,(h.ext hE).cell 1 _ rfl,(h.ext hE).cell 2 _ rfl,(h.ext hE).cell 3 _ rfl,(h.ext hE).cell 4 _ rfl]
 refine FN.mono (vroom_c (hL.ext hE) hm c hc c.sf hc.sf.1) ?_
 rintro _ w2 ⟨rfl,h2⟩
 simp
 refine KR_ext h2 ?_
 simp
 exact hE.trans h2
theorem lookV {w : World} {r : Nat} {m : VM} (h : MapAt ekV ewV w r m) (c : Ct) (W : World) (hE : Ext w W) : (Instr.lookup 100 (.map (some r)) (.agg #[.int .u32 c.fr, .int .u32 c.to', .int .u64 c.sf]) true).run Tryz.prog W = .ok (.tuple #[ewV ((mget m (vkey c)).getD (ct0, 0)), .bool (mget m (vkey c)).isSome]) W := by
 have := (h.ext hE).lookup (P := Tryz.prog) kVk tmV (zV W) (vkey c) true
 simp only [ekV,vkC,vkey] at this
 rw [show #[Value.int IntKind.u32 c.fr,Value.int IntKind.u32 c.to',Value.int IntKind.u64 c.sf] = [u32 c.fr,u32 c.to',u64 c.sf].toArray from rfl,this]
 simp only [vkey]
 cases mget m (c.fr,c.to',c.sf) <;> rfl
def vfull (m : VM) (c : Ct) : Bool := (mget m (vkey c)).isNone && decide (512 ≤ m.length)
theorem book2_c {w : World} {b0 b1 q r : Nat} {m : VM} {c : Ct} (v0 : Var w b0 (ptr q)) (h : Blk w b1 (ctC c)) (hL : LedAt w q r m) : FN Tryz.prog 44 [ptr b0, ptr b1] w fun e w' => e = .returned (.bool (vfull m c)) ∧ Ext w w' := by
 refine FN_enter Tryz.func44 rfl rfl (by kernel_rfl) ?_
 simp
 refine WC_drawL 12 (.F 0 <| .F 1 <| .F 2 <| .F 3 <| .F 4 <| .D 10 <| .L 5 <| .L 6 <| .F 7 <| .F 8 <| .F 9 <| .W 10 <| .S 11 <| .Z) (fun _ => false) (fun _ => false) (fun _ u W => ∃ j, u = ptr j ∧ w.heap.size ≤ j ∧ Blk W j [u32 0, u32 0, u64 0, u64 0, u64 0, u64 0]) rfl (by kernel_rfl) (fun _ h => h)
  (fun _ _ _ _ ⟨j,h1,h2,h3⟩ hA => ⟨j,h1,h2,h3.ext (agr_ext hA)⟩) fun W hW => ?_
 have hWE : Ext w W := hW ▸ Ext.drew w
 have hL1 := hL.ext hWE
 simp [(v0.ext hWE).cell,hL1.blk.cell 0 _ rfl,(h.ext hWE).cell 0 _ rfl,(h.ext hWE).cell 1 _ rfl,(h.ext hWE).cell 2 _ rfl,(h.ext hWE).cell 3 _ rfl,(h.ext hWE).cell 4 _ rfl]
 refine RL_float (fun W' h' => ?_) ?_
 ·simp
  have hs := (hWE.trans (agr_ext h')).size
  exact ⟨(Ext.refl _).alloc _,hs,Blk.new W' [u32 0,u32 0,u64 0,u64 0,u64 0,u64 0] 117⟩
 simp
 refine RL_loose fun W3 h3 => ?_
 simp
 refine FN.mono (vof_c c W3) ?_
 rintro _ W4 ⟨rfl,h4⟩
 simp
 refine KR_ext h4 ?_
 simp
 refine RL_loose fun W5 h5 => ?_
 simp [ekV,vkC,vkey,lookV hL1.map c W5 ((h3.trans h4).trans h5)]
 refine KR_same ?_
 simp
 refine RL_wait fun v6 W6 h6 ⟨j,hj,hjs,hjb⟩ => ?_
 subst hj
 simp [ewV,vrC,hjb.cell 0 _ rfl,hjb.cell 1 _ rfl,hjb.cell 2 _ rfl,hjb.cell 3 _ rfl,hjb.cell 4 _ rfl,hjb.cell 5 _ rfl,hjb.thaw,cell_setCell]
 refine KR_mk (agr_any ((((((((Mod.refl (fun _ => True) _).any _ _).any _ _).any _ _).any _ _).any _ _).any _ _))) ?_
 simp
 have hkv : mget m (c.fr,c.to',c.sf) = mget m (vkey c) := rfl
 generalize hW' : World.setCell _ ⟨j,5,none⟩ _ = W'
 have hM : Mod (fun k => k = j) W6 W' := hW' ▸ ((((((Mod.refl (fun k => k = j) W6).setC 0 _).setC 1 _).setC 2 _).setC 3 _).setC 4 _).setC 5 _
 have hX : Ext w W6 := ((hWE.trans h3).trans h4).trans (h5.trans h6)
 have hXE : Ext w W' := ((hX.mod (S := fun k => w.heap.size ≤ k)).trans (hM.weaken fun k hk => by omega)).ext fun _ h => h
 have hL2 := hL.ext hXE
 have v02 := v0.ext hXE
 have hl := hL2.map.len (P := Tryz.prog) (T := 100) (by simp) 3
 cases hg : mget m (vkey c) with
 | none =>
  simp [hkv,hg,vfull,v02.cell,hL2.blk.cell 0 _ rfl,hl]
  refine ⟨?_,hXE⟩
  omega
 | some x =>
  simp [hkv,hg,vfull]
  exact hXE
def bookE (m : VM) (c : Ct) (n : Int) : Int := if ctRight c = false ∨ n = 0 then 2 else if roomT m c c.sf < n then 290 else if vfull m c then 291 else 0
def bookM (m : VM) (c : Ct) (n : Int) : VM := if bookE m c n = 0 then mset m (vkey c) (c,bkd m c + n) else m
theorem bookE_0 {m : VM} (hm : vmOk m) {c : Ct} (hc : CtOk c) {n : Int} (hn : 0 ≤ n) (h : bookE m c n = 0) : ctRight c = true ∧ 0 ≤ bkd m c ∧ bkd m c + n ≤ 4611686018427387903 := by
 unfold bookE at h
 split at h
 ·cases h
 ·rename_i h1
  split at h
  ·cases h
  ·rename_i h2
   have hr : ctRight c = true := by
    cases hr : ctRight c with
    | true => rfl
    | false => exact (h1 (.inl hr)).elim
   have hn0 : n ≠ 0 := fun e => h1 (.inr e)
   have hb := bkd_b hm c
   unfold roomT bookedT at h2
   rw [if_pos hr,if_pos hr] at h2
   have hcar := carT_le (s := ⟨c.sf,c.su⟩) hc.rate.1
   refine ⟨hr,hb.1,?_⟩
   simp only [Int.min_def] at h2
   split at h2 <;> split at h2 <;> omega
theorem mset_ok {m : VM} (hm : vmOk m) {k : VK} {x : Ct × Int} (hx : 0 ≤ x.2 ∧ x.2 ≤ 4611686018427387903) : vmOk (mset m k x) := by
 intro y hy
 rcases kset_mem hy with rfl | ⟨h, -⟩
 ·exact hx
 ·exact hm y h
theorem bookM_ok {m : VM} (hm : vmOk m) {c : Ct} (hc : CtOk c) {n : Int} (hn : 0 ≤ n) : vmOk (bookM m c n) := by
 unfold bookM
 split
 ·rename_i h
  have := bookE_0 hm hc hn h
  exact mset_ok hm ⟨by omega,this.2.2⟩
 ·exact hm
set_option maxHeartbeats 1000000 in
theorem book_c {w : World} {q r : Nat} {m : VM} {c : Ct} {n : Int} (hL : LedAt w q r m) (hm : vmOk m) (hc : CtOk c) (hn : 0 ≤ n) :
  FN Tryz.prog 18 [ptr q,ctV c,u64 n] w fun e w' => e = .returned (i64 (bookE m c n)) ∧ LedAt w' q r (bookM m c n) ∧ Mod (· = r) w w' := by
 refine FN_enter Tryz.func18 rfl rfl (by kernel_rfl) ?_
 have hE : Ext w (((w.alloc (.cells #[ptr q] 46)).alloc (.cells #[u32 c.fr,u32 c.to',u64 c.sf,u64 c.su,u64 c.rate] 64)).alloc (.cells #[u64 n] 27)) := (((Ext.refl w).alloc _).alloc _).alloc _
 have v0 : Var (((w.alloc (.cells #[ptr q] 46)).alloc (.cells #[u32 c.fr,u32 c.to',u64 c.sf,u64 c.su,u64 c.rate] 64)).alloc (.cells #[u64 n] 27)) w.heap.size (ptr q) := (Var.new w (ptr q) 46).ext (((Ext.refl _).alloc _).alloc _)
 have hB : Blk (((w.alloc (.cells #[ptr q] 46)).alloc (.cells #[u32 c.fr, u32 c.to', u64 c.sf, u64 c.su, u64 c.rate] 64)).alloc (.cells #[u64 n] 27)) (w.heap.size + 1) (ctC c) := by
  have := (Blk.new (w.alloc (.cells #[ptr q] 46)) (ctC c) 64).ext ((Ext.refl _).alloc (.cells #[u64 n] 27))
  simpa using this
 have v2 : Var (((w.alloc (.cells #[ptr q] 46)).alloc (.cells #[u32 c.fr, u32 c.to', u64 c.sf, u64 c.su, u64 c.rate] 64)).alloc (.cells #[u64 n] 27)) (w.heap.size + 1 + 1) (u64 n) := by
  have := Var.new ((w.alloc (.cells #[ptr q] 46)).alloc (.cells #[u32 c.fr,u32 c.to',u64 c.sf,u64 c.su,u64 c.rate] 64)) (u64 n) 27
  simpa using this
 have hsz : (((w.alloc (.cells #[ptr q] 46)).alloc (.cells #[u32 c.fr,u32 c.to',u64 c.sf,u64 c.su,u64 c.rate] 64)).alloc (.cells #[u64 n] 27)).heap.size = w.heap.size + 1 + 1 + 1 := by simp
 have hL1 := hL.ext hE
 simp [v0.cell,v2.cell]
 generalize (((w.alloc (.cells #[ptr q] 46)).alloc (.cells #[u32 c.fr,u32 c.to',u64 c.sf,u64 c.su,u64 c.rate] 64)).alloc (.cells #[u64 n] 27)) = w1 at *
 let qs : List Qn := [⟨.func (.func 42) #[] #[ptr w.heap.size,ptr (w.heap.size + 1),ptr (w.heap.size + 1 + 1)],290,decide (roomT m c c.sf < n)⟩,⟨.func (.func 44) #[] #[ptr w.heap.size,ptr (w.heap.size + 1)],291,vfull m c⟩]
 have hsl := Sl.made w1 (askCells qs) 115 2 2 rfl
 have he3 := (Ext.refl w1).alloc (.cells (askCells qs).toArray 115)
 rw [hsz] at hsl
 have hbe : vaskE c n qs = bookE m c n := by
  unfold vaskE bookE
  simp [qs,askE]
 refine FN.mono (vasked_c (hL1.ext he3) hc qs hsl (by simp [qs]) ?_ ?_) ?_
 ·intro x hx
  simp [qs] at hx
  rcases hx with rfl | rfl <;> exact ⟨_,_,_,rfl⟩
 ·intro hr hn0 i x hx hno w' hw'
  have hx' := he3.trans hw'
  match i,hx with
  | 0, hx =>
   simp [qs] at hx; subst hx
   exact book1_c (v0.ext hx') (hB.ext hx') (v2.ext hx') (hL1.ext hx') hm hc
  | 1, hx =>
   simp [qs] at hx; subst hx
   exact book2_c (v0.ext hx') (hB.ext hx') (hL1.ext hx')
  | i + 2,hx => simp [qs] at hx
 ·rintro _ w3 ⟨rfl,h3⟩
  rw [hbe]
  have hx := he3.trans h3
  have hX := hE.trans hx
  have v3 := v0.ext hx
  have hB3 := hB.ext hx
  have n3 := v2.ext hx
  have hL3 := hL1.ext hx
  by_cases h0 : bookE m c n = 0
  ·have hb0 := bookE_0 hm hc hn h0
   have hwr : IntKind.u64.wrap (bkd m c + n) = bkd m c + n := wrap64u _ (by omega) (by omega)
   simp [h0]
   refine WC_drawC 16 (.F 0 <| .F 1 <| .F 2 <| .F 3 <| .F 4 <| .F 6 <| .F 7 <| .F 8 <| .F 9 <| .F 10 <| .F 11 <| .F 13 <| .C 5 <| .C 12 <| .F 14 <| .F 15 <| .Z) (fun _ => false) rfl (by kernel_rfl) fun W hW => ?_
   have hWE : Ext w3 W := hW ▸ Ext.drew w3
   have hL4 := hL3.ext hWE
   simp [(v3.ext hWE).cell,(n3.ext hWE).cell,hL4.blk.cell 0 _ rfl,(hB3.ext hWE).cell 0 _ rfl,(hB3.ext hWE).cell 1 _ rfl,(hB3.ext hWE).cell 2 _ rfl,(hB3.ext hWE).cell 3 _ rfl,(hB3.ext hWE).cell 4 _ rfl]
   refine FN.mono (vof_c c W) ?_
   rintro _ W5 ⟨rfl,h5⟩
   simp
   refine KR_ext h5 ?_
   simp
   refine FN.mono (vbkd_c (hL4.ext h5) c) ?_
   rintro _ W6 ⟨rfl,h6⟩
   simp
   refine KR_ext h6 ?_
   simp [hwr]
   have hL6 := (hL4.ext h5).ext h6
   obtain ⟨W7,hu,hm7,hM7,hsz7⟩ := hL6.map.update (P := Tryz.prog) kVk tmV (vkey c) (c,bkd m c + n)
   have hu' : (Instr.mapUpdate 100 (.map (some r)) (ekV (vkey c)) (.agg #[u32 c.fr,u32 c.to',u64 c.sf,u64 c.su,u64 c.rate,u64 (bkd m c + n)])).run Tryz.prog W6 = .ok () W7 := hu
   simp [hu']
   have hbm : bookM m c n = mset m (vkey c) (c,bkd m c + n) := by unfold bookM; rw [if_pos h0]
   rw [hbm]
   have hoff := hL6.off
   exact ⟨⟨hL6.blk.mod hM7 (fun e => hoff e.symm),hm7⟩,(((hX.trans hWE).trans h5).trans h6).mod.trans hM7⟩
  ·simp [h0,beq_dec]
   have hbm : bookM m c n = m := by unfold bookM; rw [if_neg h0]
   rw [hbm]
   exact ⟨hL3,hX.mod⟩
end Go.Proofs