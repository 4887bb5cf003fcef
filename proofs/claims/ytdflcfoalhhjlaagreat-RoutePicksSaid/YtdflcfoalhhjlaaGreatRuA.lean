/-
 Contracts of the functions that the law reaches,step by step.
-/
import Derived.Test.YtdflcfoalhhjlaaGreatGeL
namespace Go.Proofs
open Pk
set_option maxRecDepth 10000
theorem Sl.keepN {w w' : World} {s n : Nat} {v : Value} {cs : List Value} (h : Sl w s v n cs) (hw : cs ≠ [] → ∀ (a : Addr) (u : Value), a.block = slB v → w.cell? a = some u → w'.cell? a = some u) : Sl w' s v n cs :=
 ⟨h.len,h.val,fun j u hj => hw (fun e => by rw [e] at hj; simp at hj) _ _ rfl (h.at_ j u hj)⟩
theorem cell_map {w : World} {a : Addr} {u : Value} {κ ν : Type} {ek : κ → Value} {ew : ν → Value} {r : Nat} {m : List (κ × ν)} (hu : w.cell? a = some u) (hm : MapAt ek ew w r m) : a.block ≠ r := fun e => by
 obtain ⟨⟨es,c,h1,-⟩,-⟩ := hm
 unfold World.cell? at hu
 rw [e,h1] at hu
 simp at hu
theorem foot_cell {w : World} {t R : Nat} {M : ME} {a : Addr} {u : Value} (h : TabAt w t R M) (hu : w.cell? a = some u) (hn : a.block ≠ t) : ¬ Foot t R M a.block := by
 rintro (e | e | ⟨x, hx, e⟩)
 ·exact hn e
 ·exact cell_map hu h.map e
 ·exact cell_map hu (h.inner x hx) e
structure PJ (p t R A1 A2 B1 : Nat) : Prop where
 pt : p < t
 pR : p < R
 tR : t ≠ R
 tA : t < A1
 RA : R < A1
 a1 : A2 = A1 + 1
 a2 : B1 = A2 + 1
structure MJ (p t R A1 A2 B1 : Nat) (W : World) (v vp vt : Value) (lp ld : List Ct) (M : ME) (sl : List St) : Prop where
 plan : PlanAt W p v lp
 tab : TabAt W t R M
 b1 : Blk W A1 [vp]
 b2 : Blk W A2 [vt]
 pl : RPl W vp ld
 tb : TRw W vt sl
 ov : lp ≠ [] → B1 ≤ slB v
 op : ld ≠ [] → B1 ≤ slB vp
 ot : sl ≠ [] → B1 ≤ slB vt
 of : ∀ k,Foot t R M k → k = t ∨ k = R ∨ B1 ≤ k
section
variable {p t R A1 A2 B1 : Nat} {W W' : World} {v vp vt v' : Value} {lp ld lp' : List Ct} {M M' : ME} {sl : List St}
theorem flat_ne' {α : Type} {g : α → List Value} {l : List α} (h : l.flatMap g ≠ []) : l ≠ [] := fun e => h (by rw [e]; rfl)
theorem MJ.rows {S : Nat → Prop} (h : MJ p t R A1 A2 B1 W v vp vt lp ld M sl) (hM : Mod S W W') (hS : ∀ (a : Addr) (u : Value), W.cell? a = some u → B1 ≤ a.block → ¬ S a.block) : RPl W' vp ld ∧ TRw W' vt sl ∧ Sl W' 5 v lp.length (lp.flatMap ctC) :=
 ⟨Sl.keepN h.pl fun hn a u ha hu => hM.cell hu (hS a u hu (by rw [ha]; exact h.op (flat_ne' hn))),
  Sl.keepN h.tb fun hn a u ha hu => hM.cell hu (hS a u hu (by rw [ha]; exact h.ot (flat_ne' hn))),
  Sl.keepN h.plan.row fun hn a u ha hu => hM.cell hu (hS a u hu (by rw [ha]; exact h.ov (flat_ne' hn)))⟩
theorem MJ.ext (h : MJ p t R A1 A2 B1 W v vp vt lp ld M sl) (hE : Ext W W') : MJ p t R A1 A2 B1 W' v vp vt lp ld M sl :=
 {h with plan := h.plan.ext hE,tab := h.tab.ext hE,b1 := h.b1.ext hE,b2 := h.b2.ext hE,pl := h.pl.ext hE,tb := h.tb.ext hE }
theorem MJ.modp (N : PJ p t R A1 A2 B1) (h : MJ p t R A1 A2 B1 W v vp vt lp ld M sl) (hM : Mod (· = p) W W') (hP : PlanAt W' p v' lp') (ho : lp' ≠ [] → B1 ≤ slB v') : MJ p t R A1 A2 B1 W' v' vp vt lp' ld M sl := by
 obtain ⟨k1,k2,k3,k4,k5,k6,k7⟩ := N
 obtain ⟨r1,r2,-⟩ := h.rows hM fun a u hu hb => by omega
 exact ⟨hP,h.tab.mod hM fun k hk e => by have := h.of k hk; omega,h.b1.mod hM (by omega),h.b2.mod hM (by omega),r1,r2,ho,h.op,h.ot,h.of⟩
theorem MJ.modt (N : PJ p t R A1 A2 B1) (h : MJ p t R A1 A2 B1 W v vp vt lp ld M sl) (hM : Mod (Foot t R M) W W') (hT : TabAt W' t R M') (hf : ∀ k, Foot t R M' k → Foot t R M k ∨ W.heap.size ≤ k) : MJ p t R A1 A2 B1 W' v vp vt lp ld M' sl := by
 obtain ⟨k1,k2,k3,k4,k5,k6,k7⟩ := N
 have hb := h.b2.lt
 obtain ⟨r1,r2,r4⟩ := h.rows hM fun a u hu hb => foot_cell h.tab hu (by omega)
 have nf : ∀ k,k < B1 → k ≠ t → k ≠ R → ¬ Foot t R M k := fun k h1 h2 h3 h4 => by have := h.of k h4; omega
 exact ⟨⟨h.plan.blk.mod hM (nf _ (by omega) (by omega) (by omega)), r4⟩, hT, h.b1.mod hM (nf _ (by omega) (by omega) (by omega)), h.b2.mod hM (nf _ (by omega) (by omega) (by omega)), r1, r2, h.ov, h.op, h.ot, fun k hk => by
  rcases hf k hk with hk | hk
  ·exact h.of k hk
  ·omega⟩
theorem MJ.set1 (N : PJ p t R A1 A2 B1) (h : MJ p t R A1 A2 B1 W v vp vt lp ld M sl) {vp' : Value} {ld' : List Ct} (hp : RPl W vp' ld') (ho : ld' ≠ [] → B1 ≤ slB vp') : MJ p t R A1 A2 B1 (W.setCell ⟨A1, 0, none⟩ vp') v vp' vt lp ld' M sl := by
 obtain ⟨k1,k2,k3,k4,k5,k6,k7⟩ := N
 have hM := Mod.setCell (S := (· = A1)) (Mod.refl _ W) ⟨A1,0,none⟩ vp' (.inl rfl)
 obtain ⟨r1,r2,r4⟩ := h.rows hM fun a u hu hb => by omega
 exact ⟨⟨h.plan.blk.mod hM (by omega), r4⟩, h.tab.mod hM fun k hk e => by have := h.of k hk; omega, h.b1.set 0 _, h.b2.mod hM (by omega),
  Sl.keepN hp fun hn a u ha hu => hM.cell hu (by have := ho (flat_ne' hn); omega),r2,h.ov,ho,h.ot,h.of⟩
theorem MJ.set2 (N : PJ p t R A1 A2 B1) (h : MJ p t R A1 A2 B1 W v vp vt lp ld M sl) {vt' : Value} {sl' : List St} (hp : TRw W vt' sl') (ho : sl' ≠ [] → B1 ≤ slB vt') : MJ p t R A1 A2 B1 (W.setCell ⟨A2, 0, none⟩ vt') v vp vt' lp ld M sl' := by
 obtain ⟨k1,k2,k3,k4,k5,k6,k7⟩ := N
 have hM := Mod.setCell (S := (· = A2)) (Mod.refl _ W) ⟨A2,0,none⟩ vt' (.inl rfl)
 obtain ⟨r1,r2,r4⟩ := h.rows hM fun a u hu hb => by omega
 exact ⟨⟨h.plan.blk.mod hM (by omega), r4⟩, h.tab.mod hM fun k hk e => by have := h.of k hk; omega, h.b1.mod hM (by omega), h.b2.set 0 _,
  r1,Sl.keepN hp fun hn a u ha hu => hM.cell hu (by have := ho (flat_ne' hn); omega),h.ov,h.op,ho,h.of⟩
end
theorem RelT.congr {M M' : ME} {l : List St} (h : RelT M l) (h1 : ∀ k, sps M' k = sps M k) (h2 : total M' = total M) : RelT M' l :=
 ⟨h.uni,fun s => by rw [h1]; exact h.get s,by rw [h2]; exact h.cnt,h.ok⟩
theorem addL_cons (a : Ct) (l : List Ct) (c : Ct) : addL (a :: l) c = if aheadP a c then a :: addL l c else c :: a :: l := by
 unfold addL kOf
 rw [List.takeWhile_cons]
 by_cases h : aheadP a c
 ·simp [h]
 ·simp [h]
theorem addL_mem {l : List Ct} {c x : Ct} (h : x ∈ addL l c) : x = c ∨ x ∈ l := by
 unfold addL at h
 rcases List.mem_append.1 h with h | h
 ·exact .inr (List.mem_of_mem_take h)
 ·rcases List.mem_cons.1 h with h | h
  ·exact .inl h
  ·exact .inr (List.mem_of_mem_drop h)
theorem no_same {l : List Ct} {c x : Ct} (hx : x ∈ l) (hr : ctRight x = true) (hc : ctRight c = true) (hcl : clash l c = false) : aheadP x c ∨ aheadP c x := by
 have h1 := ctRight_is hr
 have h2 := ctRight_is hc
 by_cases hk : x.fr = c.fr ∧ x.to' = c.to' ∧ x.sf = c.sf
 ·exfalso
  unfold clash at hcl
  rw [List.any_eq_false] at hcl
  refine hcl x hx ?_
  have o1 : spOk ⟨x.sf,x.su⟩ = true := by unfold spOk; simp; omega
  have o2 : spOk ⟨c.sf,c.su⟩ = true := by unfold spOk; simp; omega
  unfold betP bothB
  simp only
  rw [o1,o2]
  simp
  omega
 ·unfold aheadP
  omega
theorem addL_sorted : ∀ {l : List Ct} {c : Ct}, l.Pairwise aheadP → (∀ x ∈ l, aheadP x c ∨ aheadP c x) → (addL l c).Pairwise aheadP
 | [],c,_,_ => by simp [addL]
 | a :: l, c, hs, hn => by
  obtain ⟨h1,h2⟩ := List.pairwise_cons.1 hs
  rw [addL_cons]
  split
  ·rename_i ha
   refine List.pairwise_cons.2 ⟨fun x hx => ?_,addL_sorted h2 fun x hx => hn x (by simp [hx])⟩
   rcases addL_mem hx with rfl | hx
   ·exact ha
   ·exact h1 x hx
  ·rename_i ha
   have hca : aheadP c a := by
    rcases hn a (by simp) with h | h
    ·exact (ha h).elim
    ·exact h
   refine List.pairwise_cons.2 ⟨fun x hx => ?_,hs⟩
   rcases List.mem_cons.1 hx with rfl | hx
   ·exact hca
   ·have := h1 x hx
    unfold aheadP at hca this ⊢
    omega
theorem sl_lenEq {w w' : World} {s n n' : Nat} {v : Value} {cs cs' : List Value} (h : Sl w s v n cs) (h' : Sl w' s v n' cs') : n = n' := by
 obtain ⟨a,c,h1⟩ := h.isSlice
 obtain ⟨a',c',h2⟩ := h'.isSlice
 rw [h1] at h2
 cases h2
 rfl
theorem row_off {w w' : World} {s n n' B1 : Nat} {v v' : Value} {cs cs' : List Value} (h : Sl w s v n cs) (h' : Sl w' s v' n' cs') (ho : n ≠ 0 → B1 ≤ slB v) (hb : B1 ≤ w.heap.size) (hv : v' = .slice none 0 0 ∨ v' = v ∨ w.heap.size ≤ slB v') : n' ≠ 0 → B1 ≤ slB v' := by
 intro hn
 rcases hv with rfl | rfl | hv
 ·obtain ⟨a',c',h2⟩ := h'.isSlice
  cases h2
  exact (hn rfl).elim
 ·exact ho (by rw [sl_lenEq h h']; exact hn)
 ·omega
theorem len_ne {α : Type} {l : List α} : l ≠ [] ↔ l.length ≠ 0 := by cases l <;> simp
structure LOk (l : List Ct) : Prop where
 ok : ∀ c ∈ l,CtOk c
 ri : ∀ c ∈ l,ctRight c = true
 so : l.Pairwise aheadP
theorem LOk.add {l : List Ct} (h : LOk l) {c : Ct} (hc : CtOk c) : LOk (if addE l c = 0 then addL l c else l) := by
 split
 ·rename_i h0
  unfold addE at h0
  split at h0
  ·omega
  ·rename_i hr
   have hr : ctRight c = true := by simpa using hr
   split at h0
   ·omega
   ·rename_i hcl
    refine ⟨fun x hx => ?_, fun x hx => ?_, addL_sorted h.so fun x hx => no_same hx (h.ri x hx) hr (by simpa using hcl)⟩
    ·rcases addL_mem hx with rfl | hx
     ·exact hc
     ·exact h.ok x hx
    ·rcases addL_mem hx with rfl | hx
     ·exact hr
     ·exact h.ri x hx
 ·exact h
def nxL (l : List Ct) (c : Ct) : List Ct := if addE l c = 0 then addL l c else l
theorem nxL_len (l : List Ct) (c : Ct) : (nxL l c).length ≤ l.length + 1 := by
 unfold nxL
 split
 ·rw [addL_len]; omega
 ·omega
theorem rsetL_len (l : List St) (s : St) : (rsetL l s).length ≤ l.length + 1 := by
 unfold rsetL
 split
 ·omega
 ·split
  ·simp
  ·split
   ·omega
   ·simp
end Go.Proofs
namespace Go.Proofs
open Pk
set_option maxRecDepth 10000
structure SetOk (w : World) (vP vS : Value) (P : List Ct) (S : List St) : Prop where
 p : SlB w 5 vP P.length (P.flatMap ctC)
 s : SlB w 4 vS S.length (S.flatMap stCells)
 op : ∀ c ∈ P,CtOk c
 os : ∀ s ∈ S,StOk s
 lp : P.length ≤ 14
 ls : S.length ≤ 14
abbrev seV (vP vS : Value) : Value := .agg #[vP,vS]
structure Made (w : World) (g : Nat) (vp vt : Value) (P : List Ct) (S : List St) (L : List Ct) (M : ME) (m : VM) : Prop where
 g : ∃ p v t R q r,GrAt w g p v L t R M q r m
 pl : RPl w vp L
 tb : TRw w vt (S.foldl rsetL [])
 rt : RelT M (S.foldl rsetL [])
 nd : ∀ q,((sps M q).map (·.1)).Nodup
 bl : L.length ≤ 14
 bt : (S.foldl rsetL []).length ≤ 14
 eL : L = P.foldl nxL []
 gd : gdT M
 sl : ∀ p,(sps M p).length ≤ 255
 so : LOk L
theorem Made.d {w : World} {g : Nat} {vp vt : Value} {P : List Ct} {S : List St} {L : List Ct} {M : ME} (h : Made w g vp vt P S L M []) : DGr w vp vt (.slice none 0 0) L (S.foldl rsetL []) [] M [] :=
 ⟨h.pl,h.tb,Sl.nil _ _ _,h.rt,RelL.nil,h.nd,h.bl,h.bt,by simp,h.so.ok,fun x hx => (by cases hx)⟩
theorem knum_c (n : Int) (w : World) : FN Tryz.prog 14 [i64 n] w fun e w' => e = .returned (i64 n) ∧ w' = w := by
 refine FN_enter Tryz.func14 rfl rfl (by kernel_rfl) ?_
 simp
def MadeE (w' : World) (P : List Ct) (S : List St) (m : VM) (e : Ending) : Prop := ∃ g vp vt L M,e = .returned (.tuple #[ptr g,dgV vp vt (.slice none 0 0),.bool true]) ∧ Made w' g vp vt P S L M m ∧ L.length ≤ P.length
def MEnv (ρ : Env) (A p t q A1 A2 : Nat) : Prop := ρ 3 = ptr A ∧ ρ 5 = ptr (A + 1) ∧ ρ 7 = ptr (A + 2) ∧ ρ 9 = ptr p ∧ ρ 10 = ptr t ∧ ρ 1 = ptr q ∧ ρ 11 = ptr A1 ∧ ρ 12 = ptr A2
def MadeI1 (p t R q A1 A2 B1 A : Nat) (P : List Ct) (w0 : World) (k : Nat) (ρ : Env) (ds : List Deferred) (W : World) : Prop :=
 ∃ (i : Nat) (v vp : Value) (l : List Ct),(k = P.length - i ∧ i ≤ P.length) ∧ MJ p t R A1 A2 B1 W v vp (.slice none 0 0) l l [] [] ∧ LOk l ∧ (l.length ≤ i ∧ l = (P.take i).foldl nxL []) ∧ Ext w0 W ∧ MEnv ρ A p t q A1 A2 ∧ ρ 13 = i64 i ∧ ds = []
def MadeI2 (p t R q A1 A2 B1 A : Nat) (v vp : Value) (l : List Ct) (S : List St) (w0 : World) (k : Nat) (ρ : Env) (ds : List Deferred) (W : World) : Prop :=
 ∃ (i : Nat) (vt : Value) (M : ME) (sl : List St),(k = S.length - i ∧ i ≤ S.length) ∧ MJ p t R A1 A2 B1 W v vp vt l l M sl ∧ RelT M sl ∧ (sl.length ≤ i ∧ sl = (S.take i).foldl rsetL []) ∧ Ext w0 W ∧ MEnv ρ A p t q A1 A2 ∧ ρ 14 = i64 i ∧ ds = []
set_option maxHeartbeats 4000000 in
theorem made_c {w : World} {vP vS : Value} {P : List Ct} {S : List St} (h : SetOk w vP vS P S) {q r : Nat} {m : VM} (hL0 : LedAt w q r m) :
  FN Tryz.prog 9 [seV vP vS,ptr q,.agg #[.slice none 0 0]] w fun e w' => MadeE w' P S m e ∧ Ext w w' := by
 refine FN_enter Tryz.func9 rfl rfl (by kernel_rfl) ?_
 obtain ⟨pa,pc,hvP⟩ := h.p.isSlice
 obtain ⟨sa,sc,hvS⟩ := h.s.isSlice
 have hE : Ext w (((w.alloc (.cells #[vP,vS] 25)).alloc (.cells #[.slice none 0 0] 41)).alloc (.cells #[.slice none 0 0,.slice none 0 0,.slice none 0 0] 43)) := (((Ext.refl w).alloc _).alloc _).alloc _
 have bS : Blk (((w.alloc (.cells #[vP,vS] 25)).alloc (.cells #[.slice none 0 0] 41)).alloc (.cells #[.slice none 0 0,.slice none 0 0,.slice none 0 0] 43)) w.heap.size [vP,vS] := (Blk.new w [vP,vS] 25).ext (((Ext.refl _).alloc _).alloc _)
 have bL : Blk (((w.alloc (.cells #[vP, vS] 25)).alloc (.cells #[.slice none 0 0] 41)).alloc (.cells #[.slice none 0 0, .slice none 0 0, .slice none 0 0] 43)) (w.heap.size + 1) [.slice none 0 0] := by
  have := (Blk.new (w.alloc (.cells #[vP,vS] 25)) [.slice none 0 0] 41).ext ((Ext.refl _).alloc (.cells #[.slice none 0 0,.slice none 0 0,.slice none 0 0] 43))
  simpa using this
 have bG : Blk (((w.alloc (.cells #[vP, vS] 25)).alloc (.cells #[.slice none 0 0] 41)).alloc (.cells #[.slice none 0 0, .slice none 0 0, .slice none 0 0] 43)) (w.heap.size + 2) [.slice none 0 0, .slice none 0 0, .slice none 0 0] := by
  have := Blk.new ((w.alloc (.cells #[vP,vS] 25)).alloc (.cells #[.slice none 0 0] 41)) [.slice none 0 0,.slice none 0 0,.slice none 0 0] 43
  simpa using this
 have hsz : (((w.alloc (.cells #[vP,vS] 25)).alloc (.cells #[.slice none 0 0] 41)).alloc (.cells #[.slice none 0 0,.slice none 0 0,.slice none 0 0] 43)).heap.size = w.heap.size + 3 := by simp
 rw [hvP,hvS] at hE bS bG bL hsz
 rw [hvP,hvS]
 simp
 rw [← hvP,← hvS] at hE bS bG bL hsz ⊢
 generalize (((w.alloc (.cells #[vP,vS] 25)).alloc (.cells #[.slice none 0 0] 41)).alloc (.cells #[.slice none 0 0,.slice none 0 0,.slice none 0 0] 43)) = w0 at *
 refine FN.mono (cnew_c w0) ?_
 rintro _ w1 ⟨p,rfl,hP1,hE1,z1⟩
 simp
 refine FN.mono (new_c w1) ?_
 rintro _ w2 ⟨t,R,rfl,hT2,hE2,z2,z2'⟩
 have e4 : Ext w2 ((w2.alloc (.cells #[.slice none 0 0] 36)).alloc (.cells #[.slice none 0 0] 38)) := ((Ext.refl w2).alloc _).alloc _
 have k1 : Blk ((w2.alloc (.cells #[.slice none 0 0] 36)).alloc (.cells #[.slice none 0 0] 38)) w2.heap.size [.slice none 0 0] := (Blk.new w2 [.slice none 0 0] 36).ext ((Ext.refl _).alloc _)
 have k2 : Blk ((w2.alloc (.cells #[.slice none 0 0] 36)).alloc (.cells #[.slice none 0 0] 38)) (w2.heap.size + 1) [.slice none 0 0] := by
  have := Blk.new (w2.alloc (.cells #[.slice none 0 0] 36)) [.slice none 0 0] 38
  simpa using this
 have zb : ((w2.alloc (.cells #[.slice none 0 0] 36)).alloc (.cells #[.slice none 0 0] 38)).heap.size = w2.heap.size + 1 + 1 := by simp
 simp
 obtain ⟨A1,hA1⟩ : ∃ a,a = w2.heap.size := ⟨_,rfl⟩
 obtain ⟨A2,hA2⟩ : ∃ a,a = w2.heap.size + 1 := ⟨_,rfl⟩
 obtain ⟨B1,hB1⟩ : ∃ a,a = w2.heap.size + 1 + 1 := ⟨_,rfl⟩
 rw [← hA1] at k1
 rw [← hA2] at k2
 rw [← hA2,← hA1]
 generalize ((w2.alloc (.cells #[.slice none 0 0] 36)).alloc (.cells #[.slice none 0 0] 38)) = w4 at *
 have hp1 := hP1.lt
 have ht2 := hT2.lt t (.inl rfl)
 have hR2 := hT2.lt R (.inr (.inl rfl))
 have htR : t ≠ R := fun e => cell_map hT2.cell hT2.map e
 have N : PJ p t R A1 A2 B1 := ⟨by omega,by omega,htR,by omega,by omega,by omega,by omega⟩
 have hI0 : MJ p t R A1 A2 B1 w4 (.slice none 0 0) (.slice none 0 0) (.slice none 0 0) [] [] [] [] :=
  ⟨hP1.ext (hE2.trans e4), hT2.ext e4, k1, k2, Sl.nil _ _ _, Sl.nil _ _ _, fun h => (h rfl).elim, fun h => (h rfl).elim, fun h => (h rfl).elim, fun k hk => by
   rcases hk with hk | hk | ⟨x, hx, -⟩
   ·exact .inl hk
   ·exact .inr (.inl hk)
   ·cases hx⟩
 have hX04 : Ext w0 w4 := (hE1.trans hE2).trans e4
 have hlP := h.lp
 have hlS := h.ls
 have hlenP := fun ty W => h.p.isLen (P := Tryz.prog) (t := 22) (by simp) ty W
 have hlenS := fun ty W => h.s.isLen (P := Tryz.prog) (t := 23) (by simp) ty W
 have nw : ∀ i : Nat,i ≤ 14 → IntKind.i64.wrap ((i : Int) + 1) = ((i + 1 : Nat) : Int) := fun i hi => by rw [wrap64 _ (by omega) (by omega)]; rfl
 refine WC_loop (fun k ρ ds w' => MadeI1 p t R q A1 A2 B1 w.heap.size P w0 k ρ ds w') P.length ⟨0, _, _, [], by simp, hI0, ⟨by simp, by simp, by simp⟩, ⟨by simp, by simp⟩, hX04, ?_, by simp, rfl⟩ ?_
 ·unfold MEnv; simp
 rintro k ρ ds w5 ⟨i,v,vp,l,⟨rfl,hi⟩,hI,hL,⟨hll,heL⟩,hX5,⟨f3,f5,f7,f9,f10,f1,f11,f12⟩,f13,rfl⟩
 have c1 := bS.ext hX5
 by_cases hlt : i < P.length
 ·have hcP : CtOk P[i] := h.op _ (List.getElem_mem hlt)
  have g := ctRow ((h.p.ext (hE.trans hX5)).toSl (by omega)) hlt
  have ix := fun W => h.p.index (P := Tryz.prog) (t := 22) (by simp) .i64 i (by omega) (by omega) W
  simp at ix
  simp [f3,f9,f13,c1.cell 0 _ rfl,hlenP,hlt,ix,g.c0,g.c1,g.c2,g.c3,g.c4]
  refine FN.mono (cadd_c hI.plan (by omega) hL.so hcP) ?_
  rintro _ w6 ⟨rfl,v',hP6,hM6,hv6⟩
  have hb5 : B1 ≤ w5.heap.size := by have := hI.b2.lt; have := N.a2; omega
  have hI6 := hI.modp N hM6 hP6 (fun hne => row_off hI.plan.row hP6.row (fun hn => hI.ov (len_ne.2 hn)) hb5 (.inr hv6) (len_ne.1 hne))
  have hX6 : Ext w0 w6 := (hX5.mod (S := fun k => w0.heap.size ≤ k)).trans (hM6.weaken fun k hk => by omega) |>.ext fun _ h => h
  simp
  refine WC_drawL 11 (.F 0 <| .F 1 <| .F 2 <| .F 3 <| .F 4 <| .F 5 <| .C 6 <| .F 7 <| .F 8 <| .F 9 <| .S 10 <| .Z) (fun _ => false) (fun _ => false) (fun _ _ _ => False) rfl (by kernel_rfl) (fun _ h => h) (fun _ _ _ _ h1 h2 => h1) fun W hW => ?_
  have hEW : Ext w6 W := hW ▸ Ext.drew w6
  have hIW := hI6.ext hEW
  have hXW := hX6.trans hEW
  have cW := bS.ext hXW
  have gW := ctRow ((h.p.ext (hE.trans hXW)).toSl (by omega)) hlt
  simp [f3,f11,f13,cW.cell 0 _ rfl,hIW.b1.cell 0 _ rfl,ix,gW.c0,gW.c1,gW.c2,gW.c3,gW.c4]
  refine FN.mono (nadd_c hIW.pl hcP (by omega)) ?_
  rintro _ w7 ⟨vp',rfl,hpl7,hvp7,hE7⟩
  have hI7 := hIW.ext hE7
  simp
  refine KR_ext hE7 ?_
  obtain ⟨a7,c7,hv7⟩ := hpl7.isSlice
  subst hv7
  simp [f11,hI7.b1.cell 0 _ rfl,hI7.b1.thaw]
  refine KR_set ?_
  have hI8 := hI7.set1 N hpl7 (fun hne => row_off hIW.pl hpl7 (fun hn => hIW.op (len_ne.2 hn)) (by have := hIW.b2.lt; have := N.a2; omega) hvp7 (len_ne.1 hne))
  have hX8 : Ext w0 (w7.setCell ⟨A1,0,none⟩ (.slice a7 (if addE l P[i] = 0 then addL l P[i] else l).length c7)) := (hXW.trans hE7).setCell _ _ (by simp only; omega)
  have hln := nxL_len l P[i]
  simp [f13,nw i (by omega)]
  refine ⟨P.length - (i + 1),by omega,i + 1,v',_,nxL l P[i],⟨rfl,by omega⟩,hI8,hL.add hcP,⟨by omega,by rw [List.take_add_one,List.getElem?_eq_getElem hlt,List.foldl_append,← heL]; rfl⟩,hX8,?_,by simp,rfl⟩
  unfold MEnv
  simp [f1,f3,f5,f7,f9,f10,f11,f12]
 ·have : i = P.length := by omega
  subst this
  rw [List.take_length] at heL
  simp [f3,f13,c1.cell 0 _ rfl,hlenP]
  refine WC_loop (fun k ρ ds w' => MadeI2 p t R q A1 A2 B1 w.heap.size v vp l S w0 k ρ ds w') S.length ⟨0, _, [], [], by simp, hI, RelT.nil, ⟨by simp, by simp⟩, hX5, ?_, by simp, rfl⟩ ?_
  ·unfold MEnv; simp [f1,f3,f5,f7,f9,f10,f11,f12]
  clear hI hX5 c1 f1 f3 f5 f7 f9 f10 f11 f12 f13 hlt hI0 hX04 hi
  rintro k ρ ds w5 ⟨i,vt,M,sl,⟨rfl,hi⟩,hI,hRT,⟨hsll,heS⟩,hX5,⟨f3,f5,f7,f9,f10,f1,f11,f12⟩,f14,rfl⟩
  have c1 := bS.ext hX5
  by_cases hlt : i < S.length
  ·have hsS : StOk S[i] := h.os _ (List.getElem_mem hlt)
   have g := TRw.row ((h.s.ext (hE.trans hX5)).toSl (by omega)) (List.getElem?_eq_getElem hlt)
   have ix := fun W => h.s.index (P := Tryz.prog) (t := 23) (by simp) .i64 i (by omega) (by omega) W
   simp at ix
   have hb5 : B1 ≤ w5.heap.size := by have := hI.b2.lt; have := N.a2; omega
   simp [f3,f10,f14,c1.cell 1 _ rfl,hlenS,hlt,ix,g.c0,g.c1,g.c2,g.c3]
   refine FN.mono (set_c hI.tab (by rw [hRT.cnt]; omega) S[i]) ?_
   rintro _ w6 ⟨rfl,M',hT6,hM6,hf6,hs6,hn6⟩
   have hI6 := hI.modt N hM6 hT6 hf6
   have hRT6 := hRT.set hsS hs6 hn6
   have hX6 : Ext w0 w6 := (hX5.mod (S := fun k => w0.heap.size ≤ k)).trans (hM6.weaken fun k hk => by
    have := hI.of k hk; have := N.pt; have := N.pR; have := N.tA; have := N.a2; have := N.a1; omega) |>.ext fun _ h => h
   simp
   refine WC_drawL 12 (.F 0 <| .F 1 <| .F 2 <| .F 3 <| .F 4 <| .F 5 <| .C 6 <| .F 7 <| .F 8 <| .F 9 <| .F 10 <| .S 11 <| .Z) (fun _ => false) (fun _ => false) (fun _ _ _ => False) rfl (by kernel_rfl) (fun _ h => h) (fun _ _ _ _ h1 h2 => h1) fun W hW => ?_
   have hEW : Ext w6 W := hW ▸ Ext.drew w6
   have hIW := hI6.ext hEW
   have hXW := hX6.trans hEW
   have cW := bS.ext hXW
   have gW := TRw.row ((h.s.ext (hE.trans hXW)).toSl (by omega)) (List.getElem?_eq_getElem hlt)
   simp [f3,f12,f14,cW.cell 1 _ rfl,hIW.b2.cell 0 _ rfl,ix,gW.c0,gW.c1,gW.c2,gW.c3]
   refine FN.mono (rset_c hIW.tb S[i] hsS (by omega)) ?_
   rintro _ w7 ⟨vt',rfl,hE7,htb7,hvt7⟩
   have hI7 := hIW.ext hE7
   simp
   refine KR_ext hE7 ?_
   obtain ⟨a7,c7,hv7⟩ := htb7.isSlice
   subst hv7
   simp [f12,hI7.b2.cell 0 _ rfl,hI7.b2.thaw]
   refine KR_set ?_
   have hI8 := hI7.set2 N htb7 (fun hne => row_off hIW.tb htb7 (fun hn => hIW.ot (len_ne.2 hn)) (by have := hIW.b2.lt; have := N.a2; omega) (.inr (hvt7 hne)) (len_ne.1 hne))
   have hX8 : Ext w0 (w7.setCell ⟨A2,0,none⟩ (.slice a7 (rsetL sl S[i]).length c7)) := (hXW.trans hE7).setCell _ _ (by have := N.pt; have := N.pR; have := N.tA; have := N.a1; simp only; omega)
   have hln := rsetL_len sl S[i]
   simp [f14,nw i (by omega)]
   refine ⟨S.length - (i + 1),by omega,i + 1,_,M',rsetL sl S[i],⟨rfl,by omega⟩,hI8,hRT6,⟨by omega,by rw [List.take_add_one,List.getElem?_eq_getElem hlt,List.foldl_append,← heS]; rfl⟩,hX8,?_,by simp,rfl⟩
   unfold MEnv
   simp [f1,f3,f5,f7,f9,f10,f11,f12]
  ·have : i = S.length := by omega
   subst this
   rw [List.take_length] at heS
   simp [f1,f3,f9,f10,f14,c1.cell 1 _ rfl,hlenS]
   refine FN.mono (gnew_c hI.plan (by omega) hI.tab (hL0.ext (hE.trans hX5))) ?_
   rintro _ w6 ⟨g,p',v',t',R',M',q',r',rfl,hG,hspM,htotM,hE6,y1,y2,y3,y4,y5,y6⟩
   have hI6 := hI.ext hE6
   have hX6 := hX5.trans hE6
   have hb5 : B1 ≤ w5.heap.size := by have := hI.b2.lt; have := N.a2; omega
   simp
   refine WC_drawL 11 (.F 0 <| .F 1 <| .F 2 <| .F 3 <| .F 4 <| .F 5 <| .C 6 <| .F 7 <| .F 8 <| .S 9 <| .F 10 <| .Z) (fun _ => false) (fun _ => false) (fun _ _ _ => False) rfl (by kernel_rfl) (fun _ h => h) (fun _ _ _ _ h1 h2 => h1) fun W hW => ?_
   have hEW : Ext w6 W := hW ▸ Ext.drew w6
   have hIW := hI6.ext hEW
   have hXW := hX6.trans hEW
   have hGW := hG.ext hEW
   have cG := bG.ext hXW
   have cL := bL.ext hXW
   simp [f5,f11,f12,hIW.b1.cell 0 _ rfl,hIW.b2.cell 0 _ rfl,cL.cell 0 _ rfl]
   refine FN.mono (knum_c 0 W) ?_
   rintro _ _ ⟨rfl,rfl⟩
   rename_i W
   simp
   refine KR_same ?_
   obtain ⟨a1,d1,hp1⟩ := hIW.pl.isSlice
   obtain ⟨a2,d2,hp2⟩ := hIW.tb.isSlice
   rw [hp1,hp2]
   simp [f7,cG.cell 0 _ rfl,cG.cell 1 _ rfl,cG.cell 2 _ rfl,cG.thaw,cell_setCell]
   rw [← hp1,← hp2]
   have hMs : Mod (fun k => k = w.heap.size + 2) W (((W.setCell ⟨w.heap.size + 2,0,none⟩ vp).setCell ⟨w.heap.size + 2,1,none⟩ vt).setCell ⟨w.heap.size + 2,2,none⟩ (.slice none 0 0)) := (((Mod.refl _ _).setC _ _).setC _ _).setC _ _
   refine KR_mk (agr_any (hMs.weaken fun _ _ => trivial)) ?_
   have hpw : w.heap.size + 2 < p := by omega
   have hAw : w.heap.size + 2 < B1 := by have := N.pt; have := N.tA; have := N.a1; have := N.a2; omega
   obtain ⟨r1,r2,-⟩ := hIW.rows hMs fun a u hu hb => by omega
   have hGs := hGW.mod hMs (by omega) (by omega) (fun hne e => by have := y3 hne; omega) (fun k hk e => by have := y4 k hk; omega) (by omega) (by omega)
   have hXs : Ext w (((W.setCell ⟨w.heap.size + 2,0,none⟩ vp).setCell ⟨w.heap.size + 2,1,none⟩ vt).setCell ⟨w.heap.size + 2,2,none⟩ (.slice none 0 0)) := ((hE.trans hXW).mod (S := fun k => w.heap.size ≤ k)).trans (hMs.weaken fun k hk => by omega) |>.ext fun _ h => h
   have cG2 : Blk (((W.setCell ⟨w.heap.size + 2,0,none⟩ vp).setCell ⟨w.heap.size + 2,1,none⟩ vt).setCell ⟨w.heap.size + 2,2,none⟩ (.slice none 0 0)) (w.heap.size + 2) [vp,vt,.slice none 0 0] := ((cG.set 0 vp).set 1 vt).set 2 (.slice none 0 0)
   generalize ((W.setCell ⟨w.heap.size + 2,0,none⟩ vp).setCell ⟨w.heap.size + 2,1,none⟩ vt).setCell ⟨w.heap.size + 2,2,none⟩ (.slice none 0 0) = Ws at *
   have hRT' := hRT.congr hspM htotM
   have hnd : ∀ k,((sps M' k).map (·.1)).Nodup := fun k => (hGs.tab.inn k).nodup
   simp [f7,cG2.cell 0 _ rfl,cG2.cell 1 _ rfl,cG2.cell 2 _ rfl]
   subst heS
   refine ⟨⟨g,vp,vt,l,M',rfl,⟨⟨_,_,_,_,_,_,hGs⟩,r1,r2,hRT',hnd,by omega,by omega,heL,hRT'.gdT hGs.tab,fun k => ?_,hL⟩,hll⟩,hXs⟩
   have := Gr.sub_len (m := (S.foldl rsetL []).map (·.a)) (hnd k) fun x hx => by
    obtain ⟨s,hs,-,-,rfl⟩ := (isKey hRT' k.1 k.2 x).1 hx
    exact List.mem_map.2 ⟨s,hs,rfl⟩
   simp at this
   omega
end Go.Proofs