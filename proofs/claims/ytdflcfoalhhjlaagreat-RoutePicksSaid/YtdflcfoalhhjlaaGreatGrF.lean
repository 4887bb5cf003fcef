/-
 What the queue yields: the first tale of each node is the best one.
-/
import Derived.Test.YtdflcfoalhhjlaaGreatAmO
import Derived.Test.YtdflcfoalhhjlaaGreatGdJ
namespace Go.Proofs.Gr
section
variable (L : List Ct) (snt : Ct → Int → Option Int) (F : List Ct) (at0 : Int) (most : Nat)
def Good (X : List Tl) : Prop := ∀ X' x rest,X = X' ++ x :: rest → (∀ x' ∈ X',x'.n ≠ x.n) → BestOf L snt F at0 most x.n x
def Full (X : List Tl) : Prop := Good L snt F at0 most X ∧ (∀ x ∈ X,Wk L snt F at0 x ∧ x.h ≤ most) ∧ ∀ y,Wk L snt F at0 y → y.h ≤ most → ∃ x ∈ X,x.n = y.n
def Some' (X : List Tl) : Prop := X ≠ [] ∧ Good L snt F at0 most X ∧ ∀ x ∈ X,Wk L snt F at0 x ∧ x.h ≤ most
def kidL (x : Tl) (c : Ct) : List Tl := match snt c x.a with | some b => if x.h < most then [⟨b,x.h + 1,x.f,c.to'⟩] else [] | none => []
end
variable {L : List Ct} {snt : Ct → Int → Option Int} {F : List Ct} {at0 : Int} {most : Nat}
theorem good_nil : Good L snt F at0 most [] := fun X' x rest h => by simp at h
theorem good_snoc (hS : Sn snt) {X H : List Tl} {x : Tl} {R : Int × Ct → Option Nat} (hg : Good L snt F at0 most X) (h : Inv L snt F at0 most (x :: H) X R) (hmin : ∀ z ∈ H, ¬ keyLt z x) : Good L snt F at0 most (X ++ [x]) := by
 intro X' x0 rest he hn
 rcases List.eq_nil_or_concat rest with rfl | ⟨r', z, rfl⟩
 ·have h1 := List.append_inj' he rfl
  obtain ⟨rfl,h2⟩ := h1
  cases h2
  have hw := h.wH x (by simp)
  exact ⟨hw.1,rfl,hw.2,fun y hy e hk => h.first hS hmin hn hy hk e⟩
 ·have e2 : X' ++ x0 :: (r' ++ [z]) = (X' ++ x0 :: r') ++ [z] := by simp
  rw [List.concat_eq_append,e2] at he
  have h1 := List.append_inj' he rfl
  exact hg X' x0 r' h1.1 hn
theorem some_snoc (hS : Sn snt) {X H : List Tl} {x : Tl} {R : Int × Ct → Option Nat} (hg : Good L snt F at0 most X) (h : Inv L snt F at0 most (x :: H) X R) (hmin : ∀ z ∈ H, ¬ keyLt z x) : Some' L snt F at0 most (X ++ [x]) :=
 ⟨by simp, good_snoc hS hg h hmin, fun y hy => by
  rcases List.mem_append.1 hy with hy | hy
  ·exact h.wX y hy
  ·simp at hy; subst hy; exact h.wH _ (by simp)⟩
theorem full_of (hS : Sn snt) {X : List Tl} {R : Int × Ct → Option Nat} (hg : Good L snt F at0 most X) (h : Inv L snt F at0 most [] X R) : Full L snt F at0 most X := by
 refine ⟨hg,h.wX,fun y hy hk => ?_⟩
 rcases h.cover hS hy hk with ⟨z, hz, -⟩ | ⟨x, hx, h1, -⟩
 ·cases hz
 ·exact ⟨x,hx,congrArg Prod.fst h1⟩
theorem kids_eq (x : Tl) : kids L snt most x = (L.filter fun c => decide (c.fr = x.n)).flatMap (kidL snt most x) := by
 unfold kids
 induction L with
 | nil => rfl
 | cons c L ih =>
  rw [List.filterMap_cons,List.filter_cons]
  by_cases h : c.fr = x.n
  ·rw [if_pos h,if_pos (by simpa using h),List.flatMap_cons,← ih]
   unfold kidL
   cases snt c x.a with
   | none => rfl
   | some b =>
    simp only
    by_cases hm : x.h < most
    ·rw [if_pos hm,if_pos hm]; rfl
    ·rw [if_neg hm,if_neg hm]; rfl
  ·rw [if_neg h,if_neg (by simpa using h),ih]
theorem inis_eq (n : Int) : inis snt F at0 most = F.flatMap (fun f => kidL snt most ⟨at0, 0, f, n⟩ f) := by
 unfold inis
 induction F with
 | nil => rfl
 | cons c F ih =>
  rw [List.filterMap_cons,List.flatMap_cons,← ih]
  unfold kidL
  simp only
  cases snt c at0 with
  | none => rfl
  | some b =>
   simp only
   by_cases hm : 0 < most
   ·rw [if_pos hm,if_pos hm]; rfl
   ·rw [if_neg hm,if_neg hm]; rfl
theorem inis_len : (inis snt F at0 most).length ≤ F.length := List.length_filterMap_le _ _
theorem states_len : (states L F).length = L.length * F.length := by
 unfold states
 induction L with
 | nil => simp
 | cons a L ih => rw [List.flatMap_cons,List.length_append,ih,List.length_map,List.length_cons,Nat.succ_mul]; omega
theorem wgt_none (N : Nat) (l : List (Int × Ct)) : (l.map (wgt N (fun _ => none))).sum = l.length * (N + 2) := by
 induction l with
 | nil => simp
 | cons a l ih =>
  rw [List.map_cons,List.sum_cons,ih,List.length_cons,Nat.succ_mul]
  unfold wgt
  simp only
  omega
theorem mu_start (hL : L.length ≤ 14) (hF : F.length ≤ 14) {n : Nat} (hn : n ≤ 14) : mu L F (fun _ => none) n ≤ 600000 := by
 unfold mu
 rw [wgt_none,states_len]
 have h1 : L.length * F.length ≤ 196 := Nat.le_trans (Nat.mul_le_mul hL hF) (by omega)
 generalize L.length * F.length = k at *
 have h2 : k * (k + 2) ≤ 196 * 198 := Nat.mul_le_mul h1 (by omega)
 have h3 : k * (k + 2) * (L.length + 1) ≤ 196 * 198 * 15 := Nat.mul_le_mul h2 (by omega)
 omega
theorem mu_len (R : Int × Ct → Option Nat) (n : Nat) : n ≤ mu L F R n := by unfold mu; omega
theorem Inv.top {l l' X : List Tl} {x : Tl} {R : Int × Ct → Option Nat} (h : Inv L snt F at0 most l X R) (hp : (x :: l').Perm l) (hL : LHeap l) (hx : atL l 0 = x) : Inv L snt F at0 most (x :: l') X R ∧ ∀ z ∈ l', ¬ keyLt z x :=
 ⟨h.perm hp.symm,fun z hz => by rw [← hx]; exact hL.root z (hp.mem_iff.1 (by simp [hz]))⟩
theorem Wk.late (hS : Sn snt) {y : Tl} (h : Wk L snt F at0 y) : at0 < y.a := by
 induction h with
 | one f a hf hs => exact hS.up _ _ _ hs
 | step x c b hx hc hn hs ih => have := hS.up _ _ _ hs; simp only; omega
end Go.Proofs.Gr
namespace Go.Proofs
open Pk
set_option maxRecDepth 10000
structure Wst (w : World) (S : Nat → Prop) (g p : Nat) (v : Value) (L : List Ct) (t R : Nat) (M : ME) (a r : Nat) (m : VM) (bg bq : Nat) (q : Qu) (nv : Value) : Prop where
 vg : Var w bg (ptr g)
 vq : Blk w bq (quC q nv)
 gr : GrAt w g p v L t R M a r m
 no : SlB w 5 nv q.no.length (q.no.flatMap ctC)
 sg : S bg
 sq : S bq
 s1 : S g
 s2 : S p
 s3 : L ≠ [] → S (slB v)
 s4 : ∀ k,Foot t R M k → S k
 s5 : S a
 s6 : S r
 s7 : q.no ≠ [] → S (slB nv)
theorem GrAt.mod {w w' : World} {g p t R q r : Nat} {v : Value} {l : List Ct} {M : ME} {m : VM} {S : Nat → Prop} (h : GrAt w g p v l t R M q r m) (hM : Mod S w w') (s1 : ¬ S g) (s2 : ¬ S p) (s3 : l ≠ [] → ¬ S (slB v)) (s4 : ∀ k, Foot t R M k → ¬ S k) (s5 : ¬ S q) (s6 : ¬ S r) : GrAt w' g p v l t R M q r m :=
 ⟨h.blk.mod hM s1,h.plan.mod hM s2 s3,h.tab.mod hM s4,h.led.mod hM s5 s6⟩
theorem flatC_ne {l : List Ct} (h : l.flatMap ctC ≠ []) : l ≠ [] := fun e => h (by rw [e]; rfl)
theorem Wst.mod {w w' : World} {S S' : Nat → Prop} {g p t R a r bg bq : Nat} {v nv : Value} {L : List Ct} {M : ME} {m : VM} {q : Qu} (h : Wst w S g p v L t R M a r m bg bq q nv) (hM : Mod S' w w') (hS : ∀ k, S k → k < w.heap.size → ¬ S' k) : Wst w' S g p v L t R M a r m bg bq q nv := by
 have b1 := h.vg.lt
 have b2 := h.vq.lt
 have b3 := h.gr.blk.lt
 have b4 := h.gr.plan.lt
 have b5 := h.gr.tab.lt
 have b6 := h.gr.led.lt
 exact ⟨h.vg.mod hM (hS _ h.sg b1), h.vq.mod hM (hS _ h.sq b2), h.gr.mod hM (hS _ h.s1 b3) (hS _ h.s2 b4) (fun hl => hS _ (h.s3 hl) (h.gr.plan.rlt hl)) (fun k hk => hS k (h.s4 k hk) (b5 k hk)) (hS _ h.s5 b6.1) (hS _ h.s6 b6.2),
  h.no.mod hM fun hn => hS _ (h.s7 (flatC_ne hn)) (h.no.lt (List.length_pos_iff.2 hn)),h.sg,h.sq,h.s1,h.s2,h.s3,h.s4,h.s5,h.s6,h.s7⟩
theorem Wst.ext {w w' : World} {S : Nat → Prop} {g p t R a r bg bq : Nat} {v nv : Value} {L : List Ct} {M : ME} {m : VM} {q : Qu} (h : Wst w S g p v L t R M a r m bg bq q nv) (hE : Ext w w') : Wst w' S g p v L t R M a r m bg bq q nv :=
 h.mod (hE.mod (S := fun _ => False)) fun _ _ _ => id
structure HA (wr W : World) (ob base : Nat) (v0 : Value) (l0 : List Tl) (C : Nat → Prop) (ks : List Tl) (vh : Value) (l : List Tl) : Prop where
 hp : HeapAt W ob base vh l
 lh : Gr.LHeap l
 pm : l.Perm (ks ++ l0)
 c : ∀ k,C k ↔ k = ob ∨ (slN vh = false ∧ k = slB vh)
 md : Mod (fun k => k = ob ∨ (slN v0 = false ∧ k = slB v0)) wr W
 nw : slN vh = false → (slN v0 = false ∧ slB vh = slB v0) ∨ wr.heap.size ≤ slB vh
theorem HA.agr {wr W W' : World} {ob base : Nat} {v0 vh : Value} {l0 l ks : List Tl} {C : Nat → Prop} (h : HA wr W ob base v0 l0 C ks vh l) (hag : Agr (fun k => k < wr.heap.size ∨ C k) W W') : HA wr W' ob base v0 l0 C ks vh l :=
 ⟨h.hp.agr hag (.inr ((h.c _).2 (.inl rfl))) (fun hn => .inr ((h.c _).2 (.inr ⟨hn,rfl⟩))),h.lh,h.pm,h.c,h.md.agr_old hag,h.nw⟩
theorem HA.step {wr W W' : World} {ob base : Nat} {v0 vh v' : Value} {l0 l l' ks kd : List Tl} {C : Nat → Prop} (h : HA wr W ob base v0 l0 C ks vh l) (hp : HeapAt W' ob base v' l') (hL : Gr.LHeap l') (hpm : l'.Perm (kd ++ l))
  (hM : Mod (fun k => k = ob ∨ (slN vh = false ∧ k = slB vh)) W W') (hn : slN v' = false → (slN vh = false ∧ slB v' = slB vh) ∨ W.heap.size ≤ slB v') :
  HA wr W' ob base v0 l0 (fun k => k = ob ∨ (slN v' = false ∧ k = slB v')) (ks ++ kd) v' l' ∧ Own C (fun k => k = ob ∨ (slN v' = false ∧ k = slB v')) W W' := by
 have hs := h.md.size
 refine ⟨⟨hp, hL, ?_, fun k => Iff.rfl, h.md.trans' hM ?_, fun hv => ?_⟩, ⟨hM.weaken fun k hk => (h.c k).2 hk, ?_, ?_⟩⟩
 ·refine hpm.trans ((List.Perm.append_left kd h.pm).trans ?_)
  rw [List.append_assoc]
  exact List.perm_append_comm_assoc kd ks l0
 ·rintro i (hi | ⟨h1, h2⟩)
  ·exact .inl (.inl hi)
  ·rcases h.nw h1 with ⟨a, b⟩ | b
   ·exact .inl (.inr ⟨a,by rw [h2,b]⟩)
   ·exact .inr (by omega)
 ·rcases hn hv with ⟨a, b⟩ | b
  ·rw [b]; exact h.nw a
  ·exact .inr (by omega)
 ·rintro k (hk | ⟨h1, rfl⟩)
  ·exact .inl ((h.c k).2 (.inl hk))
  ·rcases hn h1 with ⟨a, b⟩ | b
   ·exact .inl ((h.c _).2 (.inr ⟨a,b⟩))
   ·exact .inr b
 ·rintro k (hk | ⟨h1, rfl⟩)
  ·exact .inl ((h.c k).2 (.inl hk))
  ·exact .inr (wrow_lt hp.row h1)
theorem kidO_eq (M : ME) (m : VM) (q : Qu) (x : Tl) (c : Ct) : kidO M m q x c = Gr.kidL (gSnt M m q.size) q.most.toNat x c := by
 unfold kidO Gr.kidL
 cases gSnt M m q.size c x.a with
 | none => rfl
 | some b =>
  simp only
  by_cases h : (x.h : Int) < q.most
  ·rw [if_pos h,if_pos (by omega)]
  ·rw [if_neg h,if_neg (by omega)]
def stkC (k : Int × Ct) : List Value := u32 k.1 :: ctC k.2
def ekS (k : Int × Ct) : Value := .agg (stkC k).toArray
def ewH (n : Nat) : Value := i64 n
abbrev SM := List ((Int × Ct) × Nat)
theorem fSt : flatA Tryz.prog 222 = some [.int .u32,.int .u32,.int .u32,.int .u64,.int .u64,.int .u64] := by kernel_rfl
theorem kSt : KeyEq Tryz.prog 222 ekS := keyEq_flat (g := stkC) fSt (fun _ => rfl) fun a b => by
 obtain ⟨n,f⟩ := a
 obtain ⟨n',f'⟩ := b
 obtain ⟨a1,a2,a3,a4,a5⟩ := f
 obtain ⟨b1,b2,b3,b4,b5⟩ := f'
 rw [Bool.eq_iff_iff]
 simp [stkC,eqcs,eqc]
theorem row_obj {w : World} {b base : Nat} {v : Value} {l : List Tl} (h : HeapAt w b base v l) (hn : slN v = false) : ∃ cur t, w.heap[slB v]? = some (.cells cur t (0, 0)) := by
 obtain ⟨h1,h2⟩ := h.row
 rcases h2 with ⟨rfl, h2⟩ | ⟨g, cap, cur, rfl, a1, a2, a3⟩
 ·cases hn
 ·exact ⟨cur,_,a2⟩
end Go.Proofs
namespace Go.Proofs
open Pk
set_option maxRecDepth 10000
structure WR (W : World) (C0 : Nat → Prop) (J : (Nat → Prop) → List Tl → World → Prop) (cl : Value) (rm : Nat) (w' : World) (C : Nat → Prop) (mm : SM) (pre : List Tl) (Ds : List Nat) : Prop where
 j : J C pre w'
 own : ∀ k,C k → C0 k ∨ W.heap.size ≤ k
 lt : ∀ k,C k → k < w'.heap.size
 ag : Agr (fun k => k < W.heap.size ∧ ¬ C0 k) W w'
 v4 : Var w' (W.heap.size + 1) (ptr W.heap.size)
 v5 : Var w' (W.heap.size + 2) cl
 mp : MapAt ekS ewH w' rm mm
 rge : W.heap.size + 3 ≤ rm
 nd : Ds.Nodup
 mks : ∀ D ∈ Ds,W.heap.size + 3 ≤ D ∧ w'.heap[D]? = some (.deferred (some [])) ∧ ¬ C D
 o0 : ¬ C W.heap.size
 o1 : ¬ C (W.heap.size + 1)
 o2 : ¬ C (W.heap.size + 2)
 orm : ¬ C rm
section
variable {W : World} {C0 : Nat → Prop} {J : (Nat → Prop) → List Tl → World → Prop} {cl : Value} {rm : Nat} {w' w2 : World} {C C' : Nat → Prop} {mm : SM} {pre : List Tl} {Ds : List Nat} {vh : Value} {l : List Tl}
structure Free (W : World) (C : Nat → Prop) (rm : Nat) (Ds : List Nat) (k : Nat) : Prop where
 ge : W.heap.size ≤ k
 c : ¬ C k
 n1 : k ≠ W.heap.size + 1
 n2 : k ≠ W.heap.size + 2
 nr : k ≠ rm
 nd : k ∉ Ds
theorem WR.mod {S : Nat → Prop} (h : WR W C0 J cl rm w' C mm pre Ds) (hJ : ∀ C pre W1 W2, J C pre W1 → Agr (fun k => k < W.heap.size ∨ C k) W1 W2 → J C pre W2) (hM : Mod S w' w2) (hS : ∀ k, S k → Free W C rm Ds k) : WR W C0 J cl rm w2 C mm pre Ds where
 j := hJ _ _ _ _ h.j (hM.agr fun k hk hs => by
  have := hS k hs
  rcases hk with hk | hk
  ·have := this.ge; omega
  ·exact this.c hk)
 own := h.own
 lt := fun k hk => Nat.lt_of_lt_of_le (h.lt k hk) hM.size
 ag := h.ag.trans (hM.agr fun k hk hs => by have := (hS k hs).ge; omega)
 v4 := h.v4.mod hM fun hs => (hS _ hs).n1 rfl
 v5 := h.v5.mod hM fun hs => (hS _ hs).n2 rfl
 mp := h.mp.mod hM fun hs => (hS _ hs).nr rfl
 rge := h.rge
 nd := h.nd
 mks := fun D hD => by
  obtain ⟨a,b,c⟩ := h.mks D hD
  exact ⟨a,hM.obj b fun hs => (hS _ hs).nd hD,c⟩
 o0 := h.o0
 o1 := h.o1
 o2 := h.o2
 orm := h.orm
theorem WR.ext (h : WR W C0 J cl rm w' C mm pre Ds) (hJ : ∀ C pre W1 W2, J C pre W1 → Agr (fun k => k < W.heap.size ∨ C k) W1 W2 → J C pre W2) (hE : Ext w' w2) : WR W C0 J cl rm w2 C mm pre Ds :=
 h.mod hJ (hE.mod (S := fun _ => False)) fun _ => False.elim
theorem WR.free (h : WR W C0 J cl rm w' C mm pre Ds) (hp : HeapAt w' W.heap.size (W.heap.size + 3) vh l) (ho : slN vh = false → ¬ C (slB vh)) (k : Nat) (hk : k = W.heap.size ∨ (slN vh = false ∧ k = slB vh)) : Free W C rm Ds k := by
 rcases hk with rfl | ⟨hn, rfl⟩
 ·refine ⟨Nat.le_refl _, h.o0, by omega, by omega, fun e => ?_, fun hD => ?_⟩
  ·have := h.rge; omega
  ·have := (h.mks _ hD).1; omega
 ·have hge := wrow_ge hp.row hn
  obtain ⟨cur,ty,hob⟩ := row_obj hp hn
  refine ⟨by omega, ho hn, by omega, by omega, fun e => ?_, fun hD => ?_⟩
  ·obtain ⟨es,ck,h1,-⟩ := h.mp.ex
   rw [← e,hob] at h1
   cases h1
  ·have := (h.mks _ hD).2.1
   rw [hob] at this
   cases this
theorem WR.put (h : WR W C0 J cl rm w' C mm pre Ds) (hJ : ∀ C pre W1 W2, J C pre W1 → Agr (fun k => k < W.heap.size ∨ C k) W1 W2 → J C pre W2) (hM : Mod (· = rm) w' w2) {mm' : SM} (hm : MapAt ekS ewH w2 rm mm') : WR W C0 J cl rm w2 C mm' pre Ds where
 j := hJ _ _ _ _ h.j (hM.agr fun k hk hs => by
  subst hs
  rcases hk with hk | hk
  ·have := h.rge; omega
  ·exact h.orm hk)
 own := h.own
 lt := fun k hk => Nat.lt_of_lt_of_le (h.lt k hk) hM.size
 ag := h.ag.trans (hM.agr fun k hk hs => by have := h.rge; omega)
 v4 := h.v4.mod hM fun hs => by have := h.rge; omega
 v5 := h.v5.mod hM fun hs => by have := h.rge; omega
 mp := hm
 rge := h.rge
 nd := h.nd
 mks := fun D hD => by
  obtain ⟨a,b,c⟩ := h.mks D hD
  refine ⟨a,hM.obj b fun hs => ?_,c⟩
  obtain ⟨es,ck,h1,-⟩ := h.mp.ex
  rw [← hs,b] at h1
  cases h1
 o0 := h.o0
 o1 := h.o1
 o2 := h.o2
 orm := h.orm
theorem WR.yield (h : WR W C0 J cl rm w' C mm pre Ds) {pre' : List Tl} (hj : J C' pre' w2) (ho : Own C C' w' w2) : WR W C0 J cl rm w2 C' mm pre' Ds where
 j := hj
 own := fun k hk => by
  rcases ho.own k hk with h1 | h1
  ·exact h.own k h1
  ·have := h.ag.size; exact .inr (by omega)
 lt := fun k hk => by
  rcases ho.lt k hk with h1 | h1
  ·exact Nat.lt_of_lt_of_le (h.lt k h1) ho.mod.size
  ·exact h1
 ag := h.ag.trans (ho.mod.agr fun k hk hc => by
  rcases h.own k hc with h1 | h1
  ·exact hk.2 h1
  ·omega)
 v4 := h.v4.mod ho.mod h.o1
 v5 := h.v5.mod ho.mod h.o2
 mp := h.mp.mod ho.mod h.orm
 rge := h.rge
 nd := h.nd
 mks := fun D hD => by
  obtain ⟨a,b,c⟩ := h.mks D hD
  refine ⟨a,ho.mod.obj b c,fun hc => ?_⟩
  rcases ho.own D hc with h1 | h1
  ·exact c h1
  ·have := (Array.getElem?_eq_some_iff.1 b).1; omega
 o0 := fun hc => by
  rcases ho.own _ hc with h1 | h1
  ·exact h.o0 h1
  ·have := h.v4.lt; omega
 o1 := fun hc => by
  rcases ho.own _ hc with h1 | h1
  ·exact h.o1 h1
  ·have := h.v4.lt; omega
 o2 := fun hc => by
  rcases ho.own _ hc with h1 | h1
  ·exact h.o2 h1
  ·have := h.v5.lt; omega
 orm := fun hc => by
  rcases ho.own _ hc with h1 | h1
  ·exact h.orm h1
  ·have := h.mp.lt; omega
theorem WR.any {J' : (Nat → Prop) → List Tl → World → Prop} (h : WR W C0 J cl rm w' C mm pre Ds) (hj : J' C pre w') : WR W C0 J' cl rm w' C mm pre Ds := { h with j := hj }
theorem WR.mark (h : WR W C0 J cl rm w' C mm pre Ds) {D : Nat} (h1 : W.heap.size + 3 ≤ D) (h2 : w'.heap[D]? = some (.deferred (some []))) (h3 : ¬ C D) (h4 : D ∉ Ds) : WR W C0 J cl rm w' C mm pre (D :: Ds) :=
 {h with
  nd := List.nodup_cons.2 ⟨h4,h.nd⟩
  mks := fun E hE => by
   rcases List.mem_cons.1 hE with rfl | hE
   ·exact ⟨h1,h2,h3⟩
   ·exact h.mks E hE }
end
theorem tmS : Tryz.prog.underlying 219 = some (.map 222 3) := by simp
theorem zS (w : World) : (zeroValue 3).run Tryz.prog w = .ok (ewH 0) w := by simp [ewH]
theorem lookS {w : World} {r : Nat} {mm : SM} (h : MapAt ekS ewH w r mm) (x : Tl) : (Instr.lookup 219 (.map (some r)) (.agg #[u32 x.n, u32 x.f.fr, u32 x.f.to', u64 x.f.sf, u64 x.f.su, u64 x.f.rate]) true).run Tryz.prog w = .ok (.tuple #[i64 ((mget mm x.st).getD 0 : Nat), .bool (mget mm x.st).isSome]) w := by
 have := h.lookup (P := Tryz.prog) kSt tmS (zS w) x.st true
 simp only [if_true] at this
 rw [show ekS x.st = .agg #[u32 x.n,u32 x.f.fr,u32 x.f.to',u64 x.f.sf,u64 x.f.su,u64 x.f.rate] from rfl] at this
 rw [this]
 cases mget mm x.st <;> rfl
theorem putS {w : World} {r : Nat} {mm : SM} (h : MapAt ekS ewH w r mm) (x : Tl) : ∃ w', (Instr.mapUpdate 219 (.map (some r)) (.agg #[u32 x.n, u32 x.f.fr, u32 x.f.to', u64 x.f.sf, u64 x.f.su, u64 x.f.rate]) (i64 x.h)).run Tryz.prog w = .ok () w' ∧ MapAt ekS ewH w' r (mset mm x.st x.h) ∧ Mod (· = r) w w' ∧ w'.heap.size = w.heap.size :=
 h.update (P := Tryz.prog) kSt tmS x.st x.h
structure WL (L : List Ct) (snt : Ct → Int → Option Int) (F : List Ct) (at0 : Int) (most : Nat) (W : World) (C0 : Nat → Prop) (J : (Nat → Prop) → List Tl → World → Prop) (cl : Value) (rm : Nat) (w' : World) (C : Nat → Prop) (vh : Value) (l : List Tl) (mm : SM) (pre : List Tl) (Ds : List Nat) : Prop where
 r : WR W C0 J cl rm w' C mm pre Ds
 hp : HeapAt w' W.heap.size (W.heap.size + 3) vh l
 lh : Gr.LHeap l
 orow : slN vh = false → ¬ C (slB vh)
 inv : Gr.Inv L snt F at0 most l pre (mget mm)
 good : Gr.Good L snt F at0 most pre
 few : Gr.mu L F (mget mm) l.length ≤ 600000
def WLoop (L : List Ct) (snt : Ct → Int → Option Int) (F : List Ct) (at0 : Int) (most : Nat) (W : World) (C0 : Nat → Prop) (J : (Nat → Prop) → List Tl → World → Prop) (cl : Value) (rm : Nat) (y : Value) (bg bq : Nat) (k : Nat) (ρ : Env) (ds : List Deferred) (w' : World) : Prop :=
 ∃ C vh l mm pre Ds,WL L snt F at0 most W C0 J cl rm w' C vh l mm pre Ds ∧ k = Gr.mu L F (mget mm) l.length ∧ ρ 0 = y ∧ ρ 1 = ptr bg ∧ ρ 2 = ptr bq ∧ ρ 4 = ptr (W.heap.size + 1) ∧ ρ 5 = ptr (W.heap.size + 2) ∧ ρ 7 = .map (some rm) ∧ ds = Ds.map dmark
end Go.Proofs