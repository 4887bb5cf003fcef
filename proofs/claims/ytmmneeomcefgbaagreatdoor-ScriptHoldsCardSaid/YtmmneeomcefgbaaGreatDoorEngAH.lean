/-
 The engine,part AH: part S's rule for effects that may give up (a call that panics leaves the statement).
-/
import Derived.Test.YtmmneeomcefgbaaGreatDoorEngV
namespace Pk
open Go
def XP (ds : List Deferred) (Z : List PanicEntry → World → Prop) : Post
 | .panic ch,_,ds',w => ds' = ds ∧ Z ch w
 | _,_,_,_ => False
@[simp] theorem XP_panic (ds ds' : List Deferred) (Z : List PanicEntry → World → Prop) (ch : List PanicEntry) (ρ : Env) (w : World) : XP ds Z (.panic ch) ρ ds' w = (ds' = ds ∧ Z ch w) := rfl
theorem VO_impX {P : Program} {r : Option Nat} {o : Oper} {K K' : Cont} {Q : Post} {ρ : Env} {ds : List Deferred} {w : World} (h : VO P r o K Q ρ ds w)
  (hK : ∀ v ds' w',K (put ρ o.dst v) ds' w' → K' (put ρ o.dst v) ds' w') : VO P r o K' Q ρ ds w := by
 obtain ⟨dst,op,ty,pos,aft,gd⟩ := o
 have hk : ∀ v w',K (put ρ dst v) ds w' → K' (put ρ dst v) ds w' := fun v w' => hK v ds w'
 cases op with
 | call c =>
  obtain ⟨callee,args,ats⟩ := c
  cases callee with
  | value f =>
   refine CV.mono (show CV P (ev ρ f) (args.toList.map (ev ρ)) w (RC dst K Q ρ ds) from h) fun e w' he => ?_
   cases e with
   | returned v => exact hk _ _ he
   | panicked ch => exact he
   | outgrown => exact he
  | invoke x m =>
   refine IV.mono (show IV P m (ev ρ x :: args.toList.map (ev ρ)) w (RC dst K Q ρ ds) from h) fun e w' he => ?_
   cases e with
   | returned v => exact hk _ _ he
   | panicked ch => exact he
   | outgrown => exact he
  | builtin b => exact onR_imp h hk
 | defer c =>
  obtain ⟨callee,args,ats⟩ := c
  cases callee with
  | value f =>
   obtain ⟨h1,h2⟩ := (show r = none ∧ DF (ev ρ f) (args.toList.map (ev ρ)) fun d => K (put ρ dst undef) (d :: ds) w from h)
   refine (show r = none ∧ DF (ev ρ f) (args.toList.map (ev ρ)) fun d => K' (put ρ dst undef) (d :: ds) w from ⟨h1,?_⟩)
   unfold DF at h2 ⊢
   split at h2
   ·exact hK _ _ _ h2
   ·exact h2.elim
  | _ => exact (show False from h).elim
 | panic x => exact h
 | move x => exact hk _ _ h
 | assign x => exact hk _ _ h
 | makeFunc fn first caps => exact hk _ _ h
 | box t x => exact onR_imp (x := (Instr.box t (ev ρ x)).run P w) (show onR ((Instr.box t (ev ρ x)).run P w) (fun v w' => K (put ρ dst v) ds w') from h) hk
 | _ => first | exact onR_imp h hk | exact onU_imp h (fun w' => hk _ w') | exact (show False from h).elim
theorem VO_envX {P : Program} {r : Option Nat} {o : Oper} {k : Value → List Deferred → World → Prop} {ρ ρ' : Env} {ds : List Deferred} {w : World} {Z : List PanicEntry → World → Prop}
  (h : ∀ t ∈ tmpsOf o,ρ t = ρ' t) (hv : VO P r o (fun ρ'' ds'' w'' => k (dv ρ'' o.dst) ds'' w'') (XP ds Z) ρ ds w) :
  VO P r o (fun ρ'' ds'' w'' => k (dv ρ'' o.dst) ds'' w'' ∧ ∃ v,ρ'' = put ρ' o.dst v) (XP ds Z) ρ' ds w := by
 have hx : ∀ x ∈ o.op.operands, ev ρ x = ev ρ' x := by
  intro x hx
  cases x with
  | tmp t => exact h t (List.mem_filterMap.2 ⟨.tmp t,by simpa using hx,rfl⟩)
  | _ => rfl
 obtain ⟨dst,op,ty,pos,aft,gd⟩ := o
 have cv : ∀ v w',k (dv (put ρ dst v) dst) ds w' → (k (dv (put ρ' dst v) dst) ds w' ∧ ∃ u,put ρ' dst v = put ρ' dst u) := fun v w' hk => ⟨by rw [← dv_put ρ ρ']; exact hk,v,rfl⟩
 have onRm : ∀ {x : Result Value} {a b : Value → World → Prop}, (∀ v w', a v w' → b v w') → onR x a → onR x b := by
  intro x a b hab hx
  cases x with
  | ok v w' => exact hab _ _ hx
  | halt e w' => exact hx
 have onUm : ∀ {x : Result Unit} {a b : World → Prop}, (∀ w', a w' → b w') → onU x a → onU x b := by
  intro x a b hab hx
  cases x with
  | ok v w' => exact hab _ hx
  | halt e w' => exact hx
 cases op with
 | move x => rw [VO_move] at hv ⊢; rw [← hx x (by simp [Op.operands])]; exact cv _ _ hv
 | assign x => rw [VO_assign] at hv ⊢; rw [← hx x (by simp [Op.operands])]; exact cv _ _ hv
 | pick c a b => rw [VO_pick] at hv ⊢; rw [← hx c (by simp [Op.operands]),← hx a (by simp [Op.operands]),← hx b (by simp [Op.operands])]; exact onRm cv hv
 | alloc t => exact onRm cv hv
 | box t x => rw [VO_box] at hv ⊢; rw [← hx x (by simp [Op.operands])]; exact onRm cv hv
 | build t ps =>
  have e : ps.map (fun (i,x) => (i,ev ρ x)) = ps.map (fun (i,x) => (i,ev ρ' x)) := Array.map_congr_left fun p hp => by obtain ⟨i,x⟩ := p; simp only; rw [hx x (by simp [Op.operands]; exact ⟨i,hp⟩)]
  have hv' : onR ((Instr.build t (ps.map fun (i,x) => (i,ev ρ x))).run P w) (fun v w' => k (dv (put ρ dst v) dst) ds w') := hv
  rw [e] at hv'
  exact onRm cv hv'
 | buildSlice t n ps =>
  have e : ps.map (fun (i,x) => (i,ev ρ x)) = ps.map (fun (i,x) => (i,ev ρ' x)) := Array.map_congr_left fun p hp => by obtain ⟨i,x⟩ := p; simp only; rw [hx x (by simp [Op.operands]; exact ⟨i,hp⟩)]
  have hv' : onR ((Instr.buildSlice t n (ps.map fun (i,x) => (i,ev ρ x))).run P w) (fun v w' => k (dv (put ρ dst v) dst) ds w') := hv
  rw [e] at hv'
  exact onRm cv hv'
 | load t x => rw [VO_load] at hv ⊢; rw [← hx x (by simp [Op.operands])]; exact onRm cv hv
 | store t x y => rw [VO_store] at hv ⊢; rw [← hx x (by simp [Op.operands]),← hx y (by simp [Op.operands])]; exact onUm (fun w' => cv _ w') hv
 | nilCheck x => rw [VO_nilCheck] at hv ⊢; rw [← hx x (by simp [Op.operands])]; exact onRm cv hv
 | binOp p t x y t' =>
  have ex := hx x (by simp [Op.operands]); have ey := hx y (by simp [Op.operands])
  rw [VO_binOp] at hv ⊢; rw [← ex,← ey]; exact onRm cv hv
 | unOp p t x => rw [VO_unOp] at hv ⊢; rw [← hx x (by simp [Op.operands])]; exact onRm cv hv
 | convert s t x => rw [VO_convert] at hv ⊢; rw [← hx x (by simp [Op.operands])]; exact onRm cv hv
 | sliceToArrayPointer t x => rw [VO_s2ap] at hv ⊢; rw [← hx x (by simp [Op.operands])]; exact onRm cv hv
 | makeInterface t x => rw [VO_makeInterface] at hv ⊢; rw [← hx x (by simp [Op.operands])]; exact onRm cv hv
 | makeFunc fn first caps =>
  have e1' : first.map (ev ρ) = first.map (ev ρ') := Array.map_congr_left fun x hm => hx x (by simp [Op.operands,hm])
  have e2' : caps.map (ev ρ) = caps.map (ev ρ') := Array.map_congr_left fun x hm => hx x (by simp [Op.operands,hm])
  have hv' : k (dv (put ρ dst (.func fn (first.map (ev ρ)) (caps.map (ev ρ)))) dst) ds w := hv
  rw [e1',e2'] at hv'
  exact cv _ _ hv'
 | makeMap t x => 
  cases x with
  | none => rw [VO_makeMap] at hv ⊢; exact onRm cv hv
  | some x => rw [VO_makeMap] at hv ⊢; simp only [Option.map_some] at hv ⊢; rw [← hx x (by simp [Op.operands])]; exact onRm cv hv
 | makeSlice t x y => rw [VO_makeSlice] at hv ⊢; rw [← hx x (by simp [Op.operands]),← hx y (by simp [Op.operands])]; exact onRm cv hv
 | slice t x lo hi mx =>
  have ex := hx x (by simp [Op.operands])
  have el : lo.map (ev ρ) = lo.map (ev ρ') := by cases lo with | none => rfl | some a => simp [hx a (by simp [Op.operands])]
  have eh : hi.map (ev ρ) = hi.map (ev ρ') := by cases hi with | none => rfl | some a => simp [hx a (by simp [Op.operands])]
  have em : mx.map (ev ρ) = mx.map (ev ρ') := by cases mx with | none => rfl | some a => simp [hx a (by simp [Op.operands])]
  rw [VO_slice] at hv ⊢; rw [← ex,← el,← eh,← em]; exact onRm cv hv
 | fieldAddr s x f => rw [VO_fieldAddr] at hv ⊢; rw [← hx x (by simp [Op.operands])]; exact onRm cv hv
 | field s x f => rw [VO_field] at hv ⊢; rw [← hx x (by simp [Op.operands])]; exact onRm cv hv
 | indexAddr t x y => rw [VO_indexAddr] at hv ⊢; rw [← hx x (by simp [Op.operands]),← hx y (by simp [Op.operands])]; exact onRm cv hv
 | index t x y => rw [VO_index] at hv ⊢; rw [← hx x (by simp [Op.operands]),← hx y (by simp [Op.operands])]; exact onRm cv hv
 | lookup t x y ok => rw [VO_lookup] at hv ⊢; rw [← hx x (by simp [Op.operands]),← hx y (by simp [Op.operands])]; exact onRm cv hv
 | mapUpdate t x y z => rw [VO_mapUpdate] at hv ⊢; rw [← hx x (by simp [Op.operands]),← hx y (by simp [Op.operands]),← hx z (by simp [Op.operands])]; exact onUm (fun w' => cv _ w') hv
 | insert t x y z => rw [VO_insert] at hv ⊢; rw [← hx x (by simp [Op.operands]),← hx y (by simp [Op.operands]),← hx z (by simp [Op.operands])]; exact onUm (fun w' => cv _ w') hv
 | mapEntry t x y => rw [VO_mapEntry] at hv ⊢; rw [← hx x (by simp [Op.operands]),← hx y (by simp [Op.operands])]; exact onRm cv hv
 | entryStore t x y z => rw [VO_entryStore] at hv ⊢; rw [← hx x (by simp [Op.operands]),← hx y (by simp [Op.operands]),← hx z (by simp [Op.operands])]; exact onUm (fun w' => cv _ w') hv
 | range t x => rw [VO_range] at hv ⊢; rw [← hx x (by simp [Op.operands])]; exact onRm cv hv
 | next x s => rw [VO_next] at hv ⊢; rw [← hx x (by simp [Op.operands])]; exact onRm cv hv
 | entry x => rw [VO_entry] at hv ⊢; rw [← hx x (by simp [Op.operands])]; exact onRm cv hv
 | typeAssert x s t ok => rw [VO_typeAssert] at hv ⊢; rw [← hx x (by simp [Op.operands])]; exact onRm cv hv
 | extract x i => rw [VO_extract] at hv ⊢; rw [← hx x (by simp [Op.operands])]; exact onRm cv hv
 | call c =>
  obtain ⟨callee,args,ats⟩ := c
  cases callee with
  | value f =>
   have ea : args.toList.map (ev ρ) = args.toList.map (ev ρ') := List.map_congr_left fun x hm => hx x (by simp [Op.operands,Call.operands]; exact .inr (by simpa using hm))
   have ef := hx f (by simp [Op.operands,Call.operands])
   have hv' : CV P (ev ρ f) (args.toList.map (ev ρ)) w _ := hv
   show CV P (ev ρ' f) (args.toList.map (ev ρ')) w _
   rw [← ea,← ef]
   refine hv'.mono fun e w' hr => ?_
   cases e with
   | returned v => exact cv _ _ hr
   | panicked ch => exact hr
   | outgrown => exact hr
  | builtin b =>
   have ea : args.map (ev ρ) = args.map (ev ρ') := Array.map_congr_left fun x hm => hx x (by simp [Op.operands,Call.operands,hm])
   have hv' : onR ((BV b ats ty (args.map (ev ρ))).run P w) (fun v w' => k (dv (put ρ dst v) dst) ds w') := hv
   rw [ea] at hv'
   exact onRm cv hv'
  | invoke x m =>
   have ea : args.toList.map (ev ρ) = args.toList.map (ev ρ') := List.map_congr_left fun x hm => hx x (by simp [Op.operands,Call.operands]; exact .inr (by simpa using hm))
   have ef := hx x (by simp [Op.operands,Call.operands])
   have hv' : IV P m (ev ρ x :: args.toList.map (ev ρ)) w _ := hv
   show IV P m (ev ρ' x :: args.toList.map (ev ρ')) w _
   rw [← ea,← ef]
   refine hv'.mono fun e w' hr => ?_
   cases e with
   | returned v => exact cv _ _ hr
   | panicked ch => exact hr
   | outgrown => exact hr
 | defer c =>
  obtain ⟨callee,args,ats⟩ := c
  cases callee with
  | value f =>
   have ea : args.toList.map (ev ρ) = args.toList.map (ev ρ') := List.map_congr_left fun x hm => hx x (by simp [Op.operands,Call.operands]; exact .inr (by simpa using hm))
   have ef := hx f (by simp [Op.operands,Call.operands])
   have hv' : r = none ∧ DF (ev ρ f) (args.toList.map (ev ρ)) (fun x => k (dv (put ρ dst undef) dst) (x :: ds) w) := hv
   refine ⟨hv'.1,?_⟩
   have h2 := hv'.2
   show DF (ev ρ' f) (args.toList.map (ev ρ')) _
   rw [← ea,← ef]
   unfold DF at h2 ⊢
   split at h2
   ·exact ⟨by rw [← dv_put ρ ρ']; exact h2,_,rfl⟩
   ·exact h2.elim
  | _ => exact (show False from hv).elim
 | panic x =>
  have hv' : PN (ev ρ x) (fun ch => XP ds Z (.panic ch) ρ ds w) := hv
  rw [hx x (by simp [Op.operands])] at hv'
  exact hv'
 | _ => exact (show False from hv).elim
def REX (P : Program) (X : Nat → Bool) (Z : List PanicEntry → World → Prop) (r : Option Nat) (ds : List Deferred) (ops : List Oper) (K : Env → World → Prop) (σ : Env) (W : World) : Option Oper → Prop
 | none => False
 | some o => GI (gw ops.toArray σ o.guard) (VO P r o (fun ρ'' ds'' w'' => ds'' = ds ∧ KR (Agr (fun k => X k = false) W w'') (K ρ'' w'')) (XP ds Z) σ ds W) (K (put σ o.dst undef) W)
def RLX (P : Program) (X Xc : Nat → Bool) (Z : List PanicEntry → World → Prop) (r : Option Nat) (ds : List Deferred) (ops : List Oper) (fs : Nat → Value → World → Prop) (T : Env → World → Prop) : Tl → Env → World → Prop
 | .Z,σ,W => T σ W
 | .F i t,σ,W => RF P Xc r ds ops (RLX P X Xc Z r ds ops fs T t) σ W (nthO ops i)
 | .C i t,σ,W => REX P Xc Z r ds ops (RLX P X Xc Z r ds ops fs T t) σ W (nthO ops i)
 | .S i t,σ,W => REX P (fun _ => true) Z r ds ops (RLX P X Xc Z r ds ops fs T t) σ W (nthO ops i)
 | .L i t,σ,W => ∀ W',Ext W W' → REX P X Z r ds ops (RLX P X Xc Z r ds ops fs T t) σ W' (nthO ops i)
 | .D i t,σ,W => RD P X r ds ops (fs i) σ W (nthO ops i) ∧ RLX P X Xc Z r ds ops fs T t σ W
 | .W i t,σ,W => ∀ v W',Ext W W' → fs i v W' → RLX P X Xc Z r ds ops fs T t (put σ (dstAt ops i) v) W'
section
variable {P : Program} {X Xc : Nat → Bool} {Z : List PanicEntry → World → Prop} {n : Nat} {r : Option Nat} {id : Nat} {ops : List Oper} {m : Nat} {bs : List (List Nat)} {ds : List Deferred} {fs : Nat → Value → World → Prop} {T : Env → World → Prop} {ρ ρ' : Env}
structure GLX (P : Program) (X Xc : Nat → Bool) (Z : List PanicEntry → World → Prop) (r : Option Nat) (ds : List Deferred) (ops : List Oper) (m : Nat) (bs : List (List Nat)) (fs : Nat → Value → World → Prop) (T : Env → World → Prop) (ρ ρ' : Env) (S : Nat → Bool) (W : World) (t : Tl) (L D : List Nat) (σ : Env) (Wg : World) : Prop where
 ok : tlOk P ops m bs t L D = true
 rt : RLX P X Xc Z r ds ops fs T t σ Wg
 ext : Ext Wg W
 eq : (∀ i ∈ D,S i = false) → W = Wg
 sub : ∀ j,S j = true → j ∈ L ∨ j ∈ D
 lm : ∀ j ∈ L,j < m
 dl : ∀ j ∈ D,j < m ∧ j ∉ L ∧ (dstAt ops j).isSome = true
 fr : ∀ x,(∀ j ∈ L,dstAt ops j ≠ some x) → σ x = ρ x
 val : ∀ j ∈ L,S j = true → dv ρ' (dstAt ops j) = dv σ (dstAt ops j)
 prom : ∀ j ∈ L,S j = false → PROM P Xc r ds ops m bs L j σ W
 flt : ∀ j ∈ D,S j = false → FLT P X r ds ops m bs fs L j σ W
 fval : ∀ j ∈ D,S j = true → fs j (dv ρ' (dstAt ops j)) W
theorem GLX.norm {S : Nat → Bool} {W : World} (hb : befsOk ops m bs = true) : ∀ (t : Tl) (L D : List Nat) (σ : Env) (Wg : World), GLX P X Xc Z r ds ops m bs fs T ρ ρ' S W t L D σ Wg →
  ∃ t' L' D' σ' Wg',GLX P X Xc Z r ds ops m bs fs T ρ ρ' S W t' L' D' σ' Wg' ∧ stable S t'
 | .Z,L,D,σ,Wg,h => ⟨_,_,_,_,_,h,trivial⟩
 | .C ..,L,D,σ,Wg,h => ⟨_,_,_,_,_,h,trivial⟩
 | .S ..,L,D,σ,Wg,h => ⟨_,_,_,_,_,h,trivial⟩
 | .L ..,L,D,σ,Wg,h => ⟨_,_,_,_,_,h,trivial⟩
 | .W i t, L, D, σ, Wg, h => by
  cases hS : S i with
  | false => exact ⟨_,_,_,_,_,h,hS⟩
  | true =>
   have hok := h.ok
   unfold tlOk at hok
   simp only [Bool.and_eq_true,List.contains_iff_mem] at hok
   obtain ⟨hiD,-,hok'⟩ := hok
   obtain ⟨him,hiL,hsome⟩ := h.dl i hiD
   have hrt := h.rt
   unfold RLX at hrt
   obtain ⟨o,ho⟩ : ∃ o,ops[i]? = some o := ⟨_,List.getElem?_eq_getElem (by have := (befsOk_bs hb).2; omega)⟩
   have hdi : dstAt ops i = o.dst := by rw [dstAt_get,ho]; rfl
   have hrt' := hrt (dv ρ' (dstAt ops i)) W h.ext (h.fval i hiD hS)
   have hD' : ∀ j,j ∈ D.filter (fun k => k != i) ↔ j ∈ D ∧ j ≠ i := by simp [List.mem_filter]
   refine GLX.norm hb t (i :: L) (D.filter fun k => k != i) _ W ⟨hok', hrt', Ext.refl W, fun _ => rfl, ?_, ?_, ?_, ?_, ?_, ?_, ?_, ?_⟩
   ·intro j hj
    by_cases hji : j = i
    ·exact .inl (by simp [hji])
    ·rcases h.sub j hj with h1 | h1
     ·exact .inl (by simp [h1])
     ·exact .inr ((hD' j).2 ⟨h1,hji⟩)
   ·intro j hj
    rcases List.mem_cons.1 hj with rfl | hj
    ·exact him
    ·exact h.lm j hj
   ·intro j hj
    obtain ⟨h1,h2⟩ := (hD' j).1 hj
    obtain ⟨h3,h4,h5⟩ := h.dl j h1
    exact ⟨h3,by simp [h2,h4],h5⟩
   ·intro x hx
    rw [put_other fun e => hx i (by simp) e]
    exact h.fr x fun j hj => hx j (by simp [hj])
   ·intro j hj hSj
    rcases List.mem_cons.1 hj with rfl | hj
    ·rw [dv_put_self _ _ _ hsome]
    ·rw [dv_put_other hb him (h.lm j hj) (fun e => hiL (e ▸ hj))]
     exact h.val j hj hSj
   ·intro j hj hSj
    rcases List.mem_cons.1 hj with rfl | hj
    ·rw [hS] at hSj; cases hSj
    ·rw [hdi]
     exact ((h.prom j hj hSj).put hb (h.lm j hj) hj h.lm hiL him ho _).keep (fun k hk => List.mem_cons_of_mem _ hk) (Agr.refl _ _)
   ·intro j hj hSj
    rw [hdi]
    exact ((h.flt j ((hD' j).1 hj).1 hSj).put hb h.lm hiL him ho _).keep (fun k hk => List.mem_cons_of_mem _ hk) (Agr.refl _ _)
   ·intro j hj hSj
    exact h.fval j ((hD' j).1 hj).1 hSj
 | .D i t, L, D, σ, Wg, h => by
  have hok := h.ok
  unfold tlOk at hok
  simp only [Bool.and_eq_true,Bool.not_eq_true'] at hok
  obtain ⟨hn,hiD,hsome,hok'⟩ := hok
  have hiD : i ∉ D := fun hc => by rw [List.contains_iff_mem.2 hc] at hiD; cases hiD
  obtain ⟨him,hiL,hbL,o,ho,hsl⟩ := nodeOk_inv hn
  have hrt := h.rt
  unfold RLX at hrt
  rw [nthO_eq,ho] at hrt
  obtain ⟨o2,ho2,-,hb3,-,hb5,-⟩ := befsOk_head hb him
  rw [ho] at ho2; cases ho2
  have hSi : S i = false := by
   cases hx : S i with
   | false => rfl
   | true => rcases h.sub i hx with h1 | h1
             ·exact (hiL h1).elim
             ·exact (hiD h1).elim
  refine GLX.norm hb t L (i :: D) _ Wg ⟨hok', hrt.2, h.ext, fun hf => h.eq fun j hj => hf j (by simp [hj]), ?_, h.lm, ?_, h.fr, h.val, h.prom, ?_, ?_⟩
  ·intro j hj
   rcases h.sub j hj with h1 | h1
   ·exact .inl h1
   ·exact .inr (by simp [h1])
  ·intro j hj
   rcases List.mem_cons.1 hj with rfl | hj
   ·exact ⟨him,hiL,hsome⟩
   ·exact h.dl j hj
  ·intro j hj hSj
   rcases List.mem_cons.1 hj with rfl | hj
   ·exact ⟨o,ho,hbL,hsl,hb5,Wg,h.ext.agr,hrt.1⟩
   ·exact h.flt j hj hSj
  ·intro j hj hSj
   rcases List.mem_cons.1 hj with rfl | hj
   ·rw [hSi] at hSj; cases hSj
   ·exact h.fval j hj hSj
 | .F i t, L, D, σ, Wg, h => by
  have hok := h.ok
  unfold tlOk at hok
  simp only [Bool.and_eq_true,Bool.not_eq_true'] at hok
  obtain ⟨hn,hiD,ha,hok'⟩ := hok
  have hiD : i ∉ D := fun hc => by rw [List.contains_iff_mem.2 hc] at hiD; cases hiD
  obtain ⟨him,hiL,hbL,o,ho,hsl⟩ := nodeOk_inv hn
  rw [nthO_eq,ho] at ha
  simp only [Bool.and_eq_true] at ha
  have hrt := h.rt
  unfold RLX at hrt
  rw [nthO_eq,ho] at hrt
  have hdi : dstAt ops i = o.dst := by rw [dstAt_get,ho]; rfl
  obtain ⟨o2,ho2,-,hb3,-,hb5,-⟩ := befsOk_head hb him
  rw [ho] at ho2; cases ho2
  obtain ⟨d,hd⟩ := Option.isSome_iff_exists.1 ha.2
  have hSi : S i = false := by
   cases hx : S i with
   | false => rfl
   | true => rcases h.sub i hx with h1 | h1
             ·exact (hiL h1).elim
             ·exact (hiD h1).elim
  have key : ∃ v, RLX P X Xc Z r ds ops fs T t (Pk.put σ o.dst v) Wg ∧ GI (gw ops.toArray σ o.guard) (xL Xc σ Wg o = true ∧ VO P r o (fun ρ'' ds'' _ => ds'' = ds ∧ dv ρ'' o.dst = v) (fun _ _ _ _ => False) σ ds Wg) (v = undef) := by
   unfold RF at hrt
   simp only at hrt
   cases hg : gw ops.toArray σ o.guard with
   | true =>
    rw [hg,GI_true] at hrt
    obtain ⟨v,w',hK,hK'⟩ := VO_det (auto_plain ha.1) hrt.2
    refine ⟨v,hK.2,?_⟩
    rw [GI_true]
    refine ⟨hrt.1,hK' _ _ ⟨hK.1.1,?_⟩⟩
    rw [hd]; simp
   | false =>
    rw [hg,GI_false] at hrt
    exact ⟨undef,hrt,by rw [GI_false]⟩
  obtain ⟨v,hrt',hv⟩ := key
  have hs : ∀ x,o.dst ≠ some x → (Pk.put σ o.dst v) x = σ x := fun x hx => put_other hx
  have hop : ∀ x ∈ tmpsOf o, σ x = (Pk.put σ o.dst v) x := fun x hx => (hs x fun e => by
   have := hsl x hx i him (by rw [hdi,e])
   have := (hb3 i this).1
   omega).symm
  have hgw : gw ops.toArray (Pk.put σ o.dst v) o.guard = gw ops.toArray σ o.guard := by
   refine gw_env fun k b hg x hx => hs x fun e => ?_
   have hkb := hb5 k b hg
   have hk : k = i := head_uniq hb (h.lm k (hbL k hkb)) him hx (by rw [hdi,e])
   exact hiL (hk ▸ hbL k hkb)
  refine GLX.norm hb t (i :: L) D (Pk.put σ o.dst v) Wg ⟨hok', hrt', h.ext, h.eq, ?_, ?_, ?_, ?_, ?_, ?_, ?_, h.fval⟩
  ·intro j hj
   rcases h.sub j hj with h1 | h1
   ·exact .inl (by simp [h1])
   ·exact .inr h1
  ·intro j hj
   rcases List.mem_cons.1 hj with rfl | hj
   ·exact him
   ·exact h.lm j hj
  ·intro j hj
   obtain ⟨h3,h4,h5⟩ := h.dl j hj
   exact ⟨h3,by simp [h4]; exact fun e => hiD (e ▸ hj),h5⟩
  ·intro x hx
   rw [hs x fun e => hx i (by simp) (by rw [hdi,e])]
   exact h.fr x fun j hj => hx j (by simp [hj])
  ·intro j hj hSj
   rcases List.mem_cons.1 hj with rfl | hj
   ·rw [hSi] at hSj; cases hSj
   ·rw [← hdi,dv_put_other hb him (h.lm j hj) (fun e => hiL (e ▸ hj))]
    exact h.val j hj hSj
  ·intro j hj hSj
   rcases List.mem_cons.1 hj with rfl | hj
   ·refine ⟨o,ho,ha.1,ha.2,fun k hk => List.mem_cons_of_mem _ (hbL k hk),hsl,hb5,Wg,h.ext.agr,?_⟩
    have hdv : dv (Pk.put σ o.dst v) o.dst = v := by rw [hd]; simp
    rw [hgw,hdv]
    cases hg : gw ops.toArray σ o.guard with
    | true =>
     rw [hg,GI_true] at hv
     rw [GI_true]
     refine ⟨by rw [← xL_env hop _]; exact hv.1,?_⟩
     have := VO_env (k := fun u ds'' _ => ds'' = ds ∧ u = v) hop hv.2
     obtain ⟨u,w',hK,hK'⟩ := VO_det (auto_plain ha.1) this
     exact hK' _ _ hK.1
    | false => rw [hg,GI_false] at hv; rw [GI_false]; exact hv
   ·exact ((h.prom j hj hSj).put hb (h.lm j hj) hj h.lm hiL him ho v).keep (fun k hk => List.mem_cons_of_mem _ hk) (Agr.refl _ _)
  ·intro j hj hSj
   exact ((h.flt j hj hSj).put hb h.lm hiL him ho v).keep (fun k hk => List.mem_cons_of_mem _ hk) (Agr.refl _ _)
theorem WC_drawZ' {Q : Post} {w : World} (m : Nat) (t : Tl) (X Xc : Nat → Bool) (fs : Nat → Value → World → Prop) (hm : P.follows .mixedOrders = true) (hb0 : (befsOk ops m (befs ops m) && tlOk P ops m (befs ops m) t [] []) = true)
  (hZ : ∀ ch ρ' w',Z ch w' → Q (.panic ch) ρ' ds w') (hX : ∀ k,Xc k = false → X k = false) (hstab : ∀ i v a b,fs i v a → Agr (fun k => X k = false) a b → fs i v b)
  (h : ∀ W,Dr w W → RLX P X Xc Z r ds ops fs (fun ρ' w' => VL P r ops.toArray Q (ops.drop m) ρ' ds w') t ρ W) : WC P n r (.region id ops.toArray true) Q ρ ds w := by
 intro hok tmps hAg
 obtain ⟨hb,htr⟩ := Bool.and_eq_true_iff.1 hb0
 generalize befs ops m = bs at hb htr
 have hok' : ops.all (okOp n) = true := by simpa [okC] using hok
 obtain ⟨hbl,hml⟩ := befsOk_bs hb
 refine wpIn_region_any hm ?_
 let INV : Array Bool → Env → World → Prop := fun listed ρ' w' => ∃ t L D σ Wg,GLX P X Xc Z r ds ops m bs fs (fun ρ' w' => VL P r ops.toArray Q (ops.drop m) ρ' ds w') ρ ρ' (fun j => listed.getD j false) w' t L D σ Wg ∧ stable (fun j => listed.getD j false) t
 have hlow : ∀ (listed : Array Bool) (ρ' : Env) (w' : World), INV listed ρ' w' → ∀ j, m ≤ j → listed.getD j false = false := by
  rintro listed ρ' w' ⟨t,L,D,σ,Wg,hG,-⟩ j hj
  cases hx : listed.getD j false with
  | false => rfl
  | true =>
   rcases hG.sub j hx with h1 | h1
   ·have := hG.lm j h1; omega
   ·have := (hG.dl j h1).1; omega
 have final : ∀ (listed : Array Bool) (a : Act) (ρ' : Env) (w' : World), a.defers = ds → INV listed ρ' w' →
   (∀ x,(∀ i,i < m → listed.getD i false = true → dstAt ops i ≠ some x) → ρ' x = ρ x) → (∀ i,i < m → listed.getD i false = true) →
   VL P r ops.toArray Q (ops.drop m) ρ' a.defers w' := by
  rintro listed a ρ' w' hds ⟨t,L,D,σ,Wg,hG,hF⟩ hfr hall
  have hZ : t = .Z := by
   have hok := hG.ok
   cases t with
   | Z => rfl
   | F i t => exact hF.elim
   | D i t => exact hF.elim
   | C i t =>
    unfold tlOk at hok
    simp only [Bool.and_eq_true,List.isEmpty_iff] at hok
    obtain ⟨h1,h2,-⟩ := nodeOk_inv hok.2.1
    rcases hG.sub i (hall i h1) with h3 | h3
    ·exact (h2 h3).elim
    ·rw [hok.1] at h3; cases h3
   | S i t =>
    unfold tlOk at hok
    simp only [Bool.and_eq_true,List.isEmpty_iff] at hok
    obtain ⟨h1,h2,-⟩ := nodeOk_inv hok.2.1
    rcases hG.sub i (hall i h1) with h3 | h3
    ·exact (h2 h3).elim
    ·rw [hok.1] at h3; cases h3
   | L i t =>
    unfold tlOk at hok
    simp only [Bool.and_eq_true,Bool.not_eq_true'] at hok
    obtain ⟨h1,h2,-⟩ := nodeOk_inv hok.1
    rcases hG.sub i (hall i h1) with h3 | h3
    ·exact (h2 h3).elim
    ·have := hok.2.1; rw [List.contains_iff_mem.2 h3] at this; cases this
   | W i t =>
    unfold tlOk at hok
    simp only [Bool.and_eq_true,List.contains_iff_mem] at hok
    have h1 := hall i (hG.dl i hok.1).1
    have h2 : listed.getD i false = false := hF
    rw [h1] at h2; cases h2
  subst hZ
  have hok := hG.ok
  unfold tlOk at hok
  simp only [Bool.and_eq_true,List.isEmpty_iff] at hok
  have hW := hG.eq (by rw [hok.1]; simp)
  have hσ : σ = ρ' := by
   funext x
   by_cases hx : ∃ j, j < m ∧ dstAt ops j = some x
   ·obtain ⟨j,hj,hd⟩ := hx
    have hjL : j ∈ L := by simpa using List.all_eq_true.1 hok.2 j (by simpa using hj)
    have := hG.val j hjL (hall j hj)
    rw [hd] at this
    simpa using this.symm
   ·have hx' : ∀ j,j < m → dstAt ops j ≠ some x := fun j hj e => hx ⟨j,hj,e⟩
    rw [hG.fr x fun j hj => hx' j (hG.lm j hj),hfr x fun j hj _ => hx' j hj]
  have := hG.rt
  rw [hσ,← hW] at this
  unfold RLX at this
  rw [hds]; exact this
 have key : ∀ (fuel : Nat) (listed : Array Bool) (a : Act) (ρ' : Env) (w' : World), a.defers = ds → listed.size = ops.length → Ag n a.tmps ρ' → INV listed ρ' w' →
   (∀ i,i < ops.length → listed.getD i false = true → ∀ o,ops[i]? = some o → ∀ e ∈ o.after,Region.binds .any e = true → listed.getD e.on false = true) →
   (∀ x,(∀ i,i < m → listed.getD i false = true → dstAt ops i ≠ some x) → ρ' x = ρ x) →
   ops.length ≤ fuel + listed.toList.count true →
   wpAnyIn (FR r) 0 P .any ops.toArray (fun e a w' => ∃ ρ',Ag n a.tmps ρ' ∧ Q e ρ' a.defers w') fuel listed a w' := by
  intro fuel
  induction fuel with
  | zero =>
   intro listed a ρ' w' hds hs hA hG hcl hfr hf
   have hhd := hlow listed ρ' w' hG
   have hall := all_listed (listed := listed) (by omega)
   have hml' : m = ops.length := by
    rcases Nat.lt_or_ge m ops.length with h1 | h1
    ·have := hhd m (Nat.le_refl _)
     rw [hall m (by omega)] at this; cases this
    ·omega
   refine any_tail hb hok' 0 m listed a ρ' w' (Nat.le_refl _) hml (by omega) hs ?_ hA (final listed a ρ' w' hds hG hfr fun i hi => hall i (by omega))
   intro i
   by_cases h1 : i < ops.length
   ·rw [hall i (by omega)]; simp; omega
   ·have : decide (i < m) = false := by simp; omega
    rw [this]; simp [hs,h1]
  | succ fuel ih =>
   intro listed a ρ' w' hds hs hA hG hcl hfr hf
   have hhd := hlow listed ρ' w' hG
   by_cases hfull : ∀ i, i < m → listed.getD i false = true
   ·refine any_tail hb hok' (fuel + 1) m listed a ρ' w' (Nat.le_refl _) hml ?_ hs ?_ hA (final listed a ρ' w' hds hG hfr hfull)
    ·have hc : listed.toList.count true ≤ m := by
      have hcc : ∀ (l : List Bool) (k : Nat), (∀ j, k ≤ j → l[j]?.getD false = false) → l.count true ≤ k := by
       intro l
       induction l with
       | nil => intro k _; simp
       | cons b l ihl =>
        intro k hkk
        cases k with
        | zero =>
         have h0 := hkk 0 (Nat.le_refl _)
         simp at h0; subst h0
         have := ihl 0 (fun j hj => by have := hkk (j + 1) (by omega); simpa using this)
         simp at this ⊢; exact this
        | succ k =>
         have := ihl k (fun j hj => by have := hkk (j + 1) (by omega); simpa using this)
         rw [List.count_cons]; split <;> omega
      refine hcc _ _ fun j hj => ?_
      have := hhd j hj
      simpa [Array.getD_eq_getD_getElem?] using this
     omega
    ·intro i
     by_cases h1 : i < m
     ·rw [hfull i h1]; simp [h1]
     ·rw [hhd i (by omega)]; simp [h1]
   ·refine ⟨?_, ?_⟩
    ·intro hr
     exfalso
     obtain ⟨i, hi, hmin⟩ := exists_least (p := fun i => i < m ∧ listed.getD i false = false) (by
      simp only [Classical.not_forall] at hfull
      obtain ⟨i,h1,h2⟩ := hfull
      exact ⟨i,h1,by simpa using h2⟩)
     have hil : i < ops.length := by omega
     have : i ∈ Region.ready .any ops.toArray listed := by
      refine mem_ready.2 ⟨?_, ops[i], by simp [hil], ?_⟩
      ·have := hi.2
       have his : i < listed.size := by omega
       simpa [his] using this
      ·intro e he hbe
       have hlt := befsOk_edge hb (List.getElem?_eq_getElem hil) e he hbe
       cases hx : listed.getD e.on false with
       | true => rfl
       | false => have := hmin e.on ⟨by omega,hx⟩; omega
     rw [hr] at this; cases this
    ·intro i hi
     obtain ⟨hi1,o,ho,hi2⟩ := mem_ready.1 hi
     have hil : i < ops.length := by
      have := (Array.getElem?_eq_some_iff.1 ho).1; simpa using this
     have his : i < listed.size := by omega
     have ho' : ops[i]? = some o := by simpa using ho
     have hif : listed.getD i false = false := by simpa [his] using hi1
     have him : i < m := by
      rcases Nat.lt_or_ge i m with h1 | h1
      ·exact h1
      ·exfalso
       refine hfull fun k hk => ?_
       obtain ⟨e,he,hbe,hke⟩ := befsOk_tail hb ho' h1 k (by omega)
       have h2 := hi2 e he hbe
       rcases hke with hke | ⟨hke1, hke2⟩ | ⟨hke1, hke2⟩
       ·rw [← hke]; exact h2
       ·have hel : e.on < ops.length := by omega
        exact bs_listed hb hcl e.on ops[e.on] hke1 (List.getElem?_eq_getElem hel) (hcl e.on hel h2 _ (List.getElem?_eq_getElem hel)) k hke2
       ·rw [hhd e.on hke1] at h2; cases h2
     have hbsl := bs_listed hb hcl i o him ho' hi2
     obtain ⟨o'',ho'',hsome,hb3,hb4,hb5,hb6⟩ := befsOk_head hb him
     rw [ho'] at ho''; cases ho''
     have hdi : dstAt ops i = o.dst := by rw [dstAt_get,ho']; rfl
     obtain ⟨t,L,D,σ,Wg,hG,hF⟩ := hG
     have hokA : ops.toArray.toList.all (okOp n) = true := by simpa using hok'
     have hoko : okOp n o = true := List.all_eq_true.1 hok' o (List.mem_of_getElem? ho')
     have hcl' : ∀ k, k < ops.length → (listed.setIfInBounds i true).getD k false = true → ∀ ok, ops[k]? = some ok → ∀ e ∈ ok.after, Region.binds .any e = true → (listed.setIfInBounds i true).getD e.on false = true := by
      intro k hkl hkt ok hok2 e he hbe
      rw [listed_set his] at hkt ⊢
      by_cases hki : k = i
      ·subst hki
       rw [ho'] at hok2; cases hok2
       rw [hi2 e he hbe]; simp
      ·have : listed.getD k false = true := by simpa [hki] using hkt
       rw [hcl k hkl this ok hok2 e he hbe]; simp
     have hcnt := count_listed his hif
     have hfr' : ∀ v x, (∀ k, k < m → (listed.setIfInBounds i true).getD k false = true → dstAt ops k ≠ some x) → (Pk.put ρ' o.dst v) x = ρ x := by
      intro v x hx
      rw [put_other fun e => hx i him (by rw [listed_set his]; simp) (by rw [hdi,e])]
      exact hfr x fun k hkm hkl => hx k hkm (by rw [listed_set his,hkl]; simp)
     have next : ∀ (a' : Act) (v : Value) (w'' : World), a'.defers = ds → Ag n a'.tmps (Pk.put ρ' o.dst v) →
       (∃ t L D σ Wg,GLX P X Xc Z r ds ops m bs fs (fun ρ' w' => VL P r ops.toArray Q (ops.drop m) ρ' ds w') ρ (Pk.put ρ' o.dst v) (fun j => (listed.setIfInBounds i true).getD j false) w'' t L D σ Wg) →
       wpAnyIn (FR r) 0 P .any ops.toArray (fun e a w' => ∃ ρ',Ag n a.tmps ρ' ∧ Q e ρ' a.defers w') fuel (listed.setIfInBounds i true) a' w'' := by
      rintro a' v w'' hds' hA' ⟨t',L',D',σ',Wg',hG'⟩
      exact ih _ a' (Pk.put ρ' o.dst v) w'' hds' (by simpa using hs) hA' (GLX.norm hb _ _ _ _ _ hG') hcl' (hfr' v) (by rw [hcnt]; omega)
     have hset : ∀ j,(listed.setIfInBounds i true).getD j false = (decide (j = i) || listed.getD j false) := fun j => listed_set his
     have ha : a = ⟨a.tmps,ds⟩ := by cases a; simp_all
     have hvv : ∀ (v : Value) j,j < m → j ≠ i → dv (Pk.put ρ' o.dst v) (dstAt ops j) = dv ρ' (dstAt ops j) := fun v j hj hne => by rw [← hdi]; exact dv_put_other hb him hj hne ρ' v
     have hslotL : ∀ x, (∀ k, k < m → dstAt ops k = some x → k ∈ bsAt bs i) → (∀ k ∈ bsAt bs i, k ∈ L) → σ x = ρ' x := by
      intro x hx hbL
      by_cases hk : ∃ k, k < m ∧ dstAt ops k = some x
      ·obtain ⟨k,hkm,hdk⟩ := hk
       have := hG.val k (hbL k (hx k hkm hdk)) (hbsl k (hx k hkm hdk))
       rw [hdk] at this
       simpa using this.symm
      ·have hk' : ∀ k,k < m → dstAt ops k ≠ some x := fun k hkm e => hk ⟨k,hkm,e⟩
       rw [hG.fr x fun k hkL => hk' k (hG.lm k hkL),hfr x fun k hkm _ => hk' k hkm]
     have hgwL : (∀ k ∈ bsAt bs i, k ∈ L) → gw ops.toArray σ o.guard = gw ops.toArray ρ' o.guard := by
      intro hbL
      refine gw_env fun k b hg x hx => hslotL x (fun k' hk'm hk'd => ?_) hbL
      have hkb := hb5 k b hg
      have hkm : k < m := by have := (hb3 k hkb).1; omega
      have := head_uniq hb hk'm hkm hk'd hx
      exact this ▸ hkb
     unfold wpOpIn
     simp only [ho]
     rw [gw_eq hA hokA o]
     by_cases hiL : i ∈ L
     ·obtain ⟨o2,ho2,hauto,hds2,hpb,hps,hpg,Wo,hAg2,hGI⟩ := hG.prom i hiL hif
      rw [ho'] at ho2; cases ho2
      have hop : ∀ x ∈ tmpsOf o,σ x = ρ' x := fun x hx => hslotL x (hps x hx) hpb
      have hgw := hgwL hpb
      obtain ⟨d,hod⟩ := Option.isSome_iff_exists.1 hds2
      have hnew : ∀ v, v = dv σ o.dst → GLX P X Xc Z r ds ops m bs fs (fun ρ' w' => VL P r ops.toArray Q (ops.drop m) ρ' ds w') ρ (Pk.put ρ' o.dst v) (fun j => (listed.setIfInBounds i true).getD j false) w' t L D σ Wg := by
       intro v hv
       have hDi : ∀ j ∈ D,j ≠ i := fun j hj e => (hG.dl j hj).2.1 (e ▸ hiL)
       have hSD : ∀ j ∈ D,(listed.setIfInBounds i true).getD j false = listed.getD j false := fun j hj => by rw [hset]; simp [hDi j hj]
       refine ⟨hG.ok, hG.rt, hG.ext, fun hh => hG.eq fun j hj => by rw [← hSD j hj]; exact hh j hj, ?_, hG.lm, hG.dl, hG.fr, ?_, ?_, ?_, ?_⟩
       ·intro j hj
        simp only [hset] at hj
        by_cases hji : j = i
        ·exact .inl (hji ▸ hiL)
        ·exact hG.sub j (by simpa [hji] using hj)
       ·intro j hj hSj
        simp only [hset] at hSj
        by_cases hji : j = i
        ·subst hji
         rw [hdi,hv,hod]; simp
        ·rw [hvv v j (hG.lm j hj) hji]
         exact hG.val j hj (by simpa [hji] using hSj)
       ·intro j hj hSj
        simp only [hset] at hSj
        by_cases hji : j = i
        ·simp [hji] at hSj
        ·exact hG.prom j hj (by simpa [hji] using hSj)
       ·intro j hj hSj
        exact hG.flt j hj (by rw [← hSD j hj]; exact hSj)
       ·intro j hj hSj
        rw [hvv v j (hG.dl j hj).1 (hDi j hj)]
        exact hG.fval j hj (by rw [← hSD j hj]; exact hSj)
      rw [← hgw]
      cases hg : gw ops.toArray σ o.guard with
      | true =>
       rw [hg,GI_true] at hGI
       simp only [if_true]
       have h1 := VO_went' (k := fun v ds'' => ds'' = ds ∧ v = dv σ o.dst) hauto hGI.1 hAg2 hGI.2
       have h2 := VO_env (k := fun v ds'' w'' => w'' = w' ∧ ds'' = ds ∧ v = dv σ o.dst) (ρ' := ρ') hop h1
       rw [ha]
       refine VO_sound (K := fun ρ'' ds'' w'' => (w'' = w' ∧ ds'' = ds ∧ dv ρ'' o.dst = dv σ o.dst) ∧ ∃ v,ρ'' = put ρ' o.dst v) (Q := fun _ _ _ _ => False) hA hoko ?_ (fun _ _ _ _ _ h => h.elim) h2
       rintro a' ρ'' w'' hA' ⟨⟨rfl,hds',hv⟩,v,rfl⟩
       refine next a' v w'' hds' hA' ⟨t,L,D,σ,Wg,hnew v ?_⟩
       rw [← hv,hod]; simp
      | false =>
       rw [hg,GI_false] at hGI
       simp only [Bool.false_eq_true,if_false]
       exact ⟨fun _ _ => trivial,next _ undef w' (by rw [put_defers]; exact hds) (hA.put (ds := a.defers) (Bool.and_eq_true_iff.1 hoko).1 undef) ⟨t,L,D,σ,Wg,hnew undef hGI.symm⟩⟩
     ·by_cases hiD : i ∈ D
      ·-- a float
       obtain ⟨o2,ho2,hpb,hps,hpg,Wo,hAg2,hRD⟩ := hG.flt i hiD hif
       rw [ho'] at ho2; cases ho2
       have hop : ∀ x ∈ tmpsOf o,σ x = ρ' x := fun x hx => hslotL x (hps x hx) hpb
       have hgw := hgwL hpb
       have hsm := (hG.dl i hiD).2.2
       have hnew : ∀ v w'', Ext w' w'' → fs i v w'' → GLX P X Xc Z r ds ops m bs fs (fun ρ' w' => VL P r ops.toArray Q (ops.drop m) ρ' ds w') ρ (Pk.put ρ' o.dst v) (fun j => (listed.setIfInBounds i true).getD j false) w'' t L D σ Wg := by
        intro v w'' hE hv
        have hLi : ∀ j ∈ L,j ≠ i := fun j hj e => hiL (e ▸ hj)
        have hSL : ∀ j ∈ L,(listed.setIfInBounds i true).getD j false = listed.getD j false := fun j hj => by rw [hset]; simp [hLi j hj]
        refine ⟨hG.ok, hG.rt, hG.ext.trans hE, fun hh => ?_, ?_, hG.lm, hG.dl, hG.fr, ?_, ?_, ?_, ?_⟩
        ·have := hh i hiD
         simp only [hset] at this
         simp at this
        ·intro j hj
         simp only [hset] at hj
         by_cases hji : j = i
         ·exact .inr (hji ▸ hiD)
         ·exact hG.sub j (by simpa [hji] using hj)
        ·intro j hj hSj
         rw [hvv v j (hG.lm j hj) (hLi j hj)]
         exact hG.val j hj (by rw [← hSL j hj]; exact hSj)
        ·intro j hj hSj
         exact (hG.prom j hj (by rw [← hSL j hj]; exact hSj)).keep (fun _ h => h) hE.agr
        ·intro j hj hSj
         simp only [hset] at hSj
         by_cases hji : j = i
         ·simp [hji] at hSj
         ·exact (hG.flt j hj (by simpa [hji] using hSj)).keep (fun _ h => h) hE.agr
        ·intro j hj hSj
         simp only [hset] at hSj
         by_cases hji : j = i
         ·subst hji
          rw [← hdi,dv_put_self _ _ _ hsm]; exact hv
         ·rw [hvv v j (hG.dl j hj).1 hji]
          exact hstab _ _ _ _ (hG.fval j hj (by simpa [hji] using hSj)) hE.agr
       have hv := hRD w' hAg2
       rw [← hgw]
       cases hg : gw ops.toArray σ o.guard with
       | true =>
        rw [hg,GI_true] at hv
        simp only [if_true]
        have h2 := VO_env (k := fun v ds'' w'' => ds'' = ds ∧ Ext w' w'' ∧ fs i v w'') (ρ' := ρ') hop hv
        rw [ha]
        refine VO_sound (K := fun ρ'' ds'' w'' => (ds'' = ds ∧ Ext w' w'' ∧ fs i (dv ρ'' o.dst) w'') ∧ ∃ v,ρ'' = put ρ' o.dst v) (Q := fun _ _ _ _ => False) hA hoko ?_ (fun _ _ _ _ _ h => h.elim) h2
        rintro a' ρ'' w'' hA' ⟨⟨hds',hE,hv⟩,v,rfl⟩
        refine next a' v w'' hds' hA' ⟨t,L,D,σ,Wg,hnew v w'' hE ?_⟩
        rw [← hdi,dv_put_self _ _ _ hsm] at hv; exact hv
       | false =>
        rw [hg,GI_false] at hv
        simp only [Bool.false_eq_true,if_false]
        exact ⟨fun _ _ => trivial,next _ undef w' (by rw [put_defers]; exact hds) (hA.put (ds := a.defers) (Bool.and_eq_true_iff.1 hoko).1 undef) ⟨t,L,D,σ,Wg,hnew undef w' (Ext.refl _) hv⟩⟩
      ·-- an effect
       have hbLD : ∀ k ∈ bsAt bs i,k ∈ L ∨ k ∈ D := fun k hk => hG.sub k (hbsl k hk)
       have pick : ∃ t' Y, ((∀ k, Xc k = false → Y k = false) ∨ ∀ j, j < m → j ∉ bsAt bs i → ∀ o, ops[j]? = some o → isLd o.op = false) ∧ (∀ j ∈ D, Y = X) ∧ REX P Y Z r ds ops (RLX P X Xc Z r ds ops fs (fun ρ' w' => VL P r ops.toArray Q (ops.drop m) ρ' ds w') t') σ w' (nthO ops i) ∧ nodeOk ops m bs i L = true ∧ tlOk P ops m bs t' (i :: L) D = true := by
        have hok := hG.ok
        have hrt := hG.rt
        cases t with
        | Z =>
         unfold tlOk at hok
         simp only [Bool.and_eq_true] at hok
         exact (hiL (by simpa using List.all_eq_true.1 hok.2 i (by simpa using him))).elim
        | F k t => exact hF.elim
        | D k t => exact hF.elim
        | C k t =>
         unfold tlOk at hok
         simp only [Bool.and_eq_true,List.isEmpty_iff] at hok
         obtain ⟨hD0,h1,h2,h3⟩ := hok
         have hik := only_inv h2 him hiL hiD (fun k hk => (hbLD k hk).imp_right fun hx => by rw [hD0] at hx; exact hx)
         rw [List.mem_singleton] at hik
         subst hik
         unfold RLX at hrt
         have hW := hG.eq (by rw [hD0]; simp)
         rw [hW]
         exact ⟨t,Xc,.inl fun _ h => h,fun j hj => (by rw [hD0] at hj; cases hj),hrt,h1,h3⟩
        | S k t =>
         unfold tlOk at hok
         simp only [Bool.and_eq_true,List.isEmpty_iff] at hok
         obtain ⟨hD0,h1,h2,h4,h3⟩ := hok
         have hik := only_inv h2 him hiL hiD (fun k hk => (hbLD k hk).imp_right fun hx => by rw [hD0] at hx; exact hx)
         rw [List.mem_singleton] at hik
         subst hik
         unfold RLX at hrt
         have hW := hG.eq (by rw [hD0]; simp)
         rw [hW]
         refine ⟨t,fun _ => true,.inr fun j hj hjb o' hjo => ?_,fun j hj => (by rw [hD0] at hj; cases hj),hrt,h1,h3⟩
         have h5 := List.all_eq_true.1 h4 j (by simpa using hj)
         rw [nthO_eq,hjo] at h5
         simpa [hjb] using h5
        | L k t =>
         unfold tlOk at hok
         simp only [Bool.and_eq_true] at hok
         obtain ⟨h1,-,h2,h3⟩ := hok
         have hik := only_inv h2 him hiL hiD hbLD
         rw [List.mem_singleton] at hik
         subst hik
         unfold RLX at hrt
         exact ⟨t,X,.inl hX,fun _ _ => rfl,hrt w' hG.ext,h1,h3⟩
        | W k t =>
         unfold tlOk at hok
         simp only [Bool.and_eq_true] at hok
         have hSk : listed.getD k false = false := hF
         have := only_inv hok.2.1 him hiL hiD (fun j hj => (hbLD j hj).imp_right fun hx => by
          rw [List.mem_filter]
          refine ⟨hx,?_⟩
          simp only [bne_iff_ne,ne_eq]
          rintro rfl
          rw [hbsl j hj] at hSk; cases hSk)
         cases this
       obtain ⟨t',Y,hY1,hY2,hre,hnode,hok2⟩ := pick
       rw [nthO_eq,ho'] at hre
       obtain ⟨-,-,hpb,o2,ho2,hps⟩ := nodeOk_inv hnode
       rw [ho'] at ho2; cases ho2
       have hop : ∀ x ∈ tmpsOf o,σ x = ρ' x := fun x hx => hslotL x (hps x hx) hpb
       have hgw := hgwL hpb
       have hgo : ∀ (v : Value) (w'' : World), Agr (fun k => Y k = false) w' w'' → RLX P X Xc Z r ds ops fs (fun ρ' w' => VL P r ops.toArray Q (ops.drop m) ρ' ds w') t' (Pk.put σ o.dst v) w'' →
         ∃ t L D σ Wg,GLX P X Xc Z r ds ops m bs fs (fun ρ' w' => VL P r ops.toArray Q (ops.drop m) ρ' ds w') ρ (Pk.put ρ' o.dst v) (fun j => (listed.setIfInBounds i true).getD j false) w'' t L D σ Wg := by
        intro v w'' hAgr hrt
        have hDi : ∀ j ∈ D,j ≠ i := fun j hj e => hiD (e ▸ hj)
        have hSD : ∀ j ∈ D,(listed.setIfInBounds i true).getD j false = listed.getD j false := fun j hj => by rw [hset]; simp [hDi j hj]
        have hLi : ∀ j ∈ L,j ≠ i := fun j hj e => hiL (e ▸ hj)
        have hSL : ∀ j ∈ L,(listed.setIfInBounds i true).getD j false = listed.getD j false := fun j hj => by rw [hset]; simp [hLi j hj]
        refine ⟨t', i :: L, D, Pk.put σ o.dst v, w'', hok2, hrt, Ext.refl _, fun _ => rfl, ?_, ?_, ?_, ?_, ?_, ?_, ?_, ?_⟩
        ·intro j hj
         simp only [hset] at hj
         by_cases hji : j = i
         ·exact .inl (by simp [hji])
         ·exact (hG.sub j (by simpa [hji] using hj)).imp_left fun h => List.mem_cons_of_mem _ h
        ·intro j hj
         rcases List.mem_cons.1 hj with rfl | hj
         ·exact him
         ·exact hG.lm j hj
        ·intro j hj
         obtain ⟨h1,h2,h3⟩ := hG.dl j hj
         exact ⟨h1,by simp [h2,hDi j hj],h3⟩
        ·intro x hx
         rw [put_other fun e => hx i (by simp) (by rw [hdi,e])]
         exact hG.fr x fun j hj => hx j (by simp [hj])
        ·intro j hj hSj
         rcases List.mem_cons.1 hj with rfl | hj
         ·rw [hdi]
          cases hod : o.dst with
          | none => rfl
          | some d => simp
         ·rw [hvv v j (hG.lm j hj) (hLi j hj),← hdi,dv_put_other hb him (hG.lm j hj) (hLi j hj)]
          exact hG.val j hj (by rw [← hSL j hj]; exact hSj)
        ·intro j hj hSj
         rcases List.mem_cons.1 hj with rfl | hj
         ·simp only [hset] at hSj; simp at hSj
         ·have hSj' : listed.getD j false = false := by rw [← hSL j hj]; exact hSj
          have hp := (hG.prom j hj hSj').put hb (hG.lm j hj) hj hG.lm hiL him ho' v
          rcases hY1 with hY1 | hY1
          ·exact hp.keep (fun k hk => List.mem_cons_of_mem _ hk) (hAgr.weaken hY1)
          ·refine hp.keepS (fun k hk => List.mem_cons_of_mem _ hk) (hAgr.weaken fun _ h => h.elim) (hY1 j (hG.lm j hj) fun hjb => ?_)
           rw [hbsl j hjb] at hSj'; cases hSj'
        ·intro j hj hSj
         exact ((hG.flt j hj (by rw [← hSD j hj]; exact hSj)).put hb hG.lm hiL him ho' v).keep (fun k hk => List.mem_cons_of_mem _ hk) (hY2 j hj ▸ hAgr)
        ·intro j hj hSj
         rw [hvv v j (hG.dl j hj).1 (hDi j hj)]
         exact hstab _ _ _ _ (hG.fval j hj (by rw [← hSD j hj]; exact hSj)) (hY2 j hj ▸ hAgr)
       unfold REX at hre
       simp only at hre
       rw [← hgw]
       cases hg : gw ops.toArray σ o.guard with
       | true =>
        rw [hg,GI_true] at hre
        simp only [if_true]
        have hexit : ∀ (e : Exit) (a' : Act) (ρ1 : Env) (w1 : World), Ag n a'.tmps ρ1 → XP ds Z e ρ1 a'.defers w1 → ∃ ρ2, Ag n a'.tmps ρ2 ∧ Q e ρ2 a'.defers w1 := by
         rintro e a' ρ1 w1 hA1 he
         cases e with
         | panic ch =>
          obtain ⟨h1,h2⟩ := he
          exact ⟨ρ1,hA1,by rw [h1]; exact hZ ch ρ1 w1 h2⟩
         | _ => exact he.elim
        have hre' : VO P r o (fun ρ'' ds'' w'' => ds'' = ds ∧ Agr (fun k => Y k = false) w' w'' ∧ RLX P X Xc Z r ds ops fs (fun ρ' w' => VL P r ops.toArray Q (ops.drop m) ρ' ds w') t' (Pk.put σ o.dst (dv ρ'' o.dst)) w'') (XP ds Z) σ ds w' :=
         VO_impX hre fun v ds' w'' hh => ⟨hh.1, hh.2.1, by
          have := hh.2.2
          cases hod : o.dst with
          | none => rw [hod] at this; exact this
          | some d => rw [hod] at this; simpa using this⟩
        have h2 := VO_envX (k := fun v ds'' w'' => ds'' = ds ∧ Agr (fun k => Y k = false) w' w'' ∧ RLX P X Xc Z r ds ops fs (fun ρ' w' => VL P r ops.toArray Q (ops.drop m) ρ' ds w') t' (Pk.put σ o.dst v) w'') (ρ' := ρ') hop hre'
        rw [ha]
        refine VO_sound (K := fun ρ'' ds'' w'' => (ds'' = ds ∧ Agr (fun k => Y k = false) w' w'' ∧ RLX P X Xc Z r ds ops fs (fun ρ' w' => VL P r ops.toArray Q (ops.drop m) ρ' ds w') t' (Pk.put σ o.dst (dv ρ'' o.dst)) w'') ∧ ∃ v,ρ'' = put ρ' o.dst v) (Q := XP ds Z) hA hoko ?_ hexit h2
        rintro a' ρ'' w'' hA' ⟨⟨hds',hAgr,hrt⟩,v,rfl⟩
        refine next a' v w'' hds' hA' (hgo v w'' hAgr ?_)
        cases hod : o.dst with
        | none => rw [hod] at hrt; exact hrt
        | some d => rw [hod] at hrt; simpa using hrt
       | false =>
        rw [hg,GI_false] at hre
        simp only [Bool.false_eq_true,if_false]
        exact ⟨fun _ _ => trivial,next _ undef w' (by rw [put_defers]; exact hds) (hA.put (ds := a.defers) (Bool.and_eq_true_iff.1 hoko).1 undef) (hgo undef w' (Agr.refl _ _) hre)⟩
 have e : (fun j => (Array.replicate ops.toArray.size false).getD j false) = fun _ => false := by
  funext j
  by_cases h1 : j < ops.length <;> simp [h1]
 have hI : INV (Array.replicate ops.toArray.size false) ρ w.drew := by
  have := GLX.norm (S := fun _ => false) (W := w.drew) (ρ := ρ) (ρ' := ρ) hb t [] [] ρ w.drew ⟨htr,h _ rfl,Ext.refl _,fun _ => rfl,by simp,by simp,by simp,fun _ _ => rfl,by simp,by simp,by simp,by simp⟩
  rw [← e] at this
  exact this
 refine key ops.toArray.size (Array.replicate ops.toArray.size false) ⟨tmps, ds⟩ ρ w.drew rfl (by simp) hAg hI ?_ ?_ (by simp)
 ·intro i hi h1; simp [hi] at h1
 ·intro x _; rfl
end
def REXt (P : Program) (X : Nat → Bool) (Z : List PanicEntry → World → Prop) (r : Option Nat) (ds : List Deferred) (ops : List Oper) (K : Env → World → Prop) (l : List Oper) (i : Nat) (_ : Tok (PProd.mk ops (PProd.mk K (PProd.mk l i)))) (σ : Env) (W : World) : Prop := REX P X Z r ds ops K σ W (nthO l i)
def RLXt (P : Program) (X Xc : Nat → Bool) (Z : List PanicEntry → World → Prop) (r : Option Nat) (ds : List Deferred) (ops : List Oper) (fs : Nat → Value → World → Prop) (T : Env → World → Prop) (t : Tl) (_ : Tok (PProd.mk ops (PProd.mk fs (PProd.mk T t)))) (σ : Env) (W : World) : Prop := RLX P X Xc Z r ds ops fs T t σ W
section
variable (P : Program) (X Xc : Nat → Bool) (Z : List PanicEntry → World → Prop) (r : Option Nat) (ds : List Deferred) (ops : List Oper) (fs : Nat → Value → World → Prop) (A : Value → World → Prop) (T : Env → World → Prop) (l : List Oper) (o : Oper) (i : Nat) (σ : Env) (W : World)
@[simp ↓] theorem RLX_tok (t : Tl) : RLX P X Xc Z r ds ops fs T t σ W = RLXt P X Xc Z r ds ops fs T t .mk σ W := _root_.id rfl
@[simp ↓] theorem RLXt_Z (k) : RLXt P X Xc Z r ds ops fs T .Z k σ W = T σ W := _root_.id rfl
@[simp ↓] theorem RLXt_F (t : Tl) (k) : RLXt P X Xc Z r ds ops fs T (.F i t) k σ W = RFt P Xc r ds ops (RLX P X Xc Z r ds ops fs T t) ops i .mk σ W := _root_.id rfl
@[simp ↓] theorem RLXt_C (t : Tl) (k) : RLXt P X Xc Z r ds ops fs T (.C i t) k σ W = REXt P Xc Z r ds ops (RLX P X Xc Z r ds ops fs T t) ops i .mk σ W := _root_.id rfl
@[simp ↓] theorem RLXt_S (t : Tl) (k) : RLXt P X Xc Z r ds ops fs T (.S i t) k σ W = REXt P (fun _ => true) Z r ds ops (RLX P X Xc Z r ds ops fs T t) ops i .mk σ W := _root_.id rfl
@[simp ↓] theorem REXt_succ (K : Env → World → Prop) (k) : REXt P X Z r ds ops K (o :: l) (i + 1) k σ W = REXt P X Z r ds ops K l i .mk σ W := _root_.id rfl
@[simp ↓] theorem REXt_zero (K : Env → World → Prop) (k) : REXt P X Z r ds ops K (o :: l) 0 k σ W = GIt (gw ops.toArray σ o.guard) (VO P r o (fun ρ'' ds'' w'' => ds'' = ds ∧ KR (Agr (fun k => X k = false) W w'') (K ρ'' w'')) (XP ds Z) σ ds W) (K (put σ o.dst undef) W) .mk := _root_.id rfl
end
section
variable {P : Program} {X Xc : Nat → Bool} {Z : List PanicEntry → World → Prop} {r : Option Nat} {ds : List Deferred} {ops : List Oper} {fs : Nat → Value → World → Prop} {T : Env → World → Prop} {i : Nat} {t : Tl} {σ : Env} {W : World}
theorem RLX_loose {k} (h : ∀ W',Ext W W' → REXt P X Z r ds ops (RLX P X Xc Z r ds ops fs T t) ops i .mk σ W') : RLXt P X Xc Z r ds ops fs T (.L i t) k σ W := h
theorem RLX_float {k} (h1 : ∀ W', Agr (fun k => X k = false) W W' → RDt P X r ds ops (fs i) ops i .mk σ W') (h2 : RLX P X Xc Z r ds ops fs T t σ W) : RLXt P X Xc Z r ds ops fs T (.D i t) k σ W := by
 refine ⟨?_,h2⟩
 cases ho : nthO ops i with
 | none => obtain ⟨o,h,_⟩ := h1 W (Agr.refl _ _); rw [ho] at h; cases h
 | some o =>
  intro W' hW'
  obtain ⟨o',h,h'⟩ := h1 W' hW'
  rw [ho] at h; cases h
  exact h'
theorem RLX_wait {k} (h : ∀ v W',Ext W W' → fs i v W' → RLX P X Xc Z r ds ops fs T t (put σ (dstAt ops i) v) W') : RLXt P X Xc Z r ds ops fs T (.W i t) k σ W := h
end
theorem WC_drawZ {P : Program} {n : Nat} {r : Option Nat} {id : Nat} {ops : List Oper} {ds : List Deferred} {ρ : Env} {Q : Post} {w : World} (m : Nat) (t : Tl) (X Xc : Nat → Bool) (fs : Nat → Value → World → Prop) (Z : List PanicEntry → World → Prop) (hm : P.follows .mixedOrders = true) (hb0 : (befsOk ops m (befs ops m) && tlOk P ops m (befs ops m) t [] []) = true)
  (hX : ∀ k,Xc k = false → X k = false) (hstab : ∀ i v a b,fs i v a → Agr (fun k => X k = false) a b → fs i v b) (hZ : ∀ ch ρ' w',Z ch w' → Q (.panic ch) ρ' ds w')
  (h : ∀ W,Dr w W → RLX P X Xc Z r ds ops fs (fun ρ' w' => VL P r ops.toArray Q (ops.drop m) ρ' ds w') t ρ W) : WC P n r (.region id ops.toArray true) Q ρ ds w :=
 WC_drawZ' m t X Xc fs hm hb0 hZ hX hstab h
end Pk
namespace Pk
open Go
section draw
variable {P : Program} {n : Nat} {r : Option Nat} {id : Nat} {ops : List Oper} {m : Nat} {ds : List Deferred} {ρ : Env}
end draw
end Pk