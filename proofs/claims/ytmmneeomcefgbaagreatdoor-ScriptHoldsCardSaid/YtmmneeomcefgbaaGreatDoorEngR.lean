/-
 The engine,part R: a statement whose order is open and whose effects (calls,new blocks,stores) come one behind the other,or in one of a few orders: it is run as soon as may be,effect by effect,in a line; all that lies between is alike.
-/
import Derived.Test.YtmmneeomcefgbaaGreatDoorEngJ
import Derived.Deep.SlicePairs
import Derived.OpenShut
import Derived.WideShapes
namespace Pk
open Go
def ldX (X : Nat → Bool) (w : World) : Value → Bool
 | .pointer (some a) => !X a.block && (w.cell? a).isSome
 | _ => true
@[simp] theorem ldX_ptr (X : Nat → Bool) (w : World) (a : Addr) : ldX X w (.pointer (some a)) = (!X a.block && (w.cell? a).isSome) := rfl
theorem far_none {P : Program} {w : World} {a b : Addr} (hb : b.block = a.block) (ha : (w.cell? a).isSome = true) (x : Bool) : ∃ e, w.farLoad P b x = .error e := by
 obtain ⟨u,hu⟩ := Option.isSome_iff_exists.1 ha
 obtain ⟨c,t,fr,h⟩ := cell_blk hu
 unfold World.farLoad
 rw [hb,h]
 exact ⟨_,rfl⟩
theorem loads_went {P : Program} {X : Nat → Bool} {a : Addr} {w W : World} (hx : X a.block = false) (ha : (w.cell? a).isSome = true) (hA : Agr (fun k => k < w.heap.size ∧ X k = false) w W) : ∀ (n i : Nat) (acc : Array Value) (w' : World) (v : Array Value),
  (loadCellsFrom a i n acc).run P w = .ok v w' → (loadCellsFrom a i n acc).run P W = .ok v W
 | 0,i,acc,w',v,h => by simp [loadCellsFrom] at h ⊢; exact h.1
 | n + 1, i, acc, w', v, h => by
  cases hc : w.cell? (a.add i) with
  | none =>
   obtain ⟨e,he⟩ := far_none (P := P) (b := a.add i) (add_block a i) ha (Mode.plain == Mode.atomic)
   simp [loadCellsFrom,load,Sem.run,hc,he] at h
  | some u =>
   have hW := hA.cell hc ⟨World.block_lt_of_cell? _ _ hc,by rw [add_block]; exact hx⟩
   have e1 : (load (a.add i)).run P w = .ok u w := by simp [load,Sem.run,hc]
   have e2 : (load (a.add i)).run P W = .ok u W := by simp [load,Sem.run,hW]
   simp only [loadCellsFrom,Sem.run_bind,e1,e2,Result.andThen_ok] at h ⊢
   exact loads_went hx ha hA n (i + 1) _ w' v h
theorem loadAt_went {P : Program} {X : Nat → Bool} {t : TypeId} {x : Value} {w w' W : World} {v : Value} (hc : ldX X w x = true) (hA : Agr (fun k => k < w.heap.size ∧ X k = false) w W) (h : (Instr.loadAt t x).run P w = .ok v w') : (Instr.loadAt t x).run P W = .ok v W := by
 cases x with
 | pointer p =>
  cases p with
  | none => simp [Instr.loadAt,Instr.sureAddr] at h
  | some a =>
   obtain ⟨hx,ha⟩ : X a.block = false ∧ (w.cell? a).isSome = true := by simpa using hc
   simp only [Instr.loadAt,Instr.sureAddr,loadVar,Sem.run_bind,Sem.run_pure,Result.andThen_ok] at h ⊢
   cases hg : (isAgg t).run P w with
   | halt e w2 => rw [hg] at h; cases h
   | ok b w2 =>
    rw [hg] at h
    have hw2 : w2 = w := by
     have := calm_isAgg t P w b w2 hg w
     rw [hg] at this; cases this; rfl
    subst hw2
    rw [calm_isAgg t P w2 b w2 hg W]
    simp only [Result.andThen_ok] at h ⊢
    cases b with
    | true =>
     simp only [if_true,Sem.run_bind] at h ⊢
     cases hz : (Go.sizeOf t).run P w2 with
     | halt e w3 => rw [hz] at h; cases h
     | ok n w3 =>
      rw [hz] at h
      have hw3 : w3 = w2 := by
       have := calm_size t P w2 n w3 hz w2
       rw [hz] at this; cases this; rfl
      subst hw3
      rw [calm_size t P w3 n w3 hz W]
      simp only [Result.andThen_ok,loadCells] at h ⊢
      cases hl : (loadCellsFrom a 0 n #[]).run P w3 with
      | halt e w4 => rw [hl] at h; cases h
      | ok vs w4 =>
       rw [hl] at h
       rw [loads_went hx ha hA n 0 #[] w4 vs hl]
       simp at h ⊢
       exact h.1
    | false =>
     simp only [Bool.false_eq_true,if_false] at h ⊢
     exact load_alike hx ha hA h
 | _ => simp [Instr.loadAt,Instr.sureAddr] at h
def xL (X : Nat → Bool) (σ : Env) (w : World) (o : Oper) : Bool := match o.op with
 | .binOp _ _ x y _ => bV (ev σ x) (ev σ y)
 | .load _ x => ldX X w (ev σ x)
 | .convert _ _ x => isIntV (ev σ x)
 | .call c => cV σ c
 | _ => true
section
variable (X : Nat → Bool) (σ : Env) (w : World) (d : Option Tmp) (ty : TypeId) (pos : String) (af : Array Edge) (gd : Option (Nat × Bool))
@[simp ↓] theorem xL_move (x : Operand) : xL X σ w ⟨d,.move x,ty,pos,af,gd⟩ = true := _root_.id rfl
@[simp ↓] theorem xL_assign (x : Operand) : xL X σ w ⟨d,.assign x,ty,pos,af,gd⟩ = true := _root_.id rfl
@[simp ↓] theorem xL_pick (x y z : Operand) : xL X σ w ⟨d,.pick x y z,ty,pos,af,gd⟩ = true := _root_.id rfl
@[simp ↓] theorem xL_load (t : TypeId) (x : Operand) : xL X σ w ⟨d,.load t x,ty,pos,af,gd⟩ = ldX X w (ev σ x) := _root_.id rfl
@[simp ↓] theorem xL_convert (s t : TypeId) (x : Operand) : xL X σ w ⟨d,.convert s t x,ty,pos,af,gd⟩ = isIntV (ev σ x) := _root_.id rfl
@[simp ↓] theorem xL_indexAddr (t : TypeId) (x y : Operand) : xL X σ w ⟨d,.indexAddr t x y,ty,pos,af,gd⟩ = true := _root_.id rfl
@[simp ↓] theorem xL_fieldAddr (t : TypeId) (x : Operand) (f : Nat) : xL X σ w ⟨d,.fieldAddr t x f,ty,pos,af,gd⟩ = true := _root_.id rfl
@[simp ↓] theorem xL_field (t : TypeId) (x : Operand) (f : Nat) : xL X σ w ⟨d,.field t x f,ty,pos,af,gd⟩ = true := _root_.id rfl
@[simp ↓] theorem xL_nilCheck (x : Operand) : xL X σ w ⟨d,.nilCheck x,ty,pos,af,gd⟩ = true := _root_.id rfl
@[simp ↓] theorem xL_extract (x : Operand) (i : Nat) : xL X σ w ⟨d,.extract x i,ty,pos,af,gd⟩ = true := _root_.id rfl
@[simp ↓] theorem xL_unOp (p : UnOp) (t : TypeId) (x : Operand) : xL X σ w ⟨d,.unOp p t x,ty,pos,af,gd⟩ = true := _root_.id rfl
@[simp ↓] theorem xL_slice (t : TypeId) (x : Operand) (a b c : Option Operand) : xL X σ w ⟨d,.slice t x a b c,ty,pos,af,gd⟩ = true := _root_.id rfl
@[simp ↓] theorem xL_build (t : TypeId) (ps : Array (Nat × Operand)) : xL X σ w ⟨d,.build t ps,ty,pos,af,gd⟩ = true := _root_.id rfl
@[simp ↓] theorem xL_mkI (t : TypeId) (x : Operand) : xL X σ w ⟨d,.makeInterface t x,ty,pos,af,gd⟩ = true := _root_.id rfl
@[simp ↓] theorem xL_mkF (f : Fn) (a b : Array Operand) : xL X σ w ⟨d,.makeFunc f a b,ty,pos,af,gd⟩ = true := _root_.id rfl
@[simp ↓] theorem xL_callV (f : Operand) (args : Array Operand) (ats : Array TypeId) : xL X σ w ⟨d,.call ⟨.value f,args,ats⟩,ty,pos,af,gd⟩ = true := _root_.id rfl
@[simp ↓] theorem xL_callL (args : Array Operand) (ats : Array TypeId) : xL X σ w ⟨d,.call ⟨.builtin .len,args,ats⟩,ty,pos,af,gd⟩ = true := _root_.id rfl
@[simp ↓] theorem xL_callMin (args : Array Operand) (ats : Array TypeId) : xL X σ w ⟨d,.call ⟨.builtin .min,args,ats⟩,ty,pos,af,gd⟩ = args.toList.all fun x => isIntV (ev σ x) := _root_.id rfl
@[simp ↓] theorem xL_callMax (args : Array Operand) (ats : Array TypeId) : xL X σ w ⟨d,.call ⟨.builtin .max,args,ats⟩,ty,pos,af,gd⟩ = args.toList.all fun x => isIntV (ev σ x) := _root_.id rfl
@[simp ↓] theorem xL_binOp (p : BinOp) (t t' : TypeId) (x y : Operand) : xL X σ w ⟨d,.binOp p t x y t',ty,pos,af,gd⟩ = bV (ev σ x) (ev σ y) := _root_.id rfl
end
theorem VO_went {P : Program} {X : Nat → Bool} {r : Option Nat} {o : Oper} {k : Value → List Deferred → Prop} {ρ : Env} {ds : List Deferred} {w W : World} (hf : autoOp P o.op = true) (hi : xL X ρ w o = true) (hA : Agr (fun k => k < w.heap.size ∧ X k = false) w W)
  (h : VO P r o (fun ρ'' ds'' _ => k (dv ρ'' o.dst) ds'') (fun _ _ _ _ => False) ρ ds w) : VO P r o (fun ρ'' ds'' w'' => w'' = W ∧ k (dv ρ'' o.dst) ds'') (fun _ _ _ _ => False) ρ ds W := by
 by_cases hl : ∃ t x, o.op = .load t x
 ·obtain ⟨t,x,hl⟩ := hl
  obtain ⟨dst,op,ty,pos,aft,gd⟩ := o
  simp only at hl
  subst hl
  exact alike_onR (fun v w' e => loadAt_went hi hA e) h fun v w' h' => ⟨rfl,h'⟩
 ·refine VO_alike hf ?_ hA h
  obtain ⟨dst,op,ty,pos,aft,gd⟩ := o
  unfold xL at hi
  unfold xV
  cases op with
  | load t x => exact (hl ⟨t,x,rfl⟩).elim
  | _ => exact hi
def isLd : Op → Bool
 | .load _ _ => true
 | _ => false
theorem VO_went' {P : Program} {X : Nat → Bool} {r : Option Nat} {o : Oper} {k : Value → List Deferred → Prop} {ρ : Env} {ds : List Deferred} {w W : World} (hf : autoOp P o.op = true) (hi : xL X ρ w o = true) (hA : Agr (fun k => k < w.heap.size ∧ (isLd o.op = true ∧ X k = false)) w W)
  (h : VO P r o (fun ρ'' ds'' _ => k (dv ρ'' o.dst) ds'') (fun _ _ _ _ => False) ρ ds w) : VO P r o (fun ρ'' ds'' w'' => w'' = W ∧ k (dv ρ'' o.dst) ds'') (fun _ _ _ _ => False) ρ ds W := by
 cases hl : isLd o.op with
 | true => exact VO_went hf hi (hA.weaken fun i hi => ⟨hi.1,hl,hi.2⟩) h
 | false =>
  refine VO_alike (X := fun _ => true) hf ?_ (hA.weaken fun i hi => by simp at hi) h
  obtain ⟨dst,op,ty,pos,aft,gd⟩ := o
  unfold xL at hi
  unfold xV
  cases op with
  | load t x => cases hl
  | _ => exact hi
theorem auto_plain {P : Program} {op : Op} (h : autoOp P op = true) : plain op = true := by
 unfold autoOp at h
 unfold plain
 split at h <;> first | rfl | (cases h)
theorem onR_imp {x : Result Value} {k k' : Value → World → Prop} (h : onR x k) (hk : ∀ v w, k v w → k' v w) : onR x k' := by
 cases x with
 | ok v w => exact hk v w h
 | halt e w => exact h.elim
theorem onU_imp {x : Result Unit} {k k' : World → Prop} (h : onU x k) (hk : ∀ w, k w → k' w) : onU x k' := by
 cases x with
 | ok v w => exact hk w h
 | halt e w => exact h.elim
theorem VO_imp {P : Program} {r : Option Nat} {o : Oper} {K K' : Cont} {ρ : Env} {ds : List Deferred} {w : World} (h : VO P r o K (fun _ _ _ _ => False) ρ ds w)
  (hK : ∀ v ds' w',K (put ρ o.dst v) ds' w' → K' (put ρ o.dst v) ds' w') : VO P r o K' (fun _ _ _ _ => False) ρ ds w := by
 obtain ⟨dst,op,ty,pos,aft,gd⟩ := o
 have hk : ∀ v w',K (put ρ dst v) ds w' → K' (put ρ dst v) ds w' := fun v w' => hK v ds w'
 cases op with
 | call c =>
  obtain ⟨callee,args,ats⟩ := c
  cases callee with
  | value f =>
   refine CV.mono (show CV P (ev ρ f) (args.toList.map (ev ρ)) w (RC dst K (fun _ _ _ _ => False) ρ ds) from h) fun e w' he => ?_
   cases e with
   | returned v => exact hk _ _ he
   | panicked ch => exact he
   | outgrown => exact he
  | invoke x m =>
   refine IV.mono (show IV P m (ev ρ x :: args.toList.map (ev ρ)) w (RC dst K (fun _ _ _ _ => False) ρ ds) from h) fun e w' he => ?_
   cases e with
   | returned v => exact hk _ _ he
   | panicked ch => exact he
   | outgrown => exact he
  | builtin b => exact onR_imp h hk
 | defer c =>
  obtain ⟨callee,args,ats⟩ := c
  cases callee with
  | value f =>
   obtain ⟨h1,h2⟩ := (show r = none ∧ DF (ev ρ f) (args.toList.map (ev ρ)) fun d => K (put ρ dst undef) (d :: ds) w from h)
   refine (show r = none ∧ DF (ev ρ f) (args.toList.map (ev ρ)) fun d => K' (put ρ dst undef) (d :: ds) w from ⟨h1,?_⟩)
   unfold DF at h2 ⊢
   split at h2
   ·exact hK _ _ _ h2
   ·exact h2.elim
  | _ => exact (show False from h).elim
 | panic x =>
  exfalso
  have h' : PN (ev ρ x) fun _ => False := h
  unfold PN at h'
  split at h' <;> exact h'
 | move x => exact hk _ _ h
 | assign x => exact hk _ _ h
 | makeFunc fn first caps => exact hk _ _ h
 | box t x => exact onR_imp (x := (Instr.box t (ev ρ x)).run P w) (show onR ((Instr.box t (ev ρ x)).run P w) (fun v w' => K (put ρ dst v) ds w') from h) hk
 | _ => first | exact onR_imp h hk | exact onU_imp h (fun w' => hk _ w') | exact (show False from h).elim
inductive Tr
 | Z
 | F (i : Nat) (t : Tr)
 | E (i : Nat) (t : Tr) (rest : Tr)
abbrev Tr.C (i : Nat) (t : Tr) : Tr := .E i t .Z
def nthO : List Oper → Nat → Option Oper
 | [],_ => none
 | o :: _,0 => some o
 | _ :: l,j + 1 => nthO l j
theorem nthO_eq (l : List Oper) : ∀ j, nthO l j = l[j]? := by
 induction l with
 | nil => intro j; simp [nthO]
 | cons o l ih => intro j; cases j with
  | zero => rfl
  | succ j => simp [nthO,ih]
def KR (A B : Prop) : Prop := A ∧ B
def RF (P : Program) (X : Nat → Bool) (r : Option Nat) (ds : List Deferred) (ops : List Oper) (K : Env → World → Prop) (σ : Env) (W : World) : Option Oper → Prop
 | none => False
 | some o => GI (gw ops.toArray σ o.guard) (xL X σ W o = true ∧ VO P r o (fun ρ'' ds'' w'' => (ds'' = ds ∧ w'' = W) ∧ K ρ'' W) (fun _ _ _ _ => False) σ ds W) (K (put σ o.dst undef) W)
def RE (P : Program) (X : Nat → Bool) (r : Option Nat) (ds : List Deferred) (ops : List Oper) (K : Env → World → Prop) (σ : Env) (W : World) : Option Oper → Prop
 | none => False
 | some o => GI (gw ops.toArray σ o.guard) (VO P r o (fun ρ'' ds'' w'' => ds'' = ds ∧ KR (Agr (fun k => X k = false) W w'') (K ρ'' w'')) (fun _ _ _ _ => False) σ ds W) (K (put σ o.dst undef) W)
def RT (P : Program) (X : Nat → Bool) (r : Option Nat) (ds : List Deferred) (ops : List Oper) (T : Env → World → Prop) : Bool → Tr → Env → World → Prop
 | true,.Z,_,_ => True
 | false,.Z,σ,W => T σ W
 | _,.F i t,σ,W => RF P X r ds ops (RT P X r ds ops T false t) σ W (nthO ops i)
 | _,.E i t rest,σ,W => RE P X r ds ops (RT P X r ds ops T false t) σ W (nthO ops i) ∧ RT P X r ds ops T true rest σ W
def nodeOk (ops : List Oper) (m : Nat) (bs : List (List Nat)) (i : Nat) (L : List Nat) : Bool :=
 decide (i < m) && (!L.contains i && ((bsAt bs i).all (fun j => L.contains j) && (match nthO ops i with
  | none => false
  | some o => (tmpsOf o).all fun t => (List.range m).all fun j => dstAt ops j != some t || (bsAt bs i).contains j)))
def trOk (P : Program) (ops : List Oper) (m : Nat) (bs : List (List Nat)) : Bool → Tr → List Nat → List Nat → Bool
 | false,.Z,L,_ => (List.range m).all fun i => L.contains i
 | true,.Z,L,as => (List.range m).all fun i => L.contains i || (!((bsAt bs i).all fun j => L.contains j) || as.contains i)
 | b,.F i t,L,_ => !b && (nodeOk ops m bs i L && ((match nthO ops i with | none => false | some o => autoOp P o.op && o.dst.isSome) && trOk P ops m bs false t (i :: L) []))
 | _,.E i t rest,L,as => nodeOk ops m bs i L && (trOk P ops m bs false t (i :: L) [] && trOk P ops m bs true rest L (i :: as))
section
variable {P : Program} {X : Nat → Bool} {n : Nat} {r : Option Nat} {id : Nat} {ops : List Oper} {m : Nat} {bs : List (List Nat)} {ds : List Deferred} {T : Env → World → Prop} {ρ : Env}
theorem nodeOk_inv {i : Nat} {L : List Nat} (h : nodeOk ops m bs i L = true) : i < m ∧ i ∉ L ∧ (∀ j ∈ bsAt bs i, j ∈ L) ∧ ∃ o, ops[i]? = some o ∧ ∀ t ∈ tmpsOf o, ∀ j, j < m → dstAt ops j = some t → j ∈ bsAt bs i := by
 unfold nodeOk at h
 simp only [Bool.and_eq_true,decide_eq_true_eq,Bool.not_eq_true',List.all_eq_true,List.contains_iff_mem] at h
 obtain ⟨h1,h2,h3,h4⟩ := h
 refine ⟨h1, fun hc => ?_, h3, ?_⟩
 ·rw [List.contains_iff_mem.2 hc] at h2; cases h2
 rw [nthO_eq] at h4
 cases ho : ops[i]? with
 | none => rw [ho] at h4; cases h4
 | some o =>
  rw [ho] at h4
  refine ⟨o,rfl,fun t ht j hj hd => ?_⟩
  have := List.all_eq_true.1 (List.all_eq_true.1 h4 t ht) j (by simpa using hj)
  simp only [Bool.or_eq_true,bne_iff_ne,ne_eq,List.contains_iff_mem] at this
  exact this.resolve_left (fun h => h hd)
def PROM (P : Program) (X : Nat → Bool) (r : Option Nat) (ds : List Deferred) (ops : List Oper) (m : Nat) (bs : List (List Nat)) (L : List Nat) (j : Nat) (σ : Env) (W : World) : Prop :=
 ∃ o, ops[j]? = some o ∧ autoOp P o.op = true ∧ o.dst.isSome = true ∧ (∀ k ∈ bsAt bs j, k ∈ L) ∧ (∀ t ∈ tmpsOf o, ∀ k, k < m → dstAt ops k = some t → k ∈ bsAt bs j) ∧ (∀ k b, o.guard = some (k, b) → k ∈ bsAt bs j) ∧
  ∃ Wo, Agr (fun k => k < Wo.heap.size ∧ (isLd o.op = true ∧ X k = false)) Wo W ∧
   GI (gw ops.toArray σ o.guard) (xL X σ Wo o = true ∧ VO P r o (fun ρ'' ds'' _ => ds'' = ds ∧ dv ρ'' o.dst = dv σ o.dst) (fun _ _ _ _ => False) σ ds Wo) (dv σ o.dst = undef)
theorem PROM.keep {L L' : List Nat} {j : Nat} {σ : Env} {W W' : World} (h : PROM P X r ds ops m bs L j σ W) (hL : ∀ k ∈ L, k ∈ L') (hA : Agr (fun k => X k = false) W W') : PROM P X r ds ops m bs L' j σ W' := by
 obtain ⟨o,h1,h2,h3,h4,h5,h6,Wo,h7,h8⟩ := h
 refine ⟨o,h1,h2,h3,fun k hk => hL k (h4 k hk),h5,h6,Wo,?_,h8⟩
 exact ⟨hA.os.trans h7.os,hA.tape.trans h7.tape,hA.out.trans h7.out,Nat.le_trans h7.size hA.size,fun i hi hs => (hA.blk i (Nat.lt_of_lt_of_le hi h7.size) hs.2.2).trans (h7.blk i hi hs)⟩
theorem PROM.keepS {L L' : List Nat} {j : Nat} {σ : Env} {W W' : World} (h : PROM P X r ds ops m bs L j σ W) (hL : ∀ k ∈ L, k ∈ L') (hA : Agr (fun _ => False) W W') (hn : ∀ o, ops[j]? = some o → isLd o.op = false) : PROM P X r ds ops m bs L' j σ W' := by
 obtain ⟨o,h1,h2,h3,h4,h5,h6,Wo,h7,h8⟩ := h
 have hl := hn o h1
 refine ⟨o,h1,h2,h3,fun k hk => hL k (h4 k hk),h5,h6,Wo,?_,h8⟩
 exact ⟨hA.os.trans h7.os,hA.tape.trans h7.tape,hA.out.trans h7.out,Nat.le_trans h7.size hA.size,fun i hi hs => by rw [hl] at hs; cases hs.2.1⟩
theorem xL_env {o : Oper} {ρ ρ' : Env} (h : ∀ t ∈ tmpsOf o, ρ t = ρ' t) (w : World) : xL X ρ w o = xL X ρ' w o := by
 have hx : ∀ x ∈ o.op.operands, ev ρ x = ev ρ' x := by
  intro x hx
  cases x with
  | tmp t => exact h t (by unfold tmpsOf; rw [List.mem_filterMap]; exact ⟨.tmp t,by simpa using hx,rfl⟩)
  | _ => rfl
 obtain ⟨dst,op,ty,pos,aft,gd⟩ := o
 unfold xL
 cases op with
 | binOp p t x y t' => simp only; rw [hx x (by simp [Op.operands]),hx y (by simp [Op.operands])]
 | load t x => simp only; rw [hx x (by simp [Op.operands])]
 | convert s d x => simp only; rw [hx x (by simp [Op.operands])]
 | call c => exact cV_env fun z hz => hx z hz
 | _ => rfl
theorem PROM.put {L : List Nat} {j : Nat} {σ : Env} {W : World} (h : PROM P X r ds ops m bs L j σ W) (hb : befsOk ops m bs = true) (hj : j < m) (hjL : j ∈ L) (hLm : ∀ k ∈ L, k < m) {i : Nat} (hi : i ∉ L) (him : i < m) {o' : Oper} (ho' : ops[i]? = some o') (v : Value) :
  PROM P X r ds ops m bs L j (Pk.put σ o'.dst v) W := by
 obtain ⟨o,h1,h2,h3,h4,h5,h6,Wo,h7,h8⟩ := h
 have hne : j ≠ i := fun e => hi (e ▸ hjL)
 have hdi : dstAt ops i = o'.dst := by rw [dstAt_get,ho']; rfl
 have hdj : dstAt ops j = o.dst := by rw [dstAt_get,h1]; rfl
 have hs : ∀ t, o'.dst ≠ some t → (Pk.put σ o'.dst v) t = σ t := by
  intro t ht
  cases hd : o'.dst with
  | none => rfl
  | some d => have : t ≠ d := fun e => ht (by rw [hd,e]); simp [this]
 have hop : ∀ t ∈ tmpsOf o,σ t = (Pk.put σ o'.dst v) t := fun t ht => (hs t fun e => hi (h4 i (h5 t ht i him (by rw [hdi,e])))).symm
 have hgw : gw ops.toArray (Pk.put σ o'.dst v) o.guard = gw ops.toArray σ o.guard := by
  refine gw_env fun k b hg d hd => hs d fun e => ?_
  have hkb := h6 k b hg
  have hkL := h4 k hkb
  have : k = i := head_uniq hb (hLm k hkL) him hd (by rw [hdi,e])
  exact hi (this ▸ hkL)
 have hdv : dv (Pk.put σ o'.dst v) o.dst = dv σ o.dst := by
  cases hod : o.dst with
  | none => rfl
  | some d =>
   simp only [dv_some]
   exact hs d fun e => hne (head_uniq hb hj him (by rw [hdj,hod]) (by rw [hdi,e]))
 refine ⟨o,h1,h2,h3,h4,h5,h6,Wo,h7,?_⟩
 rw [hgw,hdv]
 cases hg : gw ops.toArray σ o.guard with
 | true =>
  rw [hg,GI_true] at h8
  rw [GI_true]
  refine ⟨by rw [← xL_env hop _]; exact h8.1,?_⟩
  have := VO_env (k := fun v ds'' _ => ds'' = ds ∧ v = dv σ o.dst) hop h8.2
  obtain ⟨u,w',hK,hK'⟩ := VO_det (auto_plain h2) this
  exact hK' _ _ hK.1
 | false => rw [hg,GI_false] at h8; rw [GI_false]; exact h8
structure GS (P : Program) (X : Nat → Bool) (r : Option Nat) (ds : List Deferred) (ops : List Oper) (m : Nat) (bs : List (List Nat)) (T : Env → World → Prop) (ρ : Env) (S : Nat → Bool) (W : World) (t : Tr) (L : List Nat) (σ : Env) : Prop where
 ok : trOk P ops m bs false t L [] = true
 rt : RT P X r ds ops T false t σ W
 sub : ∀ j,S j = true → j ∈ L
 lm : ∀ j ∈ L,j < m
 fr : ∀ x,(∀ j ∈ L,dstAt ops j ≠ some x) → σ x = ρ x
 prom : ∀ j ∈ L,S j = false → PROM P X r ds ops m bs L j σ W
def isFr : Tr → Bool | .F .. => true | _ => false
theorem GS.norm {S : Nat → Bool} {W : World} (hb : befsOk ops m bs = true) : ∀ (t : Tr) (L : List Nat) (σ : Env), GS P X r ds ops m bs T ρ S W t L σ →
  ∃ t' L' σ',GS P X r ds ops m bs T ρ S W t' L' σ' ∧ isFr t' = false ∧ (∀ j ∈ L,j ∈ L') ∧ ∀ j ∈ L,dv σ' (dstAt ops j) = dv σ (dstAt ops j)
 | .Z,L,σ,h => ⟨_,_,_,h,rfl,fun _ h => h,fun _ _ => rfl⟩
 | .E ..,L,σ,h => ⟨_,_,_,h,rfl,fun _ h => h,fun _ _ => rfl⟩
 | .F i t, L, σ, h => by
  have hok := h.ok
  unfold trOk at hok
  simp only [Bool.not_false,Bool.true_and,Bool.and_eq_true] at hok
  obtain ⟨hn,ha,hok'⟩ := hok
  obtain ⟨him,hiL,hbL,o,ho,hsl⟩ := nodeOk_inv hn
  rw [nthO_eq,ho] at ha
  simp only [Bool.and_eq_true] at ha
  have hrt := h.rt
  unfold RT at hrt
  rw [nthO_eq,ho] at hrt
  have hdi : dstAt ops i = o.dst := by rw [dstAt_get,ho]; rfl
  obtain ⟨o2,ho2,-,hb3,-,hb5,-⟩ := befsOk_head hb him
  rw [ho] at ho2; cases ho2
  obtain ⟨d,hd⟩ := Option.isSome_iff_exists.1 ha.2
  have key : ∃ v, RT P X r ds ops T false t (Pk.put σ o.dst v) W ∧ GI (gw ops.toArray σ o.guard) (xL X σ W o = true ∧ VO P r o (fun ρ'' ds'' _ => ds'' = ds ∧ dv ρ'' o.dst = v) (fun _ _ _ _ => False) σ ds W) (v = undef) := by
   unfold RF at hrt
   simp only at hrt
   cases hg : gw ops.toArray σ o.guard with
   | true =>
    rw [hg,GI_true] at hrt
    obtain ⟨v,w',hK,hK'⟩ := VO_det (auto_plain ha.1) hrt.2
    refine ⟨v,hK.2,?_⟩
    rw [GI_true]
    refine ⟨hrt.1,hK' _ _ ⟨hK.1.1,?_⟩⟩
    rw [hd]; simp
   | false =>
    rw [hg,GI_false] at hrt
    exact ⟨undef,hrt,by rw [GI_false]⟩
  obtain ⟨v,hrt',hv⟩ := key
  have hs : ∀ x, o.dst ≠ some x → (Pk.put σ o.dst v) x = σ x := by
   intro x hx
   rw [hd] at hx ⊢
   have : x ≠ d := fun e => hx (by rw [e])
   simp [this]
  have hop : ∀ x ∈ tmpsOf o, σ x = (Pk.put σ o.dst v) x := fun x hx => (hs x fun e => by
   have := hsl x hx i him (by rw [hdi,e])
   have := (hb3 i this).1
   omega).symm
  have hgw : gw ops.toArray (Pk.put σ o.dst v) o.guard = gw ops.toArray σ o.guard := by
   refine gw_env fun k b hg x hx => hs x fun e => ?_
   have hkb := hb5 k b hg
   have hk : k = i := head_uniq hb (h.lm k (hbL k hkb)) him hx (by rw [hdi,e])
   exact hiL (hk ▸ hbL k hkb)
  have hnew : GS P X r ds ops m bs T ρ S W t (i :: L) (Pk.put σ o.dst v) := by
   refine ⟨hok', hrt', fun j hj => List.mem_cons_of_mem _ (h.sub j hj), ?_, ?_, ?_⟩
   ·intro j hj
    rcases List.mem_cons.1 hj with rfl | hj
    ·exact him
    ·exact h.lm j hj
   ·intro x hx
    rw [hs x fun e => hx i (by simp) (by rw [hdi,e])]
    exact h.fr x fun j hj => hx j (by simp [hj])
   ·intro j hj hSj
    rcases List.mem_cons.1 hj with rfl | hj
    ·refine ⟨o,ho,ha.1,ha.2,fun k hk => List.mem_cons_of_mem _ (hbL k hk),hsl,hb5,W,Agr.refl _ _,?_⟩
     have hdv : dv (Pk.put σ o.dst v) o.dst = v := by rw [hd]; simp
     rw [hgw,hdv]
     cases hg : gw ops.toArray σ o.guard with
     | true =>
      rw [hg,GI_true] at hv
      rw [GI_true]
      refine ⟨by rw [← xL_env hop _]; exact hv.1,?_⟩
      have := VO_env (k := fun u ds'' _ => ds'' = ds ∧ u = v) hop hv.2
      obtain ⟨u,w',hK,hK'⟩ := VO_det (auto_plain ha.1) this
      exact hK' _ _ hK.1
     | false => rw [hg,GI_false] at hv; rw [GI_false]; exact hv
    ·exact ((h.prom j hj hSj).put hb (h.lm j hj) hj h.lm hiL him ho v).keep (fun k hk => List.mem_cons_of_mem _ hk) (Agr.refl _ _)
  obtain ⟨t',L',σ',g1,g2,g3,g4⟩ := GS.norm hb t (i :: L) _ hnew
  refine ⟨t',L',σ',g1,g2,fun j hj => g3 j (by simp [hj]),fun j hj => ?_⟩
  rw [g4 j (by simp [hj])]
  cases hdj : dstAt ops j with
  | none => rfl
  | some x =>
   simp only [dv_some]
   exact hs x fun e => hiL ((head_uniq hb (h.lm j hj) him hdj (by rw [hdi,e])) ▸ hj)
theorem RT_pick {W : World} {σ : Env} {L : List Nat} {i : Nat} (him : i < m) (hi : i ∉ L) (hbi : ∀ j ∈ bsAt bs i, j ∈ L) : ∀ (b : Bool) (t : Tr) (as : List Nat), i ∉ as → isFr t = false → trOk P ops m bs b t L as = true → RT P X r ds ops T b t σ W →
  ∃ t',RE P X r ds ops (RT P X r ds ops T false t') σ W (nthO ops i) ∧ nodeOk ops m bs i L = true ∧ trOk P ops m bs false t' (i :: L) [] = true
 | false, .Z, as, _, _, hok, _ => by
  unfold trOk at hok
  exact (hi (by simpa using List.all_eq_true.1 hok i (by simpa using him))).elim
 | true, .Z, as, has, _, hok, _ => by
  unfold trOk at hok
  have h1 := List.all_eq_true.1 hok i (by simpa using him)
  have h2 : (bsAt bs i).all (fun j => L.contains j) = true := List.all_eq_true.2 fun j hj => by simpa using hbi j hj
  rw [h2] at h1
  simp [hi,has] at h1
 | b,.F ..,as,_,hf,_,_ => by cases hf
 | b, .E k t rest, as, has, _, hok, hrt => by
  unfold trOk at hok
  simp only [Bool.and_eq_true] at hok
  have hrt : RE P X r ds ops (RT P X r ds ops T false t) σ W (nthO ops k) ∧ RT P X r ds ops T true rest σ W := by cases b <;> exact hrt
  by_cases hk : i = k
  ·subst hk
   exact ⟨t,hrt.1,hok.1,hok.2.1⟩
  ·have hf : isFr rest = false := by
    cases rest with
    | F i t => have := hok.2.2; unfold trOk at this; simp at this
    | _ => rfl
   exact RT_pick him hi hbi true rest (k :: as) (by simp [hk,has]) hf hok.2.2 hrt.2
theorem WC_drawB {Q : Post} {w : World} (m : Nat) (t : Tr) (X : Nat → Bool) (bs : List (List Nat)) (hm : P.follows .mixedOrders = true) (hb0 : (befsOk ops m bs && trOk P ops m bs false t [] []) = true)
  (h : ∀ W,Dr w W → RT P X r ds ops (fun ρ' w' => VL P r ops.toArray Q (ops.drop m) ρ' ds w') false t ρ W) : WC P n r (.region id ops.toArray true) Q ρ ds w := by
 intro hok tmps hAg
 obtain ⟨hb,htr⟩ := Bool.and_eq_true_iff.1 hb0
 have hok' : ops.all (okOp n) = true := by simpa [okC] using hok
 obtain ⟨hbl,hml⟩ := befsOk_bs hb
 refine wpIn_region_any hm ?_
 have key : ∀ (fuel : Nat) (listed : Array Bool) (a : Act) (ρ' : Env) (w' : World), a.defers = ds → listed.size = ops.length → Ag n a.tmps ρ' →
   (∃ t L σ,GS P X r ds ops m bs (fun ρ' w' => VL P r ops.toArray Q (ops.drop m) ρ' ds w') ρ (fun j => listed.getD j false) w' t L σ ∧ isFr t = false ∧ ∀ j,listed.getD j false = true → dv ρ' (dstAt ops j) = dv σ (dstAt ops j)) →
   (∀ i,i < ops.length → listed.getD i false = true → ∀ o,ops[i]? = some o → ∀ e ∈ o.after,Region.binds .any e = true → listed.getD e.on false = true) →
   (∀ x,(∀ i,i < m → listed.getD i false = true → dstAt ops i ≠ some x) → ρ' x = ρ x) →
   ops.length ≤ fuel + listed.toList.count true →
   wpAnyIn (FR r) 0 P .any ops.toArray (fun e a w' => ∃ ρ',Ag n a.tmps ρ' ∧ Q e ρ' a.defers w') fuel listed a w' := by
  intro fuel
  have final : ∀ (fuel : Nat) (listed : Array Bool) (a : Act) (ρ' : Env) (w' : World), a.defers = ds → listed.size = ops.length → Ag n a.tmps ρ' →
    (∃ t L σ,GS P X r ds ops m bs (fun ρ' w' => VL P r ops.toArray Q (ops.drop m) ρ' ds w') ρ (fun j => listed.getD j false) w' t L σ ∧ isFr t = false ∧ ∀ j,listed.getD j false = true → dv ρ' (dstAt ops j) = dv σ (dstAt ops j)) →
    (∀ x,(∀ i,i < m → listed.getD i false = true → dstAt ops i ≠ some x) → ρ' x = ρ x) → (∀ i,i < m → listed.getD i false = true) →
    VL P r ops.toArray Q (ops.drop m) ρ' a.defers w' := by
   rintro fuel listed a ρ' w' hds hs hA ⟨t,L,σ,hG,hF,hval⟩ hfr hall
   have hσ : σ = ρ' := by
    funext x
    by_cases hx : ∃ j, j < m ∧ dstAt ops j = some x
    ·obtain ⟨j,hj,hd⟩ := hx
     have := hval j (hall j hj)
     rw [hd] at this
     simpa using this.symm
    ·have hx' : ∀ j,j < m → dstAt ops j ≠ some x := fun j hj e => hx ⟨j,hj,e⟩
     rw [hG.fr x fun j hj => hx' j (hG.lm j hj),hfr x fun j hj _ => hx' j hj]
   have hZ : t = .Z := by
    cases t with
    | Z => rfl
    | F i t => cases hF
    | E i t rest =>
     have := hG.ok
     unfold trOk at this
     simp only [Bool.and_eq_true] at this
     obtain ⟨h1,h2,-⟩ := nodeOk_inv this.1
     exact (h2 (hG.sub i (hall i h1))).elim
   have := hG.rt
   rw [hZ,hσ] at this
   unfold RT at this
   rw [hds]; exact this
  have hlow : ∀ (listed : Array Bool) (ρ' : Env) (w' : World), (∃ t L σ, GS P X r ds ops m bs (fun ρ' w' => VL P r ops.toArray Q (ops.drop m) ρ' ds w') ρ (fun j => listed.getD j false) w' t L σ ∧ isFr t = false ∧ ∀ j, listed.getD j false = true → dv ρ' (dstAt ops j) = dv σ (dstAt ops j)) →
    ∀ j,m ≤ j → listed.getD j false = false := by
   rintro listed ρ' w' ⟨t,L,σ,hG,-⟩ j hj
   cases hx : listed.getD j false with
   | false => rfl
   | true => have := hG.lm j (hG.sub j hx); omega
  induction fuel with
  | zero =>
   intro listed a ρ' w' hds hs hA hG hcl hfr hf
   have hhd := hlow listed ρ' w' hG
   have hall := all_listed (listed := listed) (by omega)
   have hml' : m = ops.length := by
    rcases Nat.lt_or_ge m ops.length with h1 | h1
    ·have := hhd m (Nat.le_refl _)
     rw [hall m (by omega)] at this; cases this
    ·omega
   refine any_tail hb hok' 0 m listed a ρ' w' (Nat.le_refl _) hml (by omega) hs ?_ hA (final 0 listed a ρ' w' hds hs hA hG hfr fun i hi => hall i (by omega))
   intro i
   by_cases h1 : i < ops.length
   ·rw [hall i (by omega)]; simp; omega
   ·have : decide (i < m) = false := by simp; omega
    rw [this]; simp [hs,h1]
  | succ fuel ih =>
   intro listed a ρ' w' hds hs hA hG hcl hfr hf
   have hhd := hlow listed ρ' w' hG
   by_cases hfull : ∀ i, i < m → listed.getD i false = true
   ·refine any_tail hb hok' (fuel + 1) m listed a ρ' w' (Nat.le_refl _) hml ?_ hs ?_ hA (final (fuel + 1) listed a ρ' w' hds hs hA hG hfr hfull)
    ·have hc : listed.toList.count true ≤ m := by
      have hcc : ∀ (l : List Bool) (k : Nat), (∀ j, k ≤ j → l[j]?.getD false = false) → l.count true ≤ k := by
       intro l
       induction l with
       | nil => intro k _; simp
       | cons b l ihl =>
        intro k hkk
        cases k with
        | zero =>
         have h0 := hkk 0 (Nat.le_refl _)
         simp at h0; subst h0
         have := ihl 0 (fun j hj => by have := hkk (j + 1) (by omega); simpa using this)
         simp at this ⊢; exact this
        | succ k =>
         have := ihl k (fun j hj => by have := hkk (j + 1) (by omega); simpa using this)
         rw [List.count_cons]; split <;> omega
      refine hcc _ _ fun j hj => ?_
      have := hhd j hj
      simpa [Array.getD_eq_getD_getElem?] using this
     omega
    ·intro i
     by_cases h1 : i < m
     ·rw [hfull i h1]; simp [h1]
     ·rw [hhd i (by omega)]; simp [h1]
   ·refine ⟨?_, ?_⟩
    ·intro hr
     exfalso
     obtain ⟨i, hi, hmin⟩ := exists_least (p := fun i => i < m ∧ listed.getD i false = false) (by
      simp only [Classical.not_forall] at hfull
      obtain ⟨i,h1,h2⟩ := hfull
      exact ⟨i,h1,by simpa using h2⟩)
     have hil : i < ops.length := by omega
     have : i ∈ Region.ready .any ops.toArray listed := by
      refine mem_ready.2 ⟨?_, ops[i], by simp [hil], ?_⟩
      ·have := hi.2
       have his : i < listed.size := by omega
       simpa [his] using this
      ·intro e he hbe
       have hlt := befsOk_edge hb (List.getElem?_eq_getElem hil) e he hbe
       cases hx : listed.getD e.on false with
       | true => rfl
       | false => have := hmin e.on ⟨by omega,hx⟩; omega
     rw [hr] at this; cases this
    ·intro i hi
     obtain ⟨hi1,o,ho,hi2⟩ := mem_ready.1 hi
     have hil : i < ops.length := by
      have := (Array.getElem?_eq_some_iff.1 ho).1; simpa using this
     have his : i < listed.size := by omega
     have ho' : ops[i]? = some o := by simpa using ho
     have hif : listed.getD i false = false := by simpa [his] using hi1
     have him : i < m := by
      rcases Nat.lt_or_ge i m with h1 | h1
      ·exact h1
      ·exfalso
       refine hfull fun k hk => ?_
       obtain ⟨e,he,hbe,hke⟩ := befsOk_tail hb ho' h1 k (by omega)
       have h2 := hi2 e he hbe
       rcases hke with hke | ⟨hke1, hke2⟩ | ⟨hke1, hke2⟩
       ·rw [← hke]; exact h2
       ·have hel : e.on < ops.length := by omega
        exact bs_listed hb hcl e.on ops[e.on] hke1 (List.getElem?_eq_getElem hel) (hcl e.on hel h2 _ (List.getElem?_eq_getElem hel)) k hke2
       ·rw [hhd e.on hke1] at h2; cases h2
     have hbsl := bs_listed hb hcl i o him ho' hi2
     obtain ⟨o'',ho'',hsome,hb3,hb4,hb5,hb6⟩ := befsOk_head hb him
     rw [ho'] at ho''; cases ho''
     have hdi : dstAt ops i = o.dst := by rw [dstAt_get,ho']; rfl
     obtain ⟨t,L,σ,hG,hF,hval⟩ := hG
     have hokA : ops.toArray.toList.all (okOp n) = true := by simpa using hok'
     have hoko : okOp n o = true := List.all_eq_true.1 hok' o (List.mem_of_getElem? ho')
     have hcl' : ∀ k, k < ops.length → (listed.setIfInBounds i true).getD k false = true → ∀ ok, ops[k]? = some ok → ∀ e ∈ ok.after, Region.binds .any e = true → (listed.setIfInBounds i true).getD e.on false = true := by
      intro k hkl hkt ok hok2 e he hbe
      rw [listed_set his] at hkt ⊢
      by_cases hki : k = i
      ·subst hki
       rw [ho'] at hok2; cases hok2
       rw [hi2 e he hbe]; simp
      ·have : listed.getD k false = true := by simpa [hki] using hkt
       rw [hcl k hkl this ok hok2 e he hbe]; simp
     have hcnt := count_listed his hif
     have hput : ∀ (v : Value) (x : Tmp), o.dst ≠ some x → (Pk.put ρ' o.dst v) x = ρ' x := by
      intro v x hx
      cases hod : o.dst with
      | none => rfl
      | some d => have : x ≠ d := fun e => hx (by rw [hod,e]); simp [this]
     have hfr' : ∀ v x, (∀ k, k < m → (listed.setIfInBounds i true).getD k false = true → dstAt ops k ≠ some x) → (Pk.put ρ' o.dst v) x = ρ x := by
      intro v x hx
      rw [hput v x fun e => hx i him (by rw [listed_set his]; simp) (by rw [hdi,e])]
      exact hfr x fun k hkm hkl => hx k hkm (by rw [listed_set his,hkl]; simp)
     have next : ∀ (a' : Act) (v : Value) (w'' : World), a'.defers = ds → Ag n a'.tmps (Pk.put ρ' o.dst v) →
       (∃ t L σ',GS P X r ds ops m bs (fun ρ' w' => VL P r ops.toArray Q (ops.drop m) ρ' ds w') ρ (fun j => (listed.setIfInBounds i true).getD j false) w'' t L σ' ∧ isFr t = false ∧ dv σ' o.dst = (match o.dst with | some _ => v | none => undef) ∧ ∀ j,listed.getD j false = true → dv ρ' (dstAt ops j) = dv σ' (dstAt ops j)) →
       wpAnyIn (FR r) 0 P .any ops.toArray (fun e a w' => ∃ ρ',Ag n a.tmps ρ' ∧ Q e ρ' a.defers w') fuel (listed.setIfInBounds i true) a' w'' := by
      rintro a' v w'' hds' hA' ⟨t',L',σ',hG',hF',hvi,hvj⟩
      refine ih _ a' (Pk.put ρ' o.dst v) w'' hds' (by simpa using hs) hA' ⟨t',L',σ',hG',hF',?_⟩ hcl' (hfr' v) (by rw [hcnt]; omega)
      intro k hkt
      rw [listed_set his] at hkt
      by_cases hki : k = i
      ·subst hki
       rw [hdi,hvi]
       cases hod : o.dst with
       | none => rfl
       | some d => simp
      ·have hkl : listed.getD k false = true := by simpa [hki] using hkt
       have hkm := hG.lm k (hG.sub k hkl)
       rw [← hvj k hkl]
       cases hdk : dstAt ops k with
       | none => rfl
       | some x =>
        simp only [dv_some]
        exact hput v x fun e => hki (head_uniq hb hkm him hdk (by rw [hdi,e]))
     have ha : a = ⟨a.tmps,ds⟩ := by cases a; simp_all
     unfold wpOpIn
     simp only [ho]
     rw [gw_eq hA hokA o]
     by_cases hiL : i ∈ L
     ·-- the run ahead has it already
      obtain ⟨o2,ho2,hauto,hds2,hpb,hps,hpg,Wo,hAg2,hGI⟩ := hG.prom i hiL hif
      rw [ho'] at ho2; cases ho2
      have hslot : ∀ x, (∀ k, k < m → dstAt ops k = some x → k ∈ bsAt bs i) → σ x = ρ' x := by
       intro x hx
       by_cases hk : ∃ k, k < m ∧ dstAt ops k = some x
       ·obtain ⟨k,hkm,hdk⟩ := hk
        have := hval k (hbsl k (hx k hkm hdk))
        rw [hdk] at this
        simpa using this.symm
       ·have hk' : ∀ k,k < m → dstAt ops k ≠ some x := fun k hkm e => hk ⟨k,hkm,e⟩
        rw [hG.fr x fun k hkL => hk' k (hG.lm k hkL),hfr x fun k hkm _ => hk' k hkm]
      have hop : ∀ x ∈ tmpsOf o,σ x = ρ' x := fun x hx => hslot x (hps x hx)
      have hgw : gw ops.toArray σ o.guard = gw ops.toArray ρ' o.guard := by
       refine gw_env fun k b hg x hx => hslot x fun k' hk'm hk'd => ?_
       have hkb := hpg k b hg
       have hkm : k < m := by have := (hb3 k hkb).1; omega
       have := head_uniq hb hk'm hkm hk'd hx
       exact this ▸ hkb
      have hG' : GS P X r ds ops m bs (fun ρ' w' => VL P r ops.toArray Q (ops.drop m) ρ' ds w') ρ (fun j => (listed.setIfInBounds i true).getD j false) w' t L σ := by
       refine ⟨hG.ok, hG.rt, fun j hj => ?_, hG.lm, hG.fr, fun j hj hS => hG.prom j hj ?_⟩
       ·simp only [listed_set his] at hj
        by_cases hji : j = i
        ·exact hji ▸ hiL
        ·exact hG.sub j (by simpa [hji] using hj)
       ·simp only [listed_set his] at hS
        by_cases hji : j = i
        ·simp [hji] at hS
        ·simpa [hji] using hS
      obtain ⟨d,hod⟩ := Option.isSome_iff_exists.1 hds2
      rw [← hgw]
      cases hg : gw ops.toArray σ o.guard with
      | true =>
       rw [hg,GI_true] at hGI
       simp only [if_true]
       have h1 := VO_went' (k := fun v ds'' => ds'' = ds ∧ v = dv σ o.dst) hauto hGI.1 hAg2 hGI.2
       have h2 := VO_env (k := fun v ds'' w'' => w'' = w' ∧ ds'' = ds ∧ v = dv σ o.dst) (ρ' := ρ') hop h1
       rw [ha]
       refine VO_sound (K := fun ρ'' ds'' w'' => (w'' = w' ∧ ds'' = ds ∧ dv ρ'' o.dst = dv σ o.dst) ∧ ∃ v,ρ'' = put ρ' o.dst v) (Q := fun _ _ _ _ => False) hA hoko ?_ (fun _ _ _ _ _ h => h.elim) h2
       rintro a' ρ'' w'' hA' ⟨⟨rfl,hds',hv⟩,v,rfl⟩
       refine next a' v w'' hds' hA' ⟨t,L,σ,hG',hF,?_,hval⟩
       rw [← hv,hod]; simp
      | false =>
       rw [hg,GI_false] at hGI
       simp only [Bool.false_eq_true,if_false]
       refine ⟨fun _ _ => trivial,next _ undef w' (by rw [put_defers]; exact hds) (hA.put (ds := a.defers) (Bool.and_eq_true_iff.1 hoko).1 undef) ⟨t,L,σ,hG',hF,?_,hval⟩⟩
       rw [hGI,hod]
     ·-- an effect
      obtain ⟨t',hre,hnode,hok2⟩ := RT_pick him hiL (fun j hj => hG.sub j (hbsl j hj)) false t [] (by simp) hF hG.ok hG.rt
      rw [nthO_eq,ho'] at hre
      obtain ⟨-,-,-,o2,ho2,hps⟩ := nodeOk_inv hnode
      rw [ho'] at ho2; cases ho2
      have hslot : ∀ x, (∀ k, k < m → dstAt ops k = some x → k ∈ bsAt bs i) → σ x = ρ' x := by
       intro x hx
       by_cases hk : ∃ k, k < m ∧ dstAt ops k = some x
       ·obtain ⟨k,hkm,hdk⟩ := hk
        have := hval k (hbsl k (hx k hkm hdk))
        rw [hdk] at this
        simpa using this.symm
       ·have hk' : ∀ k,k < m → dstAt ops k ≠ some x := fun k hkm e => hk ⟨k,hkm,e⟩
        rw [hG.fr x fun k hkL => hk' k (hG.lm k hkL),hfr x fun k hkm _ => hk' k hkm]
      have hop : ∀ x ∈ tmpsOf o,σ x = ρ' x := fun x hx => hslot x (hps x hx)
      have hgw : gw ops.toArray σ o.guard = gw ops.toArray ρ' o.guard := by
       refine gw_env fun k b hg x hx => hslot x fun k' hk'm hk'd => ?_
       have hkb := hb5 k b hg
       have hkm : k < m := by have := (hb3 k hkb).1; omega
       have := head_uniq hb hk'm hkm hk'd hx
       exact this ▸ hkb
      have hsσ : ∀ (v : Value) (x : Tmp), o.dst ≠ some x → (Pk.put σ o.dst v) x = σ x := by
       intro v x hx
       cases hod : o.dst with
       | none => rfl
       | some d => have : x ≠ d := fun e => hx (by rw [hod,e]); simp [this]
      have hgo : ∀ (v : Value) (w'' : World), Agr (fun k => X k = false) w' w'' → RT P X r ds ops (fun ρ' w' => VL P r ops.toArray Q (ops.drop m) ρ' ds w') false t' (Pk.put σ o.dst v) w'' →
        ∃ t L σ',GS P X r ds ops m bs (fun ρ' w' => VL P r ops.toArray Q (ops.drop m) ρ' ds w') ρ (fun j => (listed.setIfInBounds i true).getD j false) w'' t L σ' ∧ isFr t = false ∧ dv σ' o.dst = (match o.dst with | some _ => v | none => undef) ∧ ∀ j,listed.getD j false = true → dv ρ' (dstAt ops j) = dv σ' (dstAt ops j) := by
       intro v w'' hAgr hrt
       have hnew : GS P X r ds ops m bs (fun ρ' w' => VL P r ops.toArray Q (ops.drop m) ρ' ds w') ρ (fun j => (listed.setIfInBounds i true).getD j false) w'' t' (i :: L) (Pk.put σ o.dst v) := by
        refine ⟨hok2, hrt, fun j hj => ?_, ?_, ?_, ?_⟩
        ·simp only [listed_set his] at hj
         by_cases hji : j = i
         ·simp [hji]
         ·exact List.mem_cons_of_mem _ (hG.sub j (by simpa [hji] using hj))
        ·intro j hj
         rcases List.mem_cons.1 hj with rfl | hj
         ·exact him
         ·exact hG.lm j hj
        ·intro x hx
         rw [hsσ v x fun e => hx i (by simp) (by rw [hdi,e])]
         exact hG.fr x fun j hj => hx j (by simp [hj])
        ·intro j hj hS
         simp only [listed_set his] at hS
         rcases List.mem_cons.1 hj with rfl | hj
         ·simp at hS
         ·have hji : j ≠ i := fun e => hiL (e ▸ hj)
          have hS' : listed.getD j false = false := by simpa [hji] using hS
          exact ((hG.prom j hj hS').put hb (hG.lm j hj) hj hG.lm hiL him ho' v).keep (fun k hk => List.mem_cons_of_mem _ hk) hAgr
       obtain ⟨t2,L2,σ2,g1,g2,g3,g4⟩ := hnew.norm hb
       refine ⟨t2, L2, σ2, g1, g2, ?_, fun j hj => ?_⟩
       ·have := g4 i (by simp)
        rw [hdi] at this
        rw [this]
        cases hod : o.dst with
        | none => rfl
        | some d => simp
       ·have hjL := hG.sub j hj
        rw [g4 j (by simp [hjL]),hval j hj]
        cases hdj : dstAt ops j with
        | none => rfl
        | some x =>
         simp only [dv_some]
         exact (hsσ v x fun e => hiL ((head_uniq hb (hG.lm j hjL) him hdj (by rw [hdi,e])) ▸ hjL)).symm
      unfold RE at hre
      simp only at hre
      rw [← hgw]
      cases hg : gw ops.toArray σ o.guard with
      | true =>
       rw [hg,GI_true] at hre
       simp only [if_true]
       have hre' : VO P r o (fun ρ'' ds'' w'' => ds'' = ds ∧ Agr (fun k => X k = false) w' w'' ∧ RT P X r ds ops (fun ρ' w' => VL P r ops.toArray Q (ops.drop m) ρ' ds w') false t' (Pk.put σ o.dst (dv ρ'' o.dst)) w'') (fun _ _ _ _ => False) σ ds w' :=
        VO_imp hre fun v ds' w'' hh => ⟨hh.1, hh.2.1, by
         have := hh.2.2
         cases hod : o.dst with
         | none => rw [hod] at this; exact this
         | some d => rw [hod] at this; simpa using this⟩
       have h2 := VO_env (k := fun v ds'' w'' => ds'' = ds ∧ Agr (fun k => X k = false) w' w'' ∧ RT P X r ds ops (fun ρ' w' => VL P r ops.toArray Q (ops.drop m) ρ' ds w') false t' (Pk.put σ o.dst v) w'') (ρ' := ρ') hop hre'
       rw [ha]
       refine VO_sound (K := fun ρ'' ds'' w'' => (ds'' = ds ∧ Agr (fun k => X k = false) w' w'' ∧ RT P X r ds ops (fun ρ' w' => VL P r ops.toArray Q (ops.drop m) ρ' ds w') false t' (Pk.put σ o.dst (dv ρ'' o.dst)) w'') ∧ ∃ v,ρ'' = put ρ' o.dst v) (Q := fun _ _ _ _ => False) hA hoko ?_ (fun _ _ _ _ _ h => h.elim) h2
       rintro a' ρ'' w'' hA' ⟨⟨hds',hAgr,hrt⟩,v,rfl⟩
       refine next a' v w'' hds' hA' (hgo v w'' hAgr ?_)
       cases hod : o.dst with
       | none => rw [hod] at hrt; exact hrt
       | some d => rw [hod] at hrt; simpa using hrt
      | false =>
       rw [hg,GI_false] at hre
       simp only [Bool.false_eq_true,if_false]
       exact ⟨fun _ _ => trivial,next _ undef w' (by rw [put_defers]; exact hds) (hA.put (ds := a.defers) (Bool.and_eq_true_iff.1 hoko).1 undef) (hgo undef w' (Agr.refl _ _) hre)⟩
 obtain ⟨t1,L1,σ1,g1,g2,g3,g4⟩ := GS.norm (S := fun _ => false) (W := w.drew) hb t [] ρ ⟨htr,h _ rfl,by simp,by simp,fun _ _ => rfl,by simp⟩
 have e : (fun j => (Array.replicate ops.toArray.size false).getD j false) = fun _ => false := by
  funext j
  by_cases h1 : j < ops.length <;> simp [h1]
 refine key ops.toArray.size (Array.replicate ops.toArray.size false) ⟨tmps, ds⟩ ρ w.drew rfl (by simp) hAg ⟨t1, L1, σ1, by rw [e]; exact g1, g2, ?_⟩ ?_ ?_ (by simp)
 ·intro j hj
  have := congrFun e j
  rw [this] at hj; cases hj
 ·intro i hi h1; simp [hi] at h1
 ·intro x _; rfl
theorem WC_drawC {Q : Post} {w : World} (m : Nat) (t : Tr) (X : Nat → Bool) (hm : P.follows .mixedOrders = true) (hb0 : (befsOk ops m (befs ops m) && trOk P ops m (befs ops m) false t [] []) = true)
  (h : ∀ W,Dr w W → RT P X r ds ops (fun ρ' w' => VL P r ops.toArray Q (ops.drop m) ρ' ds w') false t ρ W) : WC P n r (.region id ops.toArray true) Q ρ ds w :=
 WC_drawB m t X (befs ops m) hm hb0 h
end
def KRt (A B : Prop) (_ : Tok (And A B)) : Prop := A ∧ B
@[simp ↓] theorem KR_tok (A B : Prop) : KR A B = KRt A B .mk := _root_.id rfl
theorem KR_mk {A B : Prop} {t : Tok (And A B)} (h1 : A) (h2 : B) : KRt A B t := ⟨h1,h2⟩
theorem KR_ext {w w' : World} {B : Prop} {S : Nat → Prop} {t : Tok (And (Agr S w w') B)} (h1 : Ext w w') (h2 : B) : KRt (Agr S w w') B t := ⟨h1.agr,h2⟩
theorem KR_same {w : World} {B : Prop} {S : Nat → Prop} {t : Tok (And (Agr S w w) B)} (h2 : B) : KRt (Agr S w w) B t := ⟨Agr.refl _ _,h2⟩
def RTt (P : Program) (X : Nat → Bool) (r : Option Nat) (ds : List Deferred) (ops : List Oper) (T : Env → World → Prop) (b : Bool) (t : Tr) (_ : Tok (PProd.mk ops (PProd.mk T t))) (σ : Env) (W : World) : Prop := RT P X r ds ops T b t σ W
def RFt (P : Program) (X : Nat → Bool) (r : Option Nat) (ds : List Deferred) (ops : List Oper) (K : Env → World → Prop) (l : List Oper) (i : Nat) (_ : Tok (PProd.mk ops (PProd.mk K (PProd.mk l i)))) (σ : Env) (W : World) : Prop := RF P X r ds ops K σ W (nthO l i)
def REt (P : Program) (X : Nat → Bool) (r : Option Nat) (ds : List Deferred) (ops : List Oper) (K : Env → World → Prop) (l : List Oper) (i : Nat) (_ : Tok (PProd.mk ops (PProd.mk K (PProd.mk l i)))) (σ : Env) (W : World) : Prop := RE P X r ds ops K σ W (nthO l i)
section
variable (P : Program) (X : Nat → Bool) (r : Option Nat) (ds : List Deferred) (ops : List Oper) (T K : Env → World → Prop) (l : List Oper) (o : Oper) (i : Nat) (σ : Env) (W : World)
@[simp ↓] theorem RT_tok (b : Bool) (t : Tr) : RT P X r ds ops T b t σ W = RTt P X r ds ops T b t .mk σ W := _root_.id rfl
@[simp ↓] theorem RTt_Z (k) : RTt P X r ds ops T false .Z k σ W = T σ W := _root_.id rfl
@[simp ↓] theorem RTt_F (b : Bool) (t : Tr) (k) : RTt P X r ds ops T b (.F i t) k σ W = RFt P X r ds ops (RT P X r ds ops T false t) ops i .mk σ W := by cases b <;> rfl
@[simp ↓] theorem RTt_E (t : Tr) (k) : RTt P X r ds ops T false (.E i t .Z) k σ W = REt P X r ds ops (RT P X r ds ops T false t) ops i .mk σ W := by
 apply propext; exact ⟨fun h => h.1,fun h => ⟨h,trivial⟩⟩
@[simp ↓] theorem RFt_succ (k) : RFt P X r ds ops K (o :: l) (i + 1) k σ W = RFt P X r ds ops K l i .mk σ W := _root_.id rfl
@[simp ↓] theorem REt_succ (k) : REt P X r ds ops K (o :: l) (i + 1) k σ W = REt P X r ds ops K l i .mk σ W := _root_.id rfl
@[simp ↓] theorem RFt_zero (k) : RFt P X r ds ops K (o :: l) 0 k σ W = GIt (gw ops.toArray σ o.guard) (xL X σ W o = true ∧ VO P r o (fun ρ'' ds'' w'' => (ds'' = ds ∧ w'' = W) ∧ K ρ'' W) (fun _ _ _ _ => False) σ ds W) (K (put σ o.dst undef) W) .mk := _root_.id rfl
@[simp ↓] theorem REt_zero (k) : REt P X r ds ops K (o :: l) 0 k σ W = GIt (gw ops.toArray σ o.guard) (VO P r o (fun ρ'' ds'' w'' => ds'' = ds ∧ KR (Agr (fun k => X k = false) W w'') (K ρ'' w'')) (fun _ _ _ _ => False) σ ds W) (K (put σ o.dst undef) W) .mk := _root_.id rfl
end
theorem RT_alt {P : Program} {X : Nat → Bool} {r : Option Nat} {ds : List Deferred} {ops : List Oper} {T : Env → World → Prop} {b : Bool} {i j : Nat} {t t' rest : Tr} {k : Tok (PProd.mk ops (PProd.mk T (Tr.E i t (.E j t' rest))))} {σ : Env} {W : World}
  (h1 : RT P X r ds ops T false (.E i t .Z) σ W) (h2 : RT P X r ds ops T false (.E j t' rest) σ W) : RTt P X r ds ops T b (.E i t (.E j t' rest)) k σ W := by
 cases b <;> exact ⟨h1.1,h2⟩
end Pk
namespace Pk
open Go
inductive Tl
 | Z
 | F (i : Nat) (t : Tl)
 | C (i : Nat) (t : Tl)
 | S (i : Nat) (t : Tl)
 | L (i : Nat) (t : Tl)
 | D (i : Nat) (t : Tl)
 | W (i : Nat) (t : Tl)
def RD (P : Program) (X : Nat → Bool) (r : Option Nat) (ds : List Deferred) (ops : List Oper) (A : Value → World → Prop) (σ : Env) (W : World) : Option Oper → Prop
 | none => False
 | some o => ∀ W',Agr (fun k => X k = false) W W' → GI (gw ops.toArray σ o.guard) (VO P r o (fun ρ'' ds'' w'' => ds'' = ds ∧ Ext W' w'' ∧ A (dv ρ'' o.dst) w'') (fun _ _ _ _ => False) σ ds W') (A undef W')
def RL (P : Program) (X Xc : Nat → Bool) (r : Option Nat) (ds : List Deferred) (ops : List Oper) (fs : Nat → Value → World → Prop) (T : Env → World → Prop) : Tl → Env → World → Prop
 | .Z,σ,W => T σ W
 | .F i t,σ,W => RF P Xc r ds ops (RL P X Xc r ds ops fs T t) σ W (nthO ops i)
 | .C i t,σ,W => RE P Xc r ds ops (RL P X Xc r ds ops fs T t) σ W (nthO ops i)
 | .S i t,σ,W => RE P (fun _ => true) r ds ops (RL P X Xc r ds ops fs T t) σ W (nthO ops i)
 | .L i t,σ,W => ∀ W',Ext W W' → RE P X r ds ops (RL P X Xc r ds ops fs T t) σ W' (nthO ops i)
 | .D i t,σ,W => RD P X r ds ops (fs i) σ W (nthO ops i) ∧ RL P X Xc r ds ops fs T t σ W
 | .W i t,σ,W => ∀ v W',Ext W W' → fs i v W' → RL P X Xc r ds ops fs T t (put σ (dstAt ops i) v) W'
def only (m : Nat) (bs : List (List Nat)) (L D : List Nat) (as : List Nat) (M : List Nat) : Bool :=
 (List.range m).all fun j => L.contains j || (D.contains j || (as.contains j || !((bsAt bs j).all fun k => L.contains k || M.contains k)))
def tlOk (P : Program) (ops : List Oper) (m : Nat) (bs : List (List Nat)) : Tl → List Nat → List Nat → Bool
 | .Z,L,D => D.isEmpty && (List.range m).all fun i => L.contains i
 | .F i t,L,D => nodeOk ops m bs i L && (!D.contains i && ((match nthO ops i with | none => false | some o => autoOp P o.op && o.dst.isSome) && tlOk P ops m bs t (i :: L) D))
 | .C i t,L,D => D.isEmpty && (nodeOk ops m bs i L && (only m bs L D [i] [] && tlOk P ops m bs t (i :: L) D))
 | .S i t,L,D => D.isEmpty && (nodeOk ops m bs i L && (only m bs L D [i] [] && ((List.range m).all (fun j => (bsAt bs i).contains j || (match nthO ops j with | none => false | some o => !isLd o.op)) && tlOk P ops m bs t (i :: L) D)))
 | .L i t,L,D => nodeOk ops m bs i L && (!D.contains i && (only m bs L D [i] D && tlOk P ops m bs t (i :: L) D))
 | .D i t,L,D => nodeOk ops m bs i L && (!D.contains i && ((dstAt ops i).isSome && tlOk P ops m bs t L (i :: D)))
 | .W i t,L,D => D.contains i && (only m bs L D [] (D.filter fun k => k != i) && tlOk P ops m bs t (i :: L) (D.filter fun k => k != i))
section
variable {P : Program} {X Xc : Nat → Bool} {n : Nat} {r : Option Nat} {id : Nat} {ops : List Oper} {m : Nat} {bs : List (List Nat)} {ds : List Deferred} {fs : Nat → Value → World → Prop} {T : Env → World → Prop} {ρ ρ' : Env}
theorem only_inv {L D as M : List Nat} (h : only m bs L D as M = true) {i : Nat} (hi : i < m) (hL : i ∉ L) (hD : i ∉ D) (hb : ∀ k ∈ bsAt bs i, k ∈ L ∨ k ∈ M) : i ∈ as := by
 have h1 := List.all_eq_true.1 h i (by simpa using hi)
 have h2 : ((bsAt bs i).all fun k => L.contains k || M.contains k) = true := List.all_eq_true.2 fun k hk => by
  rcases hb k hk with h | h <;> simp [h]
 rw [h2] at h1
 simpa [hL,hD] using h1
def FLT (P : Program) (X : Nat → Bool) (r : Option Nat) (ds : List Deferred) (ops : List Oper) (m : Nat) (bs : List (List Nat)) (fs : Nat → Value → World → Prop) (L : List Nat) (j : Nat) (σ : Env) (W : World) : Prop :=
 ∃ o, ops[j]? = some o ∧ (∀ k ∈ bsAt bs j, k ∈ L) ∧ (∀ t ∈ tmpsOf o, ∀ k, k < m → dstAt ops k = some t → k ∈ bsAt bs j) ∧ (∀ k b, o.guard = some (k, b) → k ∈ bsAt bs j) ∧
  ∃ Wo,Agr (fun k => X k = false) Wo W ∧ RD P X r ds ops (fs j) σ Wo (some o)
theorem FLT.keep {L L' : List Nat} {j : Nat} {σ : Env} {W W' : World} (h : FLT P X r ds ops m bs fs L j σ W) (hL : ∀ k ∈ L, k ∈ L') (hA : Agr (fun k => X k = false) W W') : FLT P X r ds ops m bs fs L' j σ W' := by
 obtain ⟨o,h1,h2,h3,h4,Wo,h5,h6⟩ := h
 exact ⟨o,h1,fun k hk => hL k (h2 k hk),h3,h4,Wo,h5.trans hA,h6⟩
theorem FLT.put {L : List Nat} {j : Nat} {σ : Env} {W : World} (h : FLT P X r ds ops m bs fs L j σ W) (hb : befsOk ops m bs = true) (hLm : ∀ k ∈ L, k < m) {i : Nat} (hi : i ∉ L) (him : i < m) {o' : Oper} (ho' : ops[i]? = some o') (v : Value) :
  FLT P X r ds ops m bs fs L j (Pk.put σ o'.dst v) W := by
 obtain ⟨o,h1,h2,h3,h4,Wo,h5,h6⟩ := h
 have hdi : dstAt ops i = o'.dst := by rw [dstAt_get,ho']; rfl
 have hs : ∀ t, o'.dst ≠ some t → (Pk.put σ o'.dst v) t = σ t := by
  intro t ht
  cases hd : o'.dst with
  | none => rfl
  | some d => have : t ≠ d := fun e => ht (by rw [hd,e]); simp [this]
 have hop : ∀ t ∈ tmpsOf o,σ t = (Pk.put σ o'.dst v) t := fun t ht => (hs t fun e => hi (h2 i (h3 t ht i him (by rw [hdi,e])))).symm
 have hgw : gw ops.toArray (Pk.put σ o'.dst v) o.guard = gw ops.toArray σ o.guard := by
  refine gw_env fun k b hg d hd => hs d fun e => ?_
  have hkL := h2 k (h4 k b hg)
  have : k = i := head_uniq hb (hLm k hkL) him hd (by rw [hdi,e])
  exact hi (this ▸ hkL)
 refine ⟨o,h1,h2,h3,h4,Wo,h5,fun W' hW' => ?_⟩
 have h7 := h6 W' hW'
 rw [hgw]
 cases hg : gw ops.toArray σ o.guard with
 | true =>
  rw [hg,GI_true] at h7
  rw [GI_true]
  exact VO_imp (VO_env (k := fun v ds'' w'' => ds'' = ds ∧ Ext W' w'' ∧ fs j v w'') hop h7) fun _ _ _ h => h.1
 | false => rw [hg,GI_false] at h7; rw [GI_false]; exact h7
structure GL (P : Program) (X Xc : Nat → Bool) (r : Option Nat) (ds : List Deferred) (ops : List Oper) (m : Nat) (bs : List (List Nat)) (fs : Nat → Value → World → Prop) (T : Env → World → Prop) (ρ ρ' : Env) (S : Nat → Bool) (W : World) (t : Tl) (L D : List Nat) (σ : Env) (Wg : World) : Prop where
 ok : tlOk P ops m bs t L D = true
 rt : RL P X Xc r ds ops fs T t σ Wg
 ext : Ext Wg W
 eq : (∀ i ∈ D,S i = false) → W = Wg
 sub : ∀ j,S j = true → j ∈ L ∨ j ∈ D
 lm : ∀ j ∈ L,j < m
 dl : ∀ j ∈ D,j < m ∧ j ∉ L ∧ (dstAt ops j).isSome = true
 fr : ∀ x,(∀ j ∈ L,dstAt ops j ≠ some x) → σ x = ρ x
 val : ∀ j ∈ L,S j = true → dv ρ' (dstAt ops j) = dv σ (dstAt ops j)
 prom : ∀ j ∈ L,S j = false → PROM P Xc r ds ops m bs L j σ W
 flt : ∀ j ∈ D,S j = false → FLT P X r ds ops m bs fs L j σ W
 fval : ∀ j ∈ D,S j = true → fs j (dv ρ' (dstAt ops j)) W
def stable (S : Nat → Bool) : Tl → Prop | .F .. => False | .D .. => False | .W i _ => S i = false | _ => True
theorem put_other {σ : Env} {d : Option Tmp} {v : Value} {x : Tmp} (hx : d ≠ some x) : (Pk.put σ d v) x = σ x := by
 cases hod : d with
 | none => rfl
 | some d' => have : x ≠ d' := fun e => hx (by rw [hod,e]); simp [this]
theorem dv_put_other (hb : befsOk ops m bs = true) {i j : Nat} (hi : i < m) (hj : j < m) (hne : j ≠ i) (σ : Env) (v : Value) : dv (Pk.put σ (dstAt ops i) v) (dstAt ops j) = dv σ (dstAt ops j) := by
 cases hdj : dstAt ops j with
 | none => rfl
 | some x =>
  simp only [dv_some]
  exact put_other fun e => hne (head_uniq hb hj hi hdj e)
theorem dv_put_self (i : Nat) (σ : Env) (v : Value) (h : (dstAt ops i).isSome = true) : dv (Pk.put σ (dstAt ops i) v) (dstAt ops i) = v := by
 obtain ⟨d,hd⟩ := Option.isSome_iff_exists.1 h
 rw [hd]; simp
theorem GL.norm {S : Nat → Bool} {W : World} (hb : befsOk ops m bs = true) : ∀ (t : Tl) (L D : List Nat) (σ : Env) (Wg : World), GL P X Xc r ds ops m bs fs T ρ ρ' S W t L D σ Wg →
  ∃ t' L' D' σ' Wg',GL P X Xc r ds ops m bs fs T ρ ρ' S W t' L' D' σ' Wg' ∧ stable S t'
 | .Z,L,D,σ,Wg,h => ⟨_,_,_,_,_,h,trivial⟩
 | .C ..,L,D,σ,Wg,h => ⟨_,_,_,_,_,h,trivial⟩
 | .S ..,L,D,σ,Wg,h => ⟨_,_,_,_,_,h,trivial⟩
 | .L ..,L,D,σ,Wg,h => ⟨_,_,_,_,_,h,trivial⟩
 | .W i t, L, D, σ, Wg, h => by
  cases hS : S i with
  | false => exact ⟨_,_,_,_,_,h,hS⟩
  | true =>
   have hok := h.ok
   unfold tlOk at hok
   simp only [Bool.and_eq_true,List.contains_iff_mem] at hok
   obtain ⟨hiD,-,hok'⟩ := hok
   obtain ⟨him,hiL,hsome⟩ := h.dl i hiD
   have hrt := h.rt
   unfold RL at hrt
   obtain ⟨o,ho⟩ : ∃ o,ops[i]? = some o := ⟨_,List.getElem?_eq_getElem (by have := (befsOk_bs hb).2; omega)⟩
   have hdi : dstAt ops i = o.dst := by rw [dstAt_get,ho]; rfl
   have hrt' := hrt (dv ρ' (dstAt ops i)) W h.ext (h.fval i hiD hS)
   have hD' : ∀ j,j ∈ D.filter (fun k => k != i) ↔ j ∈ D ∧ j ≠ i := by simp [List.mem_filter]
   refine GL.norm hb t (i :: L) (D.filter fun k => k != i) _ W ⟨hok', hrt', Ext.refl W, fun _ => rfl, ?_, ?_, ?_, ?_, ?_, ?_, ?_, ?_⟩
   ·intro j hj
    by_cases hji : j = i
    ·exact .inl (by simp [hji])
    ·rcases h.sub j hj with h1 | h1
     ·exact .inl (by simp [h1])
     ·exact .inr ((hD' j).2 ⟨h1,hji⟩)
   ·intro j hj
    rcases List.mem_cons.1 hj with rfl | hj
    ·exact him
    ·exact h.lm j hj
   ·intro j hj
    obtain ⟨h1,h2⟩ := (hD' j).1 hj
    obtain ⟨h3,h4,h5⟩ := h.dl j h1
    exact ⟨h3,by simp [h2,h4],h5⟩
   ·intro x hx
    rw [put_other fun e => hx i (by simp) e]
    exact h.fr x fun j hj => hx j (by simp [hj])
   ·intro j hj hSj
    rcases List.mem_cons.1 hj with rfl | hj
    ·rw [dv_put_self _ _ _ hsome]
    ·rw [dv_put_other hb him (h.lm j hj) (fun e => hiL (e ▸ hj))]
     exact h.val j hj hSj
   ·intro j hj hSj
    rcases List.mem_cons.1 hj with rfl | hj
    ·rw [hS] at hSj; cases hSj
    ·rw [hdi]
     exact ((h.prom j hj hSj).put hb (h.lm j hj) hj h.lm hiL him ho _).keep (fun k hk => List.mem_cons_of_mem _ hk) (Agr.refl _ _)
   ·intro j hj hSj
    rw [hdi]
    exact ((h.flt j ((hD' j).1 hj).1 hSj).put hb h.lm hiL him ho _).keep (fun k hk => List.mem_cons_of_mem _ hk) (Agr.refl _ _)
   ·intro j hj hSj
    exact h.fval j ((hD' j).1 hj).1 hSj
 | .D i t, L, D, σ, Wg, h => by
  have hok := h.ok
  unfold tlOk at hok
  simp only [Bool.and_eq_true,Bool.not_eq_true'] at hok
  obtain ⟨hn,hiD,hsome,hok'⟩ := hok
  have hiD : i ∉ D := fun hc => by rw [List.contains_iff_mem.2 hc] at hiD; cases hiD
  obtain ⟨him,hiL,hbL,o,ho,hsl⟩ := nodeOk_inv hn
  have hrt := h.rt
  unfold RL at hrt
  rw [nthO_eq,ho] at hrt
  obtain ⟨o2,ho2,-,hb3,-,hb5,-⟩ := befsOk_head hb him
  rw [ho] at ho2; cases ho2
  have hSi : S i = false := by
   cases hx : S i with
   | false => rfl
   | true => rcases h.sub i hx with h1 | h1
             ·exact (hiL h1).elim
             ·exact (hiD h1).elim
  refine GL.norm hb t L (i :: D) _ Wg ⟨hok', hrt.2, h.ext, fun hf => h.eq fun j hj => hf j (by simp [hj]), ?_, h.lm, ?_, h.fr, h.val, h.prom, ?_, ?_⟩
  ·intro j hj
   rcases h.sub j hj with h1 | h1
   ·exact .inl h1
   ·exact .inr (by simp [h1])
  ·intro j hj
   rcases List.mem_cons.1 hj with rfl | hj
   ·exact ⟨him,hiL,hsome⟩
   ·exact h.dl j hj
  ·intro j hj hSj
   rcases List.mem_cons.1 hj with rfl | hj
   ·exact ⟨o,ho,hbL,hsl,hb5,Wg,h.ext.agr,hrt.1⟩
   ·exact h.flt j hj hSj
  ·intro j hj hSj
   rcases List.mem_cons.1 hj with rfl | hj
   ·rw [hSi] at hSj; cases hSj
   ·exact h.fval j hj hSj
 | .F i t, L, D, σ, Wg, h => by
  have hok := h.ok
  unfold tlOk at hok
  simp only [Bool.and_eq_true,Bool.not_eq_true'] at hok
  obtain ⟨hn,hiD,ha,hok'⟩ := hok
  have hiD : i ∉ D := fun hc => by rw [List.contains_iff_mem.2 hc] at hiD; cases hiD
  obtain ⟨him,hiL,hbL,o,ho,hsl⟩ := nodeOk_inv hn
  rw [nthO_eq,ho] at ha
  simp only [Bool.and_eq_true] at ha
  have hrt := h.rt
  unfold RL at hrt
  rw [nthO_eq,ho] at hrt
  have hdi : dstAt ops i = o.dst := by rw [dstAt_get,ho]; rfl
  obtain ⟨o2,ho2,-,hb3,-,hb5,-⟩ := befsOk_head hb him
  rw [ho] at ho2; cases ho2
  obtain ⟨d,hd⟩ := Option.isSome_iff_exists.1 ha.2
  have hSi : S i = false := by
   cases hx : S i with
   | false => rfl
   | true => rcases h.sub i hx with h1 | h1
             ·exact (hiL h1).elim
             ·exact (hiD h1).elim
  have key : ∃ v, RL P X Xc r ds ops fs T t (Pk.put σ o.dst v) Wg ∧ GI (gw ops.toArray σ o.guard) (xL Xc σ Wg o = true ∧ VO P r o (fun ρ'' ds'' _ => ds'' = ds ∧ dv ρ'' o.dst = v) (fun _ _ _ _ => False) σ ds Wg) (v = undef) := by
   unfold RF at hrt
   simp only at hrt
   cases hg : gw ops.toArray σ o.guard with
   | true =>
    rw [hg,GI_true] at hrt
    obtain ⟨v,w',hK,hK'⟩ := VO_det (auto_plain ha.1) hrt.2
    refine ⟨v,hK.2,?_⟩
    rw [GI_true]
    refine ⟨hrt.1,hK' _ _ ⟨hK.1.1,?_⟩⟩
    rw [hd]; simp
   | false =>
    rw [hg,GI_false] at hrt
    exact ⟨undef,hrt,by rw [GI_false]⟩
  obtain ⟨v,hrt',hv⟩ := key
  have hs : ∀ x,o.dst ≠ some x → (Pk.put σ o.dst v) x = σ x := fun x hx => put_other hx
  have hop : ∀ x ∈ tmpsOf o, σ x = (Pk.put σ o.dst v) x := fun x hx => (hs x fun e => by
   have := hsl x hx i him (by rw [hdi,e])
   have := (hb3 i this).1
   omega).symm
  have hgw : gw ops.toArray (Pk.put σ o.dst v) o.guard = gw ops.toArray σ o.guard := by
   refine gw_env fun k b hg x hx => hs x fun e => ?_
   have hkb := hb5 k b hg
   have hk : k = i := head_uniq hb (h.lm k (hbL k hkb)) him hx (by rw [hdi,e])
   exact hiL (hk ▸ hbL k hkb)
  refine GL.norm hb t (i :: L) D (Pk.put σ o.dst v) Wg ⟨hok', hrt', h.ext, h.eq, ?_, ?_, ?_, ?_, ?_, ?_, ?_, h.fval⟩
  ·intro j hj
   rcases h.sub j hj with h1 | h1
   ·exact .inl (by simp [h1])
   ·exact .inr h1
  ·intro j hj
   rcases List.mem_cons.1 hj with rfl | hj
   ·exact him
   ·exact h.lm j hj
  ·intro j hj
   obtain ⟨h3,h4,h5⟩ := h.dl j hj
   exact ⟨h3,by simp [h4]; exact fun e => hiD (e ▸ hj),h5⟩
  ·intro x hx
   rw [hs x fun e => hx i (by simp) (by rw [hdi,e])]
   exact h.fr x fun j hj => hx j (by simp [hj])
  ·intro j hj hSj
   rcases List.mem_cons.1 hj with rfl | hj
   ·rw [hSi] at hSj; cases hSj
   ·rw [← hdi,dv_put_other hb him (h.lm j hj) (fun e => hiL (e ▸ hj))]
    exact h.val j hj hSj
  ·intro j hj hSj
   rcases List.mem_cons.1 hj with rfl | hj
   ·refine ⟨o,ho,ha.1,ha.2,fun k hk => List.mem_cons_of_mem _ (hbL k hk),hsl,hb5,Wg,h.ext.agr,?_⟩
    have hdv : dv (Pk.put σ o.dst v) o.dst = v := by rw [hd]; simp
    rw [hgw,hdv]
    cases hg : gw ops.toArray σ o.guard with
    | true =>
     rw [hg,GI_true] at hv
     rw [GI_true]
     refine ⟨by rw [← xL_env hop _]; exact hv.1,?_⟩
     have := VO_env (k := fun u ds'' _ => ds'' = ds ∧ u = v) hop hv.2
     obtain ⟨u,w',hK,hK'⟩ := VO_det (auto_plain ha.1) this
     exact hK' _ _ hK.1
    | false => rw [hg,GI_false] at hv; rw [GI_false]; exact hv
   ·exact ((h.prom j hj hSj).put hb (h.lm j hj) hj h.lm hiL him ho v).keep (fun k hk => List.mem_cons_of_mem _ hk) (Agr.refl _ _)
  ·intro j hj hSj
   exact ((h.flt j hj hSj).put hb h.lm hiL him ho v).keep (fun k hk => List.mem_cons_of_mem _ hk) (Agr.refl _ _)
theorem WC_drawL {Q : Post} {w : World} (m : Nat) (t : Tl) (X Xc : Nat → Bool) (fs : Nat → Value → World → Prop) (hm : P.follows .mixedOrders = true) (hb0 : (befsOk ops m (befs ops m) && tlOk P ops m (befs ops m) t [] []) = true)
  (hX : ∀ k,Xc k = false → X k = false) (hstab : ∀ i v a b,fs i v a → Agr (fun k => X k = false) a b → fs i v b)
  (h : ∀ W,Dr w W → RL P X Xc r ds ops fs (fun ρ' w' => VL P r ops.toArray Q (ops.drop m) ρ' ds w') t ρ W) : WC P n r (.region id ops.toArray true) Q ρ ds w := by
 intro hok tmps hAg
 obtain ⟨hb,htr⟩ := Bool.and_eq_true_iff.1 hb0
 generalize befs ops m = bs at hb htr
 have hok' : ops.all (okOp n) = true := by simpa [okC] using hok
 obtain ⟨hbl,hml⟩ := befsOk_bs hb
 refine wpIn_region_any hm ?_
 let INV : Array Bool → Env → World → Prop := fun listed ρ' w' => ∃ t L D σ Wg,GL P X Xc r ds ops m bs fs (fun ρ' w' => VL P r ops.toArray Q (ops.drop m) ρ' ds w') ρ ρ' (fun j => listed.getD j false) w' t L D σ Wg ∧ stable (fun j => listed.getD j false) t
 have hlow : ∀ (listed : Array Bool) (ρ' : Env) (w' : World), INV listed ρ' w' → ∀ j, m ≤ j → listed.getD j false = false := by
  rintro listed ρ' w' ⟨t,L,D,σ,Wg,hG,-⟩ j hj
  cases hx : listed.getD j false with
  | false => rfl
  | true =>
   rcases hG.sub j hx with h1 | h1
   ·have := hG.lm j h1; omega
   ·have := (hG.dl j h1).1; omega
 have final : ∀ (listed : Array Bool) (a : Act) (ρ' : Env) (w' : World), a.defers = ds → INV listed ρ' w' →
   (∀ x,(∀ i,i < m → listed.getD i false = true → dstAt ops i ≠ some x) → ρ' x = ρ x) → (∀ i,i < m → listed.getD i false = true) →
   VL P r ops.toArray Q (ops.drop m) ρ' a.defers w' := by
  rintro listed a ρ' w' hds ⟨t,L,D,σ,Wg,hG,hF⟩ hfr hall
  have hZ : t = .Z := by
   have hok := hG.ok
   cases t with
   | Z => rfl
   | F i t => exact hF.elim
   | D i t => exact hF.elim
   | C i t =>
    unfold tlOk at hok
    simp only [Bool.and_eq_true,List.isEmpty_iff] at hok
    obtain ⟨h1,h2,-⟩ := nodeOk_inv hok.2.1
    rcases hG.sub i (hall i h1) with h3 | h3
    ·exact (h2 h3).elim
    ·rw [hok.1] at h3; cases h3
   | S i t =>
    unfold tlOk at hok
    simp only [Bool.and_eq_true,List.isEmpty_iff] at hok
    obtain ⟨h1,h2,-⟩ := nodeOk_inv hok.2.1
    rcases hG.sub i (hall i h1) with h3 | h3
    ·exact (h2 h3).elim
    ·rw [hok.1] at h3; cases h3
   | L i t =>
    unfold tlOk at hok
    simp only [Bool.and_eq_true,Bool.not_eq_true'] at hok
    obtain ⟨h1,h2,-⟩ := nodeOk_inv hok.1
    rcases hG.sub i (hall i h1) with h3 | h3
    ·exact (h2 h3).elim
    ·have := hok.2.1; rw [List.contains_iff_mem.2 h3] at this; cases this
   | W i t =>
    unfold tlOk at hok
    simp only [Bool.and_eq_true,List.contains_iff_mem] at hok
    have h1 := hall i (hG.dl i hok.1).1
    have h2 : listed.getD i false = false := hF
    rw [h1] at h2; cases h2
  subst hZ
  have hok := hG.ok
  unfold tlOk at hok
  simp only [Bool.and_eq_true,List.isEmpty_iff] at hok
  have hW := hG.eq (by rw [hok.1]; simp)
  have hσ : σ = ρ' := by
   funext x
   by_cases hx : ∃ j, j < m ∧ dstAt ops j = some x
   ·obtain ⟨j,hj,hd⟩ := hx
    have hjL : j ∈ L := by simpa using List.all_eq_true.1 hok.2 j (by simpa using hj)
    have := hG.val j hjL (hall j hj)
    rw [hd] at this
    simpa using this.symm
   ·have hx' : ∀ j,j < m → dstAt ops j ≠ some x := fun j hj e => hx ⟨j,hj,e⟩
    rw [hG.fr x fun j hj => hx' j (hG.lm j hj),hfr x fun j hj _ => hx' j hj]
  have := hG.rt
  rw [hσ,← hW] at this
  unfold RL at this
  rw [hds]; exact this
 have key : ∀ (fuel : Nat) (listed : Array Bool) (a : Act) (ρ' : Env) (w' : World), a.defers = ds → listed.size = ops.length → Ag n a.tmps ρ' → INV listed ρ' w' →
   (∀ i,i < ops.length → listed.getD i false = true → ∀ o,ops[i]? = some o → ∀ e ∈ o.after,Region.binds .any e = true → listed.getD e.on false = true) →
   (∀ x,(∀ i,i < m → listed.getD i false = true → dstAt ops i ≠ some x) → ρ' x = ρ x) →
   ops.length ≤ fuel + listed.toList.count true →
   wpAnyIn (FR r) 0 P .any ops.toArray (fun e a w' => ∃ ρ',Ag n a.tmps ρ' ∧ Q e ρ' a.defers w') fuel listed a w' := by
  intro fuel
  induction fuel with
  | zero =>
   intro listed a ρ' w' hds hs hA hG hcl hfr hf
   have hhd := hlow listed ρ' w' hG
   have hall := all_listed (listed := listed) (by omega)
   have hml' : m = ops.length := by
    rcases Nat.lt_or_ge m ops.length with h1 | h1
    ·have := hhd m (Nat.le_refl _)
     rw [hall m (by omega)] at this; cases this
    ·omega
   refine any_tail hb hok' 0 m listed a ρ' w' (Nat.le_refl _) hml (by omega) hs ?_ hA (final listed a ρ' w' hds hG hfr fun i hi => hall i (by omega))
   intro i
   by_cases h1 : i < ops.length
   ·rw [hall i (by omega)]; simp; omega
   ·have : decide (i < m) = false := by simp; omega
    rw [this]; simp [hs,h1]
  | succ fuel ih =>
   intro listed a ρ' w' hds hs hA hG hcl hfr hf
   have hhd := hlow listed ρ' w' hG
   by_cases hfull : ∀ i, i < m → listed.getD i false = true
   ·refine any_tail hb hok' (fuel + 1) m listed a ρ' w' (Nat.le_refl _) hml ?_ hs ?_ hA (final listed a ρ' w' hds hG hfr hfull)
    ·have hc : listed.toList.count true ≤ m := by
      have hcc : ∀ (l : List Bool) (k : Nat), (∀ j, k ≤ j → l[j]?.getD false = false) → l.count true ≤ k := by
       intro l
       induction l with
       | nil => intro k _; simp
       | cons b l ihl =>
        intro k hkk
        cases k with
        | zero =>
         have h0 := hkk 0 (Nat.le_refl _)
         simp at h0; subst h0
         have := ihl 0 (fun j hj => by have := hkk (j + 1) (by omega); simpa using this)
         simp at this ⊢; exact this
        | succ k =>
         have := ihl k (fun j hj => by have := hkk (j + 1) (by omega); simpa using this)
         rw [List.count_cons]; split <;> omega
      refine hcc _ _ fun j hj => ?_
      have := hhd j hj
      simpa [Array.getD_eq_getD_getElem?] using this
     omega
    ·intro i
     by_cases h1 : i < m
     ·rw [hfull i h1]; simp [h1]
     ·rw [hhd i (by omega)]; simp [h1]
   ·refine ⟨?_, ?_⟩
    ·intro hr
     exfalso
     obtain ⟨i, hi, hmin⟩ := exists_least (p := fun i => i < m ∧ listed.getD i false = false) (by
      simp only [Classical.not_forall] at hfull
      obtain ⟨i,h1,h2⟩ := hfull
      exact ⟨i,h1,by simpa using h2⟩)
     have hil : i < ops.length := by omega
     have : i ∈ Region.ready .any ops.toArray listed := by
      refine mem_ready.2 ⟨?_, ops[i], by simp [hil], ?_⟩
      ·have := hi.2
       have his : i < listed.size := by omega
       simpa [his] using this
      ·intro e he hbe
       have hlt := befsOk_edge hb (List.getElem?_eq_getElem hil) e he hbe
       cases hx : listed.getD e.on false with
       | true => rfl
       | false => have := hmin e.on ⟨by omega,hx⟩; omega
     rw [hr] at this; cases this
    ·intro i hi
     obtain ⟨hi1,o,ho,hi2⟩ := mem_ready.1 hi
     have hil : i < ops.length := by
      have := (Array.getElem?_eq_some_iff.1 ho).1; simpa using this
     have his : i < listed.size := by omega
     have ho' : ops[i]? = some o := by simpa using ho
     have hif : listed.getD i false = false := by simpa [his] using hi1
     have him : i < m := by
      rcases Nat.lt_or_ge i m with h1 | h1
      ·exact h1
      ·exfalso
       refine hfull fun k hk => ?_
       obtain ⟨e,he,hbe,hke⟩ := befsOk_tail hb ho' h1 k (by omega)
       have h2 := hi2 e he hbe
       rcases hke with hke | ⟨hke1, hke2⟩ | ⟨hke1, hke2⟩
       ·rw [← hke]; exact h2
       ·have hel : e.on < ops.length := by omega
        exact bs_listed hb hcl e.on ops[e.on] hke1 (List.getElem?_eq_getElem hel) (hcl e.on hel h2 _ (List.getElem?_eq_getElem hel)) k hke2
       ·rw [hhd e.on hke1] at h2; cases h2
     have hbsl := bs_listed hb hcl i o him ho' hi2
     obtain ⟨o'',ho'',hsome,hb3,hb4,hb5,hb6⟩ := befsOk_head hb him
     rw [ho'] at ho''; cases ho''
     have hdi : dstAt ops i = o.dst := by rw [dstAt_get,ho']; rfl
     obtain ⟨t,L,D,σ,Wg,hG,hF⟩ := hG
     have hokA : ops.toArray.toList.all (okOp n) = true := by simpa using hok'
     have hoko : okOp n o = true := List.all_eq_true.1 hok' o (List.mem_of_getElem? ho')
     have hcl' : ∀ k, k < ops.length → (listed.setIfInBounds i true).getD k false = true → ∀ ok, ops[k]? = some ok → ∀ e ∈ ok.after, Region.binds .any e = true → (listed.setIfInBounds i true).getD e.on false = true := by
      intro k hkl hkt ok hok2 e he hbe
      rw [listed_set his] at hkt ⊢
      by_cases hki : k = i
      ·subst hki
       rw [ho'] at hok2; cases hok2
       rw [hi2 e he hbe]; simp
      ·have : listed.getD k false = true := by simpa [hki] using hkt
       rw [hcl k hkl this ok hok2 e he hbe]; simp
     have hcnt := count_listed his hif
     have hfr' : ∀ v x, (∀ k, k < m → (listed.setIfInBounds i true).getD k false = true → dstAt ops k ≠ some x) → (Pk.put ρ' o.dst v) x = ρ x := by
      intro v x hx
      rw [put_other fun e => hx i him (by rw [listed_set his]; simp) (by rw [hdi,e])]
      exact hfr x fun k hkm hkl => hx k hkm (by rw [listed_set his,hkl]; simp)
     have next : ∀ (a' : Act) (v : Value) (w'' : World), a'.defers = ds → Ag n a'.tmps (Pk.put ρ' o.dst v) →
       (∃ t L D σ Wg,GL P X Xc r ds ops m bs fs (fun ρ' w' => VL P r ops.toArray Q (ops.drop m) ρ' ds w') ρ (Pk.put ρ' o.dst v) (fun j => (listed.setIfInBounds i true).getD j false) w'' t L D σ Wg) →
       wpAnyIn (FR r) 0 P .any ops.toArray (fun e a w' => ∃ ρ',Ag n a.tmps ρ' ∧ Q e ρ' a.defers w') fuel (listed.setIfInBounds i true) a' w'' := by
      rintro a' v w'' hds' hA' ⟨t',L',D',σ',Wg',hG'⟩
      exact ih _ a' (Pk.put ρ' o.dst v) w'' hds' (by simpa using hs) hA' (GL.norm hb _ _ _ _ _ hG') hcl' (hfr' v) (by rw [hcnt]; omega)
     have hset : ∀ j,(listed.setIfInBounds i true).getD j false = (decide (j = i) || listed.getD j false) := fun j => listed_set his
     have ha : a = ⟨a.tmps,ds⟩ := by cases a; simp_all
     have hvv : ∀ (v : Value) j,j < m → j ≠ i → dv (Pk.put ρ' o.dst v) (dstAt ops j) = dv ρ' (dstAt ops j) := fun v j hj hne => by rw [← hdi]; exact dv_put_other hb him hj hne ρ' v
     have hslotL : ∀ x, (∀ k, k < m → dstAt ops k = some x → k ∈ bsAt bs i) → (∀ k ∈ bsAt bs i, k ∈ L) → σ x = ρ' x := by
      intro x hx hbL
      by_cases hk : ∃ k, k < m ∧ dstAt ops k = some x
      ·obtain ⟨k,hkm,hdk⟩ := hk
       have := hG.val k (hbL k (hx k hkm hdk)) (hbsl k (hx k hkm hdk))
       rw [hdk] at this
       simpa using this.symm
      ·have hk' : ∀ k,k < m → dstAt ops k ≠ some x := fun k hkm e => hk ⟨k,hkm,e⟩
       rw [hG.fr x fun k hkL => hk' k (hG.lm k hkL),hfr x fun k hkm _ => hk' k hkm]
     have hgwL : (∀ k ∈ bsAt bs i, k ∈ L) → gw ops.toArray σ o.guard = gw ops.toArray ρ' o.guard := by
      intro hbL
      refine gw_env fun k b hg x hx => hslotL x (fun k' hk'm hk'd => ?_) hbL
      have hkb := hb5 k b hg
      have hkm : k < m := by have := (hb3 k hkb).1; omega
      have := head_uniq hb hk'm hkm hk'd hx
      exact this ▸ hkb
     unfold wpOpIn
     simp only [ho]
     rw [gw_eq hA hokA o]
     by_cases hiL : i ∈ L
     ·obtain ⟨o2,ho2,hauto,hds2,hpb,hps,hpg,Wo,hAg2,hGI⟩ := hG.prom i hiL hif
      rw [ho'] at ho2; cases ho2
      have hop : ∀ x ∈ tmpsOf o,σ x = ρ' x := fun x hx => hslotL x (hps x hx) hpb
      have hgw := hgwL hpb
      obtain ⟨d,hod⟩ := Option.isSome_iff_exists.1 hds2
      have hnew : ∀ v, v = dv σ o.dst → GL P X Xc r ds ops m bs fs (fun ρ' w' => VL P r ops.toArray Q (ops.drop m) ρ' ds w') ρ (Pk.put ρ' o.dst v) (fun j => (listed.setIfInBounds i true).getD j false) w' t L D σ Wg := by
       intro v hv
       have hDi : ∀ j ∈ D,j ≠ i := fun j hj e => (hG.dl j hj).2.1 (e ▸ hiL)
       have hSD : ∀ j ∈ D,(listed.setIfInBounds i true).getD j false = listed.getD j false := fun j hj => by rw [hset]; simp [hDi j hj]
       refine ⟨hG.ok, hG.rt, hG.ext, fun hh => hG.eq fun j hj => by rw [← hSD j hj]; exact hh j hj, ?_, hG.lm, hG.dl, hG.fr, ?_, ?_, ?_, ?_⟩
       ·intro j hj
        simp only [hset] at hj
        by_cases hji : j = i
        ·exact .inl (hji ▸ hiL)
        ·exact hG.sub j (by simpa [hji] using hj)
       ·intro j hj hSj
        simp only [hset] at hSj
        by_cases hji : j = i
        ·subst hji
         rw [hdi,hv,hod]; simp
        ·rw [hvv v j (hG.lm j hj) hji]
         exact hG.val j hj (by simpa [hji] using hSj)
       ·intro j hj hSj
        simp only [hset] at hSj
        by_cases hji : j = i
        ·simp [hji] at hSj
        ·exact hG.prom j hj (by simpa [hji] using hSj)
       ·intro j hj hSj
        exact hG.flt j hj (by rw [← hSD j hj]; exact hSj)
       ·intro j hj hSj
        rw [hvv v j (hG.dl j hj).1 (hDi j hj)]
        exact hG.fval j hj (by rw [← hSD j hj]; exact hSj)
      rw [← hgw]
      cases hg : gw ops.toArray σ o.guard with
      | true =>
       rw [hg,GI_true] at hGI
       simp only [if_true]
       have h1 := VO_went' (k := fun v ds'' => ds'' = ds ∧ v = dv σ o.dst) hauto hGI.1 hAg2 hGI.2
       have h2 := VO_env (k := fun v ds'' w'' => w'' = w' ∧ ds'' = ds ∧ v = dv σ o.dst) (ρ' := ρ') hop h1
       rw [ha]
       refine VO_sound (K := fun ρ'' ds'' w'' => (w'' = w' ∧ ds'' = ds ∧ dv ρ'' o.dst = dv σ o.dst) ∧ ∃ v,ρ'' = put ρ' o.dst v) (Q := fun _ _ _ _ => False) hA hoko ?_ (fun _ _ _ _ _ h => h.elim) h2
       rintro a' ρ'' w'' hA' ⟨⟨rfl,hds',hv⟩,v,rfl⟩
       refine next a' v w'' hds' hA' ⟨t,L,D,σ,Wg,hnew v ?_⟩
       rw [← hv,hod]; simp
      | false =>
       rw [hg,GI_false] at hGI
       simp only [Bool.false_eq_true,if_false]
       exact ⟨fun _ _ => trivial,next _ undef w' (by rw [put_defers]; exact hds) (hA.put (ds := a.defers) (Bool.and_eq_true_iff.1 hoko).1 undef) ⟨t,L,D,σ,Wg,hnew undef hGI.symm⟩⟩
     ·by_cases hiD : i ∈ D
      ·-- a float
       obtain ⟨o2,ho2,hpb,hps,hpg,Wo,hAg2,hRD⟩ := hG.flt i hiD hif
       rw [ho'] at ho2; cases ho2
       have hop : ∀ x ∈ tmpsOf o,σ x = ρ' x := fun x hx => hslotL x (hps x hx) hpb
       have hgw := hgwL hpb
       have hsm := (hG.dl i hiD).2.2
       have hnew : ∀ v w'', Ext w' w'' → fs i v w'' → GL P X Xc r ds ops m bs fs (fun ρ' w' => VL P r ops.toArray Q (ops.drop m) ρ' ds w') ρ (Pk.put ρ' o.dst v) (fun j => (listed.setIfInBounds i true).getD j false) w'' t L D σ Wg := by
        intro v w'' hE hv
        have hLi : ∀ j ∈ L,j ≠ i := fun j hj e => hiL (e ▸ hj)
        have hSL : ∀ j ∈ L,(listed.setIfInBounds i true).getD j false = listed.getD j false := fun j hj => by rw [hset]; simp [hLi j hj]
        refine ⟨hG.ok, hG.rt, hG.ext.trans hE, fun hh => ?_, ?_, hG.lm, hG.dl, hG.fr, ?_, ?_, ?_, ?_⟩
        ·have := hh i hiD
         simp only [hset] at this
         simp at this
        ·intro j hj
         simp only [hset] at hj
         by_cases hji : j = i
         ·exact .inr (hji ▸ hiD)
         ·exact hG.sub j (by simpa [hji] using hj)
        ·intro j hj hSj
         rw [hvv v j (hG.lm j hj) (hLi j hj)]
         exact hG.val j hj (by rw [← hSL j hj]; exact hSj)
        ·intro j hj hSj
         exact (hG.prom j hj (by rw [← hSL j hj]; exact hSj)).keep (fun _ h => h) hE.agr
        ·intro j hj hSj
         simp only [hset] at hSj
         by_cases hji : j = i
         ·simp [hji] at hSj
         ·exact (hG.flt j hj (by simpa [hji] using hSj)).keep (fun _ h => h) hE.agr
        ·intro j hj hSj
         simp only [hset] at hSj
         by_cases hji : j = i
         ·subst hji
          rw [← hdi,dv_put_self _ _ _ hsm]; exact hv
         ·rw [hvv v j (hG.dl j hj).1 hji]
          exact hstab _ _ _ _ (hG.fval j hj (by simpa [hji] using hSj)) hE.agr
       have hv := hRD w' hAg2
       rw [← hgw]
       cases hg : gw ops.toArray σ o.guard with
       | true =>
        rw [hg,GI_true] at hv
        simp only [if_true]
        have h2 := VO_env (k := fun v ds'' w'' => ds'' = ds ∧ Ext w' w'' ∧ fs i v w'') (ρ' := ρ') hop hv
        rw [ha]
        refine VO_sound (K := fun ρ'' ds'' w'' => (ds'' = ds ∧ Ext w' w'' ∧ fs i (dv ρ'' o.dst) w'') ∧ ∃ v,ρ'' = put ρ' o.dst v) (Q := fun _ _ _ _ => False) hA hoko ?_ (fun _ _ _ _ _ h => h.elim) h2
        rintro a' ρ'' w'' hA' ⟨⟨hds',hE,hv⟩,v,rfl⟩
        refine next a' v w'' hds' hA' ⟨t,L,D,σ,Wg,hnew v w'' hE ?_⟩
        rw [← hdi,dv_put_self _ _ _ hsm] at hv; exact hv
       | false =>
        rw [hg,GI_false] at hv
        simp only [Bool.false_eq_true,if_false]
        exact ⟨fun _ _ => trivial,next _ undef w' (by rw [put_defers]; exact hds) (hA.put (ds := a.defers) (Bool.and_eq_true_iff.1 hoko).1 undef) ⟨t,L,D,σ,Wg,hnew undef w' (Ext.refl _) hv⟩⟩
      ·-- an effect
       have hbLD : ∀ k ∈ bsAt bs i,k ∈ L ∨ k ∈ D := fun k hk => hG.sub k (hbsl k hk)
       have pick : ∃ t' Y, ((∀ k, Xc k = false → Y k = false) ∨ ∀ j, j < m → j ∉ bsAt bs i → ∀ o, ops[j]? = some o → isLd o.op = false) ∧ (∀ j ∈ D, Y = X) ∧ RE P Y r ds ops (RL P X Xc r ds ops fs (fun ρ' w' => VL P r ops.toArray Q (ops.drop m) ρ' ds w') t') σ w' (nthO ops i) ∧ nodeOk ops m bs i L = true ∧ tlOk P ops m bs t' (i :: L) D = true := by
        have hok := hG.ok
        have hrt := hG.rt
        cases t with
        | Z =>
         unfold tlOk at hok
         simp only [Bool.and_eq_true] at hok
         exact (hiL (by simpa using List.all_eq_true.1 hok.2 i (by simpa using him))).elim
        | F k t => exact hF.elim
        | D k t => exact hF.elim
        | C k t =>
         unfold tlOk at hok
         simp only [Bool.and_eq_true,List.isEmpty_iff] at hok
         obtain ⟨hD0,h1,h2,h3⟩ := hok
         have hik := only_inv h2 him hiL hiD (fun k hk => (hbLD k hk).imp_right fun hx => by rw [hD0] at hx; exact hx)
         rw [List.mem_singleton] at hik
         subst hik
         unfold RL at hrt
         have hW := hG.eq (by rw [hD0]; simp)
         rw [hW]
         exact ⟨t,Xc,.inl fun _ h => h,fun j hj => (by rw [hD0] at hj; cases hj),hrt,h1,h3⟩
        | S k t =>
         unfold tlOk at hok
         simp only [Bool.and_eq_true,List.isEmpty_iff] at hok
         obtain ⟨hD0,h1,h2,h4,h3⟩ := hok
         have hik := only_inv h2 him hiL hiD (fun k hk => (hbLD k hk).imp_right fun hx => by rw [hD0] at hx; exact hx)
         rw [List.mem_singleton] at hik
         subst hik
         unfold RL at hrt
         have hW := hG.eq (by rw [hD0]; simp)
         rw [hW]
         refine ⟨t,fun _ => true,.inr fun j hj hjb o' hjo => ?_,fun j hj => (by rw [hD0] at hj; cases hj),hrt,h1,h3⟩
         have h5 := List.all_eq_true.1 h4 j (by simpa using hj)
         rw [nthO_eq,hjo] at h5
         simpa [hjb] using h5
        | L k t =>
         unfold tlOk at hok
         simp only [Bool.and_eq_true] at hok
         obtain ⟨h1,-,h2,h3⟩ := hok
         have hik := only_inv h2 him hiL hiD hbLD
         rw [List.mem_singleton] at hik
         subst hik
         unfold RL at hrt
         exact ⟨t,X,.inl hX,fun _ _ => rfl,hrt w' hG.ext,h1,h3⟩
        | W k t =>
         unfold tlOk at hok
         simp only [Bool.and_eq_true] at hok
         have hSk : listed.getD k false = false := hF
         have := only_inv hok.2.1 him hiL hiD (fun j hj => (hbLD j hj).imp_right fun hx => by
          rw [List.mem_filter]
          refine ⟨hx,?_⟩
          simp only [bne_iff_ne,ne_eq]
          rintro rfl
          rw [hbsl j hj] at hSk; cases hSk)
         cases this
       obtain ⟨t',Y,hY1,hY2,hre,hnode,hok2⟩ := pick
       rw [nthO_eq,ho'] at hre
       obtain ⟨-,-,hpb,o2,ho2,hps⟩ := nodeOk_inv hnode
       rw [ho'] at ho2; cases ho2
       have hop : ∀ x ∈ tmpsOf o,σ x = ρ' x := fun x hx => hslotL x (hps x hx) hpb
       have hgw := hgwL hpb
       have hgo : ∀ (v : Value) (w'' : World), Agr (fun k => Y k = false) w' w'' → RL P X Xc r ds ops fs (fun ρ' w' => VL P r ops.toArray Q (ops.drop m) ρ' ds w') t' (Pk.put σ o.dst v) w'' →
         ∃ t L D σ Wg,GL P X Xc r ds ops m bs fs (fun ρ' w' => VL P r ops.toArray Q (ops.drop m) ρ' ds w') ρ (Pk.put ρ' o.dst v) (fun j => (listed.setIfInBounds i true).getD j false) w'' t L D σ Wg := by
        intro v w'' hAgr hrt
        have hDi : ∀ j ∈ D,j ≠ i := fun j hj e => hiD (e ▸ hj)
        have hSD : ∀ j ∈ D,(listed.setIfInBounds i true).getD j false = listed.getD j false := fun j hj => by rw [hset]; simp [hDi j hj]
        have hLi : ∀ j ∈ L,j ≠ i := fun j hj e => hiL (e ▸ hj)
        have hSL : ∀ j ∈ L,(listed.setIfInBounds i true).getD j false = listed.getD j false := fun j hj => by rw [hset]; simp [hLi j hj]
        refine ⟨t', i :: L, D, Pk.put σ o.dst v, w'', hok2, hrt, Ext.refl _, fun _ => rfl, ?_, ?_, ?_, ?_, ?_, ?_, ?_, ?_⟩
        ·intro j hj
         simp only [hset] at hj
         by_cases hji : j = i
         ·exact .inl (by simp [hji])
         ·exact (hG.sub j (by simpa [hji] using hj)).imp_left fun h => List.mem_cons_of_mem _ h
        ·intro j hj
         rcases List.mem_cons.1 hj with rfl | hj
         ·exact him
         ·exact hG.lm j hj
        ·intro j hj
         obtain ⟨h1,h2,h3⟩ := hG.dl j hj
         exact ⟨h1,by simp [h2,hDi j hj],h3⟩
        ·intro x hx
         rw [put_other fun e => hx i (by simp) (by rw [hdi,e])]
         exact hG.fr x fun j hj => hx j (by simp [hj])
        ·intro j hj hSj
         rcases List.mem_cons.1 hj with rfl | hj
         ·rw [hdi]
          cases hod : o.dst with
          | none => rfl
          | some d => simp
         ·rw [hvv v j (hG.lm j hj) (hLi j hj),← hdi,dv_put_other hb him (hG.lm j hj) (hLi j hj)]
          exact hG.val j hj (by rw [← hSL j hj]; exact hSj)
        ·intro j hj hSj
         rcases List.mem_cons.1 hj with rfl | hj
         ·simp only [hset] at hSj; simp at hSj
         ·have hSj' : listed.getD j false = false := by rw [← hSL j hj]; exact hSj
          have hp := (hG.prom j hj hSj').put hb (hG.lm j hj) hj hG.lm hiL him ho' v
          rcases hY1 with hY1 | hY1
          ·exact hp.keep (fun k hk => List.mem_cons_of_mem _ hk) (hAgr.weaken hY1)
          ·refine hp.keepS (fun k hk => List.mem_cons_of_mem _ hk) (hAgr.weaken fun _ h => h.elim) (hY1 j (hG.lm j hj) fun hjb => ?_)
           rw [hbsl j hjb] at hSj'; cases hSj'
        ·intro j hj hSj
         exact ((hG.flt j hj (by rw [← hSD j hj]; exact hSj)).put hb hG.lm hiL him ho' v).keep (fun k hk => List.mem_cons_of_mem _ hk) (hY2 j hj ▸ hAgr)
        ·intro j hj hSj
         rw [hvv v j (hG.dl j hj).1 (hDi j hj)]
         exact hstab _ _ _ _ (hG.fval j hj (by rw [← hSD j hj]; exact hSj)) (hY2 j hj ▸ hAgr)
       unfold RE at hre
       simp only at hre
       rw [← hgw]
       cases hg : gw ops.toArray σ o.guard with
       | true =>
        rw [hg,GI_true] at hre
        simp only [if_true]
        have hre' : VO P r o (fun ρ'' ds'' w'' => ds'' = ds ∧ Agr (fun k => Y k = false) w' w'' ∧ RL P X Xc r ds ops fs (fun ρ' w' => VL P r ops.toArray Q (ops.drop m) ρ' ds w') t' (Pk.put σ o.dst (dv ρ'' o.dst)) w'') (fun _ _ _ _ => False) σ ds w' :=
         VO_imp hre fun v ds' w'' hh => ⟨hh.1, hh.2.1, by
          have := hh.2.2
          cases hod : o.dst with
          | none => rw [hod] at this; exact this
          | some d => rw [hod] at this; simpa using this⟩
        have h2 := VO_env (k := fun v ds'' w'' => ds'' = ds ∧ Agr (fun k => Y k = false) w' w'' ∧ RL P X Xc r ds ops fs (fun ρ' w' => VL P r ops.toArray Q (ops.drop m) ρ' ds w') t' (Pk.put σ o.dst v) w'') (ρ' := ρ') hop hre'
        rw [ha]
        refine VO_sound (K := fun ρ'' ds'' w'' => (ds'' = ds ∧ Agr (fun k => Y k = false) w' w'' ∧ RL P X Xc r ds ops fs (fun ρ' w' => VL P r ops.toArray Q (ops.drop m) ρ' ds w') t' (Pk.put σ o.dst (dv ρ'' o.dst)) w'') ∧ ∃ v,ρ'' = put ρ' o.dst v) (Q := fun _ _ _ _ => False) hA hoko ?_ (fun _ _ _ _ _ h => h.elim) h2
        rintro a' ρ'' w'' hA' ⟨⟨hds',hAgr,hrt⟩,v,rfl⟩
        refine next a' v w'' hds' hA' (hgo v w'' hAgr ?_)
        cases hod : o.dst with
        | none => rw [hod] at hrt; exact hrt
        | some d => rw [hod] at hrt; simpa using hrt
       | false =>
        rw [hg,GI_false] at hre
        simp only [Bool.false_eq_true,if_false]
        exact ⟨fun _ _ => trivial,next _ undef w' (by rw [put_defers]; exact hds) (hA.put (ds := a.defers) (Bool.and_eq_true_iff.1 hoko).1 undef) (hgo undef w' (Agr.refl _ _) hre)⟩
 have e : (fun j => (Array.replicate ops.toArray.size false).getD j false) = fun _ => false := by
  funext j
  by_cases h1 : j < ops.length <;> simp [h1]
 have hI : INV (Array.replicate ops.toArray.size false) ρ w.drew := by
  have := GL.norm (S := fun _ => false) (W := w.drew) (ρ := ρ) (ρ' := ρ) hb t [] [] ρ w.drew ⟨htr,h _ rfl,Ext.refl _,fun _ => rfl,by simp,by simp,by simp,fun _ _ => rfl,by simp,by simp,by simp,by simp⟩
  rw [← e] at this
  exact this
 refine key ops.toArray.size (Array.replicate ops.toArray.size false) ⟨tmps, ds⟩ ρ w.drew rfl (by simp) hAg hI ?_ ?_ (by simp)
 ·intro i hi h1; simp [hi] at h1
 ·intro x _; rfl
end
def RLt (P : Program) (X Xc : Nat → Bool) (r : Option Nat) (ds : List Deferred) (ops : List Oper) (fs : Nat → Value → World → Prop) (T : Env → World → Prop) (t : Tl) (_ : Tok (PProd.mk ops (PProd.mk fs (PProd.mk T t)))) (σ : Env) (W : World) : Prop := RL P X Xc r ds ops fs T t σ W
def RDt (P : Program) (_X : Nat → Bool) (r : Option Nat) (ds : List Deferred) (ops : List Oper) (A : Value → World → Prop) (l : List Oper) (i : Nat) (_ : Tok (PProd.mk ops (PProd.mk A (PProd.mk l i)))) (σ : Env) (W : World) : Prop := ∃ o,nthO l i = some o ∧ GI (gw ops.toArray σ o.guard) (VO P r o (fun ρ'' ds'' w'' => ds'' = ds ∧ Ext W w'' ∧ A (dv ρ'' o.dst) w'') (fun _ _ _ _ => False) σ ds W) (A undef W)
section
variable (P : Program) (X Xc : Nat → Bool) (r : Option Nat) (ds : List Deferred) (ops : List Oper) (fs : Nat → Value → World → Prop) (A : Value → World → Prop) (T : Env → World → Prop) (l : List Oper) (o : Oper) (i : Nat) (σ : Env) (W : World)
@[simp ↓] theorem RL_tok (t : Tl) : RL P X Xc r ds ops fs T t σ W = RLt P X Xc r ds ops fs T t .mk σ W := _root_.id rfl
@[simp ↓] theorem RLt_Z (k) : RLt P X Xc r ds ops fs T .Z k σ W = T σ W := _root_.id rfl
@[simp ↓] theorem RLt_F (t : Tl) (k) : RLt P X Xc r ds ops fs T (.F i t) k σ W = RFt P Xc r ds ops (RL P X Xc r ds ops fs T t) ops i .mk σ W := _root_.id rfl
@[simp ↓] theorem RLt_C (t : Tl) (k) : RLt P X Xc r ds ops fs T (.C i t) k σ W = REt P Xc r ds ops (RL P X Xc r ds ops fs T t) ops i .mk σ W := _root_.id rfl
@[simp ↓] theorem RLt_S (t : Tl) (k) : RLt P X Xc r ds ops fs T (.S i t) k σ W = REt P (fun _ => true) r ds ops (RL P X Xc r ds ops fs T t) ops i .mk σ W := _root_.id rfl
@[simp ↓] theorem RDt_succ (k) : RDt P X r ds ops A (o :: l) (i + 1) k σ W = RDt P X r ds ops A l i .mk σ W := _root_.id rfl
@[simp ↓] theorem RDt_zero (k) : RDt P X r ds ops A (o :: l) 0 k σ W = GIt (gw ops.toArray σ o.guard) (VO P r o (fun ρ'' ds'' w'' => ds'' = ds ∧ Ext W w'' ∧ A (dv ρ'' o.dst) w'') (fun _ _ _ _ => False) σ ds W) (A undef W) .mk := by
 apply propext
 constructor
 ·rintro ⟨o',h1,h2⟩; cases h1; exact h2
 ·exact fun h => ⟨o,rfl,h⟩
end
section
variable {P : Program} {X Xc : Nat → Bool} {r : Option Nat} {ds : List Deferred} {ops : List Oper} {fs : Nat → Value → World → Prop} {T : Env → World → Prop} {i : Nat} {t : Tl} {σ : Env} {W : World}
theorem RL_loose {k} (h : ∀ W',Ext W W' → REt P X r ds ops (RL P X Xc r ds ops fs T t) ops i .mk σ W') : RLt P X Xc r ds ops fs T (.L i t) k σ W := h
theorem RL_float {k} (h1 : ∀ W', Agr (fun k => X k = false) W W' → RDt P X r ds ops (fs i) ops i .mk σ W') (h2 : RL P X Xc r ds ops fs T t σ W) : RLt P X Xc r ds ops fs T (.D i t) k σ W := by
 refine ⟨?_,h2⟩
 cases ho : nthO ops i with
 | none => obtain ⟨o,h,_⟩ := h1 W (Agr.refl _ _); rw [ho] at h; cases h
 | some o =>
  intro W' hW'
  obtain ⟨o',h,h'⟩ := h1 W' hW'
  rw [ho] at h; cases h
  exact h'
theorem RL_wait {k} (h : ∀ v W',Ext W W' → fs i v W' → RL P X Xc r ds ops fs T t (put σ (dstAt ops i) v) W') : RLt P X Xc r ds ops fs T (.W i t) k σ W := h
end
theorem agr_ext {a b : World} (h : Agr (fun _ => false = false) a b) : Ext a b := ⟨h.os,h.tape,h.out,h.size,fun i hi => h.blk i hi rfl⟩
end Pk
namespace Pk
open Go Go.WideShapes Go.Deep Go.ChangeShapes
inductive CK
 | int (k : IntKind)
 | bool
 | str
def fits : CK → Value → Prop
 | .int k,v => ∃ n,v = .int k n ∧ (Lit.int k n).wf = true
 | .bool,v => ∃ b,v = .bool b
 | .str,v => ∃ b,v = .string b
def Fit : List CK → List Value → Prop
 | [],[] => True
 | k :: ks,v :: vs => fits k v ∧ Fit ks vs
 | _,_ => False
theorem Fit.length : ∀ {ks : List CK} {vs : List Value}, Fit ks vs → ks.length = vs.length
 | [],[],_ => rfl
 | _ :: _,_ :: _,h => congrArg (· + 1) (Fit.length h.2)
 | [],_ :: _,h => h.elim
 | _ :: _,[],h => h.elim
theorem Fit.cons {k : CK} {ks : List CK} {cs : List Value} (h : Fit (k :: ks) cs) : ∃ v vs, cs = v :: vs ∧ fits k v ∧ Fit ks vs := by
 cases cs with
 | nil => exact h.elim
 | cons v vs => exact ⟨v,vs,rfl,h.1,h.2⟩
theorem Fit.nil {cs : List Value} (h : Fit [] cs) : cs = [] := by
 cases cs with
 | nil => rfl
 | cons v vs => exact h.elim
theorem Fit.append : ∀ {k1 k2 : List CK} {v1 v2 : List Value}, Fit k1 v1 → Fit k2 v2 → Fit (k1 ++ k2) (v1 ++ v2)
 | [],_,[],_,_,h => h
 | _ :: _,_,_ :: _,_,h,h' => ⟨h.1,Fit.append h.2 h'⟩
 | [],_,_ :: _,_,h,_ => h.elim
 | _ :: _,_,[],_,h,_ => h.elim
def flatFs (P : Program) (g : TypeId → Option (List CK)) : List Field → Nat → Option (List CK)
 | [],_ => some []
 | f :: fs, off => match g f.type, flatFs P g fs (off + P.cellsOf f.type) with
  | some l,some r => if f.offset == off && P.cellsOf f.type == l.length then some (l ++ r) else none
  | _,_ => none
def flat (P : Program) : Nat → TypeId → Option (List CK)
 | 0,_ => none
 | n + 1, t => match P.underlying t with
  | some (.int k) => some [.int k]
  | some .bool => some [.bool]
  | some .string => some [.str]
  | some (.struct ⟨fs⟩) => (flatFs P (flat P n) fs 0).bind fun l => if P.cellsOf t == l.length then some l else none
  | some (.array len e) => (flat P n e).bind fun l => if P.cellsOf e == l.length && P.cellsOf t == len * l.length then some (List.replicate len l).flatten else none
  | _ => none
section
variable {H : Type} {enc : TypeId × Value → H} {P : Program} {w : World} {base : Nat} {spare : Nat → Bool} {held : Bool}
theorem fit_fields {g : TypeId → Option (List CK)} {cs : List Value} : ∀ (fs : List Field) (off : Nat) (l : List CK), flatFs P g fs off = some l → (∀ f ∈ fs, ∀ l', g f.type = some l' → Fit l' ((cs.drop f.offset).take (P.cellsOf f.type))) →
  Fit l ((cs.drop off).take l.length)
 | [], off, l, h, _ => by
  cases h
  simp [Fit]
 | f :: fs, off, l, h, hf => by
  unfold flatFs at h
  split at h
  ·rename_i l1 r h1 h2
   split at h
   ·rename_i hc
    simp only [Bool.and_eq_true,beq_iff_eq] at hc
    cases h
    have f1 := hf f (by simp) l1 h1
    have f2 := fit_fields fs _ r h2 fun f' hf' => hf f' (by simp [hf'])
    rw [hc.1,hc.2] at f1
    rw [hc.2] at f2
    have e : (cs.drop off).take (l1 ++ r).length = (cs.drop off).take l1.length ++ (cs.drop (off + l1.length)).take r.length := by
     rw [List.length_append,List.take_add,List.drop_drop]
    rw [e]
    exact f1.append f2
   ·cases h
  ·cases h
theorem fit_rows {l : List CK} {cs : List Value} : ∀ (n k : Nat), (∀ i, k ≤ i → i < k + n → Fit l ((cs.drop (i * l.length)).take l.length)) → Fit (List.replicate n l).flatten ((cs.drop (k * l.length)).take (n * l.length))
 | 0,k,_ => by simp [Fit]
 | n + 1, k, h => by
  have f1 := h k (Nat.le_refl _) (by omega)
  have f2 := fit_rows n (k + 1) fun i h1 h2 => h i (by omega) (by omega)
  have e : (cs.drop (k * l.length)).take ((n + 1) * l.length) = (cs.drop (k * l.length)).take l.length ++ (cs.drop ((k + 1) * l.length)).take (n * l.length) := by
   have e1 : (n + 1) * l.length = l.length + n * l.length := by rw [Nat.succ_mul]; omega
   have e2 : (k + 1) * l.length = k * l.length + l.length := Nat.succ_mul _ _
   rw [e1,List.take_add,List.drop_drop,e2]
  rw [e,List.replicate_succ,List.flatten_cons]
  exact f1.append f2
theorem trod_flat : ∀ (n : Nat) (t : TypeId) (l : List CK), flat P n t = some l → ∀ (fuel : Nat) (cs : List Value) (x : DataW H × List MemPlace), DataW.trod enc P w base spare held fuel t cs = some x → Fit l cs
 | 0,t,l,h,_,_,_,_ => by cases h
 | n + 1, t, l, h, fuel, cs, x, hx => by
  unfold flat at h
  split at h
  ·rename_i k ht
   cases h
   obtain ⟨m,h1,h2,h3⟩ := DataW.trod_int ht hx
   subst h1
   exact ⟨⟨m,rfl,h3⟩,trivial⟩
  ·rename_i ht
   cases h
   obtain ⟨b,h1,h2⟩ := DataW.trod_bool ht hx
   subst h1
   exact ⟨⟨b,rfl⟩,trivial⟩
  ·rename_i ht
   cases h
   obtain ⟨b,h1,h2⟩ := DataW.trod_string ht hx
   subst h1
   exact ⟨⟨b,rfl⟩,trivial⟩
  ·rename_i fs ht
   cases hfs : flatFs P (flat P n) fs 0 with
   | none => rw [hfs] at h; cases h
   | some l' =>
    rw [hfs,Option.bind_some] at h
    split at h
    ·rename_i hc
     cases h
     rw [beq_iff_eq] at hc
     obtain ⟨xs,m,_,_,hl,hxl,hf⟩ := DataW.trod_struct ht hx
     have := fit_fields (cs := cs) fs 0 _ hfs fun f hff l2 hl2 => by
      obtain ⟨i,hi⟩ := List.mem_iff_getElem?.1 hff
      have hil := (List.getElem?_eq_some_iff.1 hi).1
      have h2 := hf i f (by simpa using hi)
      rw [List.getElem?_eq_getElem (by rw [hxl]; simpa using hil)] at h2
      exact trod_flat n f.type l2 hl2 _ _ _ h2
     rw [List.drop_zero,← hc,← hl,List.take_length] at this
     exact this
    ·cases h
  ·rename_i len e ht
   cases hfs : flat P n e with
   | none => rw [hfs] at h; cases h
   | some l' =>
    rw [hfs,Option.bind_some] at h
    split at h
    ·rename_i hc
     cases h
     simp only [Bool.and_eq_true,beq_iff_eq] at hc
     obtain ⟨xs,m,_,_,hl,hxl,hf⟩ := DataW.trod_array ht hx
     have := fit_rows (cs := cs) len 0 fun i _ hi => by
      have h2 := hf i (by omega)
      rw [List.getElem?_eq_getElem (by omega),hc.1] at h2
      exact trod_flat n e _ hfs _ _ _ h2
     rw [Nat.zero_mul,List.drop_zero,← hc.2,← hl,List.take_length] at this
     exact this
    ·cases h
  ·cases h
end
theorem flatMap_at {s : Nat} (f : Nat → List Value) (n : Nat) : (∀ i, i < n → (f i).length = s) → ((List.range n).flatMap f).length = n * s ∧ ∀ i j, i < n → j < s → ((List.range n).flatMap f)[i * s + j]? = (f i)[j]? := by
 induction n with
 | zero => intro _; simp
 | succ n ih =>
  intro h
  obtain ⟨h1,h2⟩ := ih fun i hi => h i (by omega)
  have e : (List.range (n + 1)).flatMap f = (List.range n).flatMap f ++ f n := by rw [List.range_succ,List.flatMap_append]; simp
  rw [e]
  refine ⟨by rw [List.length_append,h1,h n (by omega),Nat.succ_mul],fun i j hi hj => ?_⟩
  by_cases hin : i < n
  ·have hlt : i * s + j < n * s := by
    have : (i + 1) * s ≤ n * s := Nat.mul_le_mul_right s hin
    rw [Nat.succ_mul] at this; omega
   rw [List.getElem?_append_left (by rw [h1]; exact hlt)]
   exact h2 i j hin hj
  ·have : i = n := by omega
   subst this
   rw [List.getElem?_append_right (by rw [h1]; omega),h1]
   congr 1; omega
section
variable {H : Type} {enc : TypeId × Value → H} {P : Program}
end
end Pk