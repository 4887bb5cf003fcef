/-
 The engine,part A: environments as functions from slots to values; a verification condition for code that one call of simp can step through; its soundness over the kit's fenced walk.
-/
import Derived.RangeFuncRecord
import Derived.OrdersIn
import Derived.Below
import Derived.IntWalk
import Derived.KernelRfl
import Derived.WalkSpells
namespace Pk
universe u
open Go
abbrev Env := Nat → Value
def Env.set (ρ : Env) (d : Nat) (v : Value) : Env := fun t => if t = d then v else ρ t
@[simp] theorem Env.set_at (ρ : Env) (d : Nat) (v : Value) (t : Nat) : (Env.set ρ d v) t = if t = d then v else ρ t := rfl
def ev (ρ : Env) : Operand → Value
 | .tmp t => ρ t
 | .const v => v
 | .global g => .pointer (some ⟨g,0,none⟩)
 | .func f => .func (.func f) #[] #[]
@[simp] theorem ev_tmp (ρ : Env) (t : Nat) : ev ρ (.tmp t) = ρ t := rfl
@[simp] theorem ev_const (ρ : Env) (v : Value) : ev ρ (.const v) = v := rfl
@[simp] theorem ev_global (ρ : Env) (g : Nat) : ev ρ (.global g) = .pointer (some ⟨g,0,none⟩) := rfl
@[simp] theorem ev_func (ρ : Env) (f : Nat) : ev ρ (.func f) = .func (.func f) #[] #[] := rfl
def put (ρ : Env) : Option Tmp → Value → Env
 | none,_ => ρ
 | some d,v => ρ.set d v
@[simp] theorem put_none (ρ : Env) (v : Value) : put ρ none v = ρ := rfl
@[simp] theorem put_some (ρ : Env) (d : Nat) (v : Value) : put ρ (some d) v = ρ.set d v := rfl
abbrev Post := Exit → Env → List Deferred → World → Prop
abbrev Cont := Env → List Deferred → World → Prop
def FR (r : Option Nat) : Fence := { fn := fun _ => True,depth := none,alive := false,round := r }
def Ag (n : Nat) (tmps : Array Value) (ρ : Env) : Prop := tmps.size = n ∧ ∀ t,t < n → tmps.getD t undef = ρ t
def okD (n : Nat) : Option Tmp → Bool
 | none => true
 | some d => decide (d < n)
def okX (n : Nat) : Operand → Bool
 | .tmp t => decide (t < n)
 | _ => true
def notSel : Op → Bool
 | .select .. => false
 | _ => true
def okOp (n : Nat) (o : Oper) : Bool := okD n o.dst && (o.op.operands.toList.all (okX n) && notSel o.op)
def okC (n : Nat) : Code → Bool
 | .region _ ops _ => ops.toList.all (okOp n)
 | .seq a b => okC n a && okC n b
 | .cond c t e => okX n c && (okC n t && okC n e)
 | .block _ c => okC n c
 | .loop c => okC n c
 | .scope c => okC n c
 | .rangeFunc f ps a b => okX n f && (ps.toList.all (fun p => decide (p < n)) && (okC n a && okC n b))
 | _ => true
theorem eval_eq {n : Nat} {tmps : Array Value} {ρ : Env} {ds : List Deferred} (h : Ag n tmps ρ) {x : Operand} (hx : okX n x = true) : (Act.mk tmps ds).eval x = ev ρ x := by
 cases x with
 | tmp t => exact h.2 t (by simpa [okX] using hx)
 | _ => rfl
theorem Ag.put {n : Nat} {tmps : Array Value} {ρ : Env} {ds : List Deferred} (h : Ag n tmps ρ) {d : Option Tmp} (hd : okD n d = true) (v : Value) :
  Ag n ((Act.mk tmps ds).put d v).tmps (put ρ d v) := by
 cases d with
 | none => exact h
 | some d =>
  refine ⟨by simpa [Act.put] using h.1,fun t ht => ?_⟩
  have hd' : d < n := by simpa [okD] using hd
  simp only [Act.put,Pk.put,Env.set]
  by_cases e : t = d
  ·subst e; simp [h.1,ht]
  ·rw [if_neg e]
   have := h.2 t ht
   simp only [Array.getD_eq_getD_getElem?] at this ⊢
   rw [Array.getElem?_setIfInBounds_ne (Ne.symm e)]
   exact this
theorem put_defers (a : Act) (d : Option Tmp) (v : Value) : (a.put d v).defers = a.defers := by cases d <;> rfl
def gv (ops : Array Oper) (ρ : Env) (j : Nat) : Option Bool :=
 match (ops[j]?).bind (·.dst) with
 | some d => (match ρ d with | .bool b => some b | _ => none)
 | none => none
def gw (ops : Array Oper) (ρ : Env) : Option (Nat × Bool) → Bool
 | none => true
 | some (j,want) => gv ops ρ j == some want
@[simp] theorem gw_none (ops : Array Oper) (ρ : Env) : gw ops ρ none = true := rfl
theorem gv_eq {n : Nat} {tmps : Array Value} {ρ : Env} {ops : Array Oper} (h : Ag n tmps ρ) (hok : ops.toList.all (okOp n) = true) (j : Nat) : yielded ops tmps j = gv ops ρ j := by
 unfold yielded gv
 cases ho : ops[j]? with
 | none => rfl
 | some o =>
  have hm : o ∈ ops.toList := by
   have := Array.mem_of_getElem? ho
   simpa using this
  have hd : okD n o.dst = true := by
   have := List.all_eq_true.1 hok o hm
   simp [okOp] at this
   exact this.1
  cases hdst : o.dst with
  | none => simp [hdst]
  | some d =>
   have hd' : d < n := by simpa [hdst,okD] using hd
   have ht := h.2 d hd'
   have hs : d < tmps.size := by rw [h.1]; exact hd'
   simp only [Option.bind_some,hdst]
   have e : tmps[d]? = some (ρ d) := by
    rw [Array.getElem?_eq_getElem hs]
    simp [Array.getD_eq_getD_getElem?,Array.getElem?_eq_getElem hs] at ht
    rw [ht]
   rw [e]
   cases ρ d <;> rfl
theorem gw_eq {n : Nat} {tmps : Array Value} {ρ : Env} {ops : Array Oper} (h : Ag n tmps ρ) (hok : ops.toList.all (okOp n) = true) (o : Oper) :
  Region.wanted o (yielded ops tmps) = gw ops ρ o.guard := by
 unfold Region.wanted gw
 cases o.guard with
 | none => rfl
 | some g => obtain ⟨j,b⟩ := g; simp only [gv_eq h hok]
def GI (b : Bool) (A B : Prop) : Prop := (b = true → A) ∧ (b = false → B)
theorem GI_true (A B : Prop) : GI true A B = A := by simp [GI]
theorem GI_false (A B : Prop) : GI false A B = B := by simp [GI]
def onR (x : Result Value) (k : Value → World → Prop) : Prop := match x with | .ok v w => k v w | .halt _ _ => False
def onU (x : Result Unit) (k : World → Prop) : Prop := match x with | .ok _ w => k w | .halt _ _ => False
def onB (v : Value) (A B : Prop) : Prop := match v with | .bool b => GI b A B | _ => False
def FN (P : Program) (f : FuncId) (args : List Value) (w : World) (R : Ending → World → Prop) : Prop :=
 match (callFunc f args.toArray).run P w with
 | .ok (.enter g as) w' => Calls P g as w' R
 | .ok (.value v) w' => R (.returned v) w'
 | _ => False
def YD (P : Program) (l : Nat) (args : List Value) (w : World) (R : Ending → World → Prop) : Prop :=
 match (Instr.yield l args.toArray).run P w with
 | .ok (.round l' f tmps a b) w' => RoundIn (FR none) 0 P l' f tmps a b w' R
 | _ => False
def CV (P : Program) (v : Value) (args : List Value) (w : World) (R : Ending → World → Prop) : Prop :=
 match v with
 | .func (.func f) first caps => FN P f (first.toList ++ (args ++ caps.toList)) w R
 | .func (.yield l) first _ => YD P l (first.toList ++ args) w R
 | _ => False
def IV (P : Program) (m : String) (args : List Value) (w : World) (R : Ending → World → Prop) : Prop :=
 match (invoke (.fn (.method m) #[]) args.toArray).run P w with
 | .ok (.enter g as) w' => Calls P g as w' R
 | .ok (.value v) w' => R (.returned v) w'
 | _ => False
theorem CV_func (P : Program) (f : FuncId) (first caps : Array Value) (args : List Value) (w : World) (R : Ending → World → Prop) :
  CV P (.func (.func f) first caps) args w R = FN P f (first.toList ++ (args ++ caps.toList)) w R := rfl
theorem FN.mono {P : Program} {f : FuncId} {args : List Value} {w : World} {R R' : Ending → World → Prop} (h : FN P f args w R) (hR : ∀ e w', R e w' → R' e w') : FN P f args w R' := by
 unfold FN at *
 split at h
 ·exact h.mono hR
 ·exact hR _ _ h
 ·exact h.elim
theorem IV.mono {P : Program} {m : String} {args : List Value} {w : World} {R R' : Ending → World → Prop} (h : IV P m args w R) (hR : ∀ e w', R e w' → R' e w') : IV P m args w R' := by
 unfold IV at *
 split at h
 ·exact h.mono hR
 ·exact hR _ _ h
 ·exact h.elim
theorem YD.mono {P : Program} {l : Nat} {args : List Value} {w : World} {R R' : Ending → World → Prop} (h : YD P l args w R) (hR : ∀ e w', R e w' → R' e w') : YD P l args w R' := by
 unfold YD at *
 split at h
 ·exact h.mono hR
 ·exact h.elim
theorem CV.mono {P : Program} {v : Value} {args : List Value} {w : World} {R R' : Ending → World → Prop} (h : CV P v args w R) (hR : ∀ e w', R e w' → R' e w') : CV P v args w R' := by
 unfold CV at *
 split at h
 ·exact FN.mono h hR
 ·exact YD.mono h hR
 ·exact h.elim
inductive Tok {α : Sort u} (a : α) : Type
 | mk
def GIt (b : Bool) (A B : Prop) (_ : Tok (And A B)) : Prop := GI b A B
@[simp ↓] theorem GI_tok (b : Bool) (A B : Prop) : GI b A B = GIt b A B .mk := _root_.id rfl
@[simp] theorem GIt_true (A B : Prop) (t : Tok (And A B)) : GIt true A B t = A := GI_true A B
@[simp] theorem GIt_false (A B : Prop) (t : Tok (And A B)) : GIt false A B t = B := GI_false A B
def onRt (x : Result Value) (k : Value → World → Prop) (_ : Tok k) : Prop := onR x k
@[simp ↓] theorem onR_tok (x : Result Value) (k : Value → World → Prop) : onR x k = onRt x k .mk := _root_.id rfl
@[simp] theorem onRt_ok (v : Value) (w : World) (k : Value → World → Prop) (t : Tok k) : onRt (.ok v w) k t = k v w := _root_.id rfl
def onUt (x : Result Unit) (k : World → Prop) (_ : Tok k) : Prop := onU x k
@[simp ↓] theorem onU_tok (x : Result Unit) (k : World → Prop) : onU x k = onUt x k .mk := _root_.id rfl
@[simp] theorem onUt_ok (u : Unit) (w : World) (k : World → Prop) (t : Tok k) : onUt (.ok u w) k t = k w := _root_.id rfl
def onBt (v : Value) (A B : Prop) (_ : Tok (And A B)) : Prop := onB v A B
@[simp ↓] theorem onB_tok (v : Value) (A B : Prop) : onB v A B = onBt v A B .mk := _root_.id rfl
@[simp] theorem onBt_bool (b : Bool) (A B : Prop) (t : Tok (And A B)) : onBt (.bool b) A B t = GIt b A B .mk := _root_.id rfl
def CVt (P : Program) (v : Value) (args : List Value) (w : World) (R : Ending → World → Prop) (_ : Tok R) : Prop := CV P v args w R
@[simp ↓] theorem CV_tok (P : Program) (v : Value) (args : List Value) (w : World) (R : Ending → World → Prop) : CV P v args w R = CVt P v args w R .mk := _root_.id rfl
def FNt (P : Program) (f : FuncId) (args : List Value) (w : World) (R : Ending → World → Prop) (_ : Tok R) : Prop := FN P f args w R
def YDt (P : Program) (l : Nat) (args : List Value) (w : World) (R : Ending → World → Prop) (_ : Tok R) : Prop := YD P l args w R
def IVt (P : Program) (m : String) (args : List Value) (w : World) (R : Ending → World → Prop) (_ : Tok R) : Prop := IV P m args w R
@[simp ↓] theorem IV_tok (P : Program) (m : String) (args : List Value) (w : World) (R : Ending → World → Prop) : IV P m args w R = IVt P m args w R .mk := _root_.id rfl
@[simp ↓] theorem FN_tok (P : Program) (f : FuncId) (args : List Value) (w : World) (R : Ending → World → Prop) : FN P f args w R = FNt P f args w R .mk := _root_.id rfl
@[simp ↓] theorem YD_tok (P : Program) (l : Nat) (args : List Value) (w : World) (R : Ending → World → Prop) : YD P l args w R = YDt P l args w R .mk := _root_.id rfl
@[simp] theorem CVt_func (P : Program) (f : FuncId) (first caps : Array Value) (args : List Value) (w : World) (R : Ending → World → Prop) (t : Tok R) :
  CVt P (.func (.func f) first caps) args w R t = FNt P f (first.toList ++ (args ++ caps.toList)) w R .mk := _root_.id rfl
@[simp] theorem CVt_yield (P : Program) (l : Nat) (first caps : Array Value) (args : List Value) (w : World) (R : Ending → World → Prop) (t : Tok R) :
  CVt P (.func (.yield l) first caps) args w R t = YDt P l (first.toList ++ args) w R .mk := _root_.id rfl
def RC (d : Option Tmp) (K : Cont) (Q : Post) (ρ : Env) (ds : List Deferred) : Ending → World → Prop
 | .returned v,w => K (put ρ d v) ds w
 | .panicked ch,w => Q (.panic ch) ρ ds w
 | .outgrown,_ => False
@[simp] theorem RC_returned (d : Option Tmp) (K : Cont) (Q : Post) (ρ : Env) (ds : List Deferred) (v : Value) (w : World) : RC d K Q ρ ds (.returned v) w = K (put ρ d v) ds w := _root_.id rfl
@[simp] theorem RC_panicked (d : Option Tmp) (K : Cont) (Q : Post) (ρ : Env) (ds : List Deferred) (ch : List PanicEntry) (w : World) : RC d K Q ρ ds (.panicked ch) w = Q (.panic ch) ρ ds w := _root_.id rfl
def DF (v : Value) (args : List Value) (k : Deferred → Prop) : Prop :=
 match v with
 | .func fn first caps => k { target := .fn fn caps,args := (first.toList ++ args).toArray }
 | _ => False
@[simp] theorem DF_func (fn : Fn) (first caps : Array Value) (args : List Value) (k : Deferred → Prop) : DF (.func fn first caps) args k = k { target := .fn fn caps,args := (first.toList ++ args).toArray } := _root_.id rfl
def PN (v : Value) (k : List PanicEntry → Prop) : Prop :=
 match v with
 | .iface t x => k [{ v := .iface t x,recovered := false }]
 | _ => False
@[simp] theorem PN_iface (t : TypeId) (x : Value) (k : List PanicEntry → Prop) : PN (.iface t x) k = k [{ v := .iface t x,recovered := false }] := _root_.id rfl
def BV (b : Builtin) (argTypes : Array TypeId) (type : TypeId) (args : Array Value) : Sem Value :=
 match b with
 | .append => Builtin.append_ argTypes type args
 | .cap => Builtin.cap_ argTypes type args
 | .clear => Builtin.clear_ argTypes type args
 | .copy => Builtin.copy_ argTypes type args
 | .delete => Builtin.delete_ argTypes type args
 | .len => Builtin.len_ argTypes type args
 | .max => Builtin.max_ argTypes type args
 | .min => Builtin.min_ argTypes type args
 | _ => stuck "not here"
def VO (P : Program) (r : Option Nat) (o : Oper) (K : Cont) (Q : Post) (ρ : Env) (ds : List Deferred) (w : World) : Prop :=
 let kv : Value → World → Prop := fun v w' => K (put ρ o.dst v) ds w'
 let ku : World → Prop := fun w' => K (put ρ o.dst undef) ds w'
 match o.op with
 | .move x | .assign x => kv (ev ρ x) w
 | .pick c a b => onR ((do pure (if ← asBool (ev ρ c) then ev ρ a else ev ρ b) : Sem Value).run P w) kv
 | .alloc t => onR ((Instr.alloc t true (.tuple #[])).run P w) kv
 | .box t x => onR ((Instr.box t (ev ρ x)).run P w) kv
 | .build t parts => onR ((Instr.build t (parts.map fun (i,x) => (i,ev ρ x))).run P w) kv
 | .buildSlice t n parts => onR ((Instr.buildSlice t n (parts.map fun (i,x) => (i,ev ρ x))).run P w) kv
 | .load t a => onR ((Instr.loadAt t (ev ρ a)).run P w) kv
 | .store t a x => onU ((Instr.storeAt t (ev ρ a) (ev ρ x)).run P w) ku
 | .nilCheck x => onR ((match ev ρ x with | .pointer (some a) => pure (.pointer (some a)) | _ => stuck "nilCheck" : Sem Value).run P w) kv
 | .binOp op t x y _ => onR ((do eqGuard op t x y (ev ρ x) (ev ρ y); binOp op t (ev ρ x) (ev ρ y) : Sem Value).run P w) kv
 | .unOp op _ x => onR ((Op.unary op (ev ρ x)).run P w) kv
 | .convert s d x => onR ((convert s d (ev ρ x)).run P w) kv
 | .sliceToArrayPointer t x => onR ((Instr.arrayAt t (ev ρ x)).run P w) kv
 | .makeInterface t x => onR ((Instr.makeInterface t (ev ρ x)).run P w) kv
 | .makeFunc fn first caps => kv (.func fn (first.map (ev ρ)) (caps.map (ev ρ))) w
 | .makeMap t r => onR ((Instr.makeMap t (r.map (ev ρ))).run P w) kv
 | .makeSlice t l c => onR ((Instr.makeSlice t (ev ρ l) (ev ρ c)).run P w) kv
 | .slice t x lo hi mx => onR ((Instr.sliceAt t (ev ρ x) (lo.map (ev ρ)) (hi.map (ev ρ)) (mx.map (ev ρ))).run P w) kv
 | .fieldAddr s x f => onR ((Instr.fieldAt s (ev ρ x) f).run P w) kv
 | .field t x f => onR ((Instr.field t (ev ρ x) f).run P w) kv
 | .indexAddr t x i => onR ((Instr.indexAt t (ev ρ x) (ev ρ i)).run P w) kv
 | .index t x i => onR ((Instr.index t (ev ρ x) (ev ρ i)).run P w) kv
 | .lookup t x i ok => onR ((Instr.lookup t (ev ρ x) (ev ρ i) ok).run P w) kv
 | .mapUpdate t m k x | .insert t m k x => onU ((Instr.mapUpdate t (ev ρ m) (ev ρ k) (ev ρ x)).run P w) ku
 | .mapEntry t m k => onR ((Instr.mapEntry t (ev ρ m) (ev ρ k)).run P w) kv
 | .entryStore t m s x => onU ((Instr.entryStore t (ev ρ m) (ev ρ s) (ev ρ x)).run P w) ku
 | .range t x => onR ((Instr.range t (ev ρ x)).run P w) kv
 | .next it s => onR ((Instr.next (ev ρ it) s o.type).run P w) kv
 | .entry it => onR ((Instr.entry (ev ρ it)).run P w) kv
 | .typeAssert x t d ok => onR ((Instr.typeAssert (ev ρ x) t d ok).run P w) kv
 | .extract t i => onR ((Instr.extract (ev ρ t) i).run P w) kv
 | .call { callee := .value f,args,.. } => CV P (ev ρ f) (args.toList.map (ev ρ)) w (RC o.dst K Q ρ ds)
 | .call { callee := .invoke x m,args,.. } => IV P m (ev ρ x :: args.toList.map (ev ρ)) w (RC o.dst K Q ρ ds)
 | .call { callee := .builtin b,args,argTypes } => onR ((BV b argTypes o.type (args.map (ev ρ))).run P w) kv
 | .defer { callee := .value f,args,.. } => r = none ∧ DF (ev ρ f) (args.toList.map (ev ρ)) fun d => K (put ρ o.dst undef) (d :: ds) w
 | .panic x => PN (ev ρ x) fun ch => Q (.panic ch) ρ ds w
 | _ => False
theorem uponIn_of_onR {r : Option Nat} {P : Program} {o : Oper} {a : Act} {K : Act → World → Prop} {Q : Exit → Act → World → Prop} {s : Sem Value} {w : World} {k : Value → World → Prop}
  (h : onR (s.run P w) k) (hk : ∀ v w',k v w' → K (a.put o.dst v) w') : o.uponIn (FR r) 0 P a K Q ((do pure (Next.value (← s)) : Sem Next).run P w) := by
 simp only [Sem.run_bind]
 cases hs : s.run P w with
 | ok v w' => rw [hs] at h; exact hk _ _ h
 | halt e w' => rw [hs] at h; exact h.elim
theorem uponIn_of_onU {r : Option Nat} {P : Program} {o : Oper} {a : Act} {K : Act → World → Prop} {Q : Exit → Act → World → Prop} {s : Sem Unit} {w : World} {k : World → Prop}
  (h : onU (s.run P w) k) (hk : ∀ w',k w' → K (a.put o.dst undef) w') : o.uponIn (FR r) 0 P a K Q ((do s; pure Next.skip : Sem Next).run P w) := by
 simp only [Sem.run_bind]
 cases hs : s.run P w with
 | ok v w' => rw [hs] at h; exact hk _ h
 | halt e w' => rw [hs] at h; exact h.elim
theorem callsIn_FR {r : Option Nat} {P : Program} {f : FuncId} {args : Array Value} {w : World} {R : Ending → World → Prop} (h : Calls P f args w R) : CallsIn (FR r) 0 P f args w R := by
 have h' := callsIn_wide (n := 0).2 h
 exact h'
theorem arg_ok {n : Nat} {o : Oper} (hok : okOp n o = true) : ∀ x ∈ o.op.operands, okX n x = true := by
 intro x hx
 have := (Bool.and_eq_true_iff.1 (Bool.and_eq_true_iff.1 hok).2).1
 exact List.all_eq_true.1 this x (by simpa using hx)
theorem exec_eq {n : Nat} {tmps : Array Value} {ρ : Env} {ds : List Deferred} (h : Ag n tmps ρ) {o : Oper} (hok : okOp n o = true) :
  execOp (Act.mk tmps ds).eval o = execOp (ev ρ) o := by
 refine execOp_congr o ?_ fun x hx => eval_eq h (arg_ok hok x hx)
 intro cs b e
 have := (Bool.and_eq_true_iff.1 (Bool.and_eq_true_iff.1 hok).2).2
 rw [e] at this
 simp [notSel] at this
theorem uponIn_of_FN {r : Option Nat} {P : Program} {o : Oper} {a : Act} {K : Act → World → Prop} {Q : Exit → Act → World → Prop} {f : FuncId} {args : List Value} {w : World} {R : Ending → World → Prop}
  (h : FN P f args w R) (hR : ∀ e w',R e w' → (match e with | .returned v => K (a.put o.dst v) w' | .panicked ch => Q (.panic ch) a w' | .outgrown => False)) :
  o.uponIn (FR r) 0 P a K Q ((callFunc f args.toArray).run P w) := by
 unfold FN at h
 split at h
 ·rename_i g as w' he
  rw [he]
  refine ⟨fun h => by simp [FR] at h,callsIn_FR (h.mono fun e w' hr => ?_)⟩
  have := hR e w' hr
  cases e <;> first | exact this | exact this.elim
 ·rename_i v w' he
  rw [he]
  exact hR _ _ h
 ·exact h.elim
theorem uponIn_of_IV {r : Option Nat} {P : Program} {o : Oper} {a : Act} {K : Act → World → Prop} {Q : Exit → Act → World → Prop} {m : String} {args : List Value} {w : World} {R : Ending → World → Prop}
  (h : IV P m args w R) (hR : ∀ e w',R e w' → (match e with | .returned v => K (a.put o.dst v) w' | .panicked ch => Q (.panic ch) a w' | .outgrown => False)) :
  o.uponIn (FR r) 0 P a K Q ((invoke (.fn (.method m) #[]) args.toArray).run P w) := by
 unfold IV at h
 split at h
 ·rename_i g as w' he
  rw [he]
  refine ⟨fun h => by simp [FR] at h,callsIn_FR (h.mono fun e w' hr => ?_)⟩
  have := hR e w' hr
  cases e <;> first | exact this | exact this.elim
 ·rename_i v w' he
  rw [he]
  exact hR _ _ h
 ·exact h.elim
theorem uponIn_of_CV {r : Option Nat} {P : Program} {o : Oper} {a : Act} {K : Act → World → Prop} {Q : Exit → Act → World → Prop} {v : Value} {args : List Value} {w : World} {R : Ending → World → Prop}
  (h : CV P v args w R) (hR : ∀ e w',R e w' → (match e with | .returned v => K (a.put o.dst v) w' | .panicked ch => Q (.panic ch) a w' | .outgrown => False)) :
  o.uponIn (FR r) 0 P a K Q ((do let d ← Deferred.ofValue v args.toArray; invoke d.target d.args : Sem Next).run P w) := by
 unfold CV at h
 split at h
 ·rename_i f first caps
  have e : ((do let d ← Deferred.ofValue (.func (.func f) first caps) args.toArray; invoke d.target d.args : Sem Next).run P w) = (callFunc f (first.toList ++ (args ++ caps.toList)).toArray).run P w := by
   have e0 : first ++ (args.toArray ++ caps) = (first.toList ++ (args ++ caps.toList)).toArray := by apply Array.ext'; simp
   simp [Deferred.ofValue,invoke,e0]
  rw [e]
  exact uponIn_of_FN h hR
 ·rename_i l first caps
  have e : ((do let d ← Deferred.ofValue (.func (.yield l) first caps) args.toArray; invoke d.target d.args : Sem Next).run P w) = (Instr.yield l (first.toList ++ args).toArray).run P w := by
   have e0 : first ++ args.toArray = (first.toList ++ args).toArray := by apply Array.ext'; simp
   simp [Deferred.ofValue,invoke,e0]
  rw [e]
  unfold YD at h
  split at h
  ·rename_i l' f tmps as body w' he
   rw [he]
   refine ⟨fun h => by simp [FR] at h,?_⟩
   have h' : RoundIn (FR r) 0 P l' f tmps as body w' R := h
   refine h'.mono fun e w' hr => ?_
   have := hR e w' hr
   cases e <;> first | exact this | exact this.elim
  ·exact h.elim
 ·exact h.elim
theorem VO_sound {P : Program} {n : Nat} {r : Option Nat} {o : Oper} {K : Cont} {Q : Post} {ρ : Env} {ds : List Deferred} {w : World} {tmps : Array Value} {K' : Act → World → Prop} {Q' : Exit → Act → World → Prop}
  (hAg : Ag n tmps ρ) (hok : okOp n o = true)
  (hK : ∀ (a' : Act) (ρ' : Env) (w' : World),Ag n a'.tmps ρ' → K ρ' a'.defers w' → K' a' w')
  (hQ : ∀ (e : Exit) (a' : Act) (ρ' : Env) (w' : World),Ag n a'.tmps ρ' → Q e ρ' a'.defers w' → Q' e a' w')
  (h : VO P r o K Q ρ ds w) : o.wpIn (FR r) 0 P ⟨tmps,ds⟩ w K' Q' := by
 refine ⟨fun _ _ => trivial,?_⟩
 have hd : okD n o.dst = true := (Bool.and_eq_true_iff.1 hok).1
 have hpk : ∀ v w', K (put ρ o.dst v) ds w' → K' ((Act.mk tmps ds).put o.dst v) w' := fun v w' hk =>
  hK _ _ _ (hAg.put hd v) (by rw [put_defers]; exact hk)
 have hrc : ∀ e w', RC o.dst K Q ρ ds e w' → (match e with | .returned v => K' ((Act.mk tmps ds).put o.dst v) w' | .panicked ch => Q' (.panic ch) ⟨tmps, ds⟩ w' | .outgrown => False) := by
  intro e w' he
  cases e with
  | returned v => exact hpk _ _ he
  | panicked ch => exact hQ _ _ _ _ hAg he
  | outgrown => exact he
 have hex := exec_eq (ds := ds) hAg hok
 obtain ⟨dst,op,ty,pos,aft,gd⟩ := o
 by_cases hdf : ∃ c, op = .defer c
 ·obtain ⟨c,rfl⟩ := hdf
  obtain ⟨callee,args,ats⟩ := c
  cases callee with
  | value f =>
   simp only [VO] at h
   obtain ⟨rfl,h⟩ := h
   have e1 : Oper.semAt (FR none).round (Act.mk tmps ds).eval { dst := dst, op := .defer ⟨.value f, args, ats⟩, type := ty, pos := pos, after := aft, guard := gd } = execOp (ev ρ) { dst := dst, op := .defer ⟨.value f, args, ats⟩, type := ty, pos := pos, after := aft, guard := gd } := by
    rw [← hex]; rfl
   rw [e1]
   simp only [execOp,resolve]
   unfold DF at h
   split at h
   ·rename_i fn first caps he
    rw [he]
    have e2 : ((do pure (Next.defer (← Deferred.ofValue (.func fn first caps) (args.map (ev ρ)))) : Sem Next).run P w) = .ok (.defer { target := .fn fn caps, args := (first.toList ++ args.toList.map (ev ρ)).toArray }) w := by
     simp [Deferred.ofValue]
    rw [e2]
    exact hK _ _ _ (Ag.put (ds := _ :: ds) hAg hd undef) (by rw [put_defers]; exact h)
   ·exact h.elim
  | _ => simp only [VO] at h
 ·have e1 : Oper.semAt (FR r).round (Act.mk tmps ds).eval ⟨dst, op, ty, pos, aft, gd⟩ = execOp (ev ρ) ⟨dst, op, ty, pos, aft, gd⟩ := by
   rw [Oper.semAt_eq _ _ _ (fun c e => hdf ⟨c,e⟩)]; exact hex
  rw [e1]
  cases op with
  | move x => exact hpk _ _ h
  | assign x => exact hpk _ _ h
  | makeFunc fn first caps => exact hpk _ _ h
  | pick c a b =>
   have e : execOp (ev ρ) ⟨dst, .pick c a b, ty, pos, aft, gd⟩ = (do let x ← (do pure (if ← asBool (ev ρ c) then ev ρ a else ev ρ b) : Sem Value); pure (Next.value x) : Sem Next) := by
    simp only [execOp,bind_assoc,pure_bind]
   rw [e]
   exact uponIn_of_onR h hpk
  | alloc t => exact uponIn_of_onR h hpk
  | box t x =>
   have h' : onR ((Instr.box t (ev ρ x)).run P w) (fun v w' => K (put ρ dst v) ds w') := h
   exact uponIn_of_onR h' hpk
  | build t ps => exact uponIn_of_onR h hpk
  | buildSlice t k ps => exact uponIn_of_onR h hpk
  | load t x => exact uponIn_of_onR h hpk
  | store t x y => exact uponIn_of_onU h (fun w' => hpk _ w')
  | nilCheck x =>
   simp only [VO] at h
   simp only [execOp]
   cases hx : ev ρ x with
   | pointer p =>
    cases p with
    | none => rw [hx] at h; exact h.elim
    | some p => rw [hx] at h; exact hpk _ _ h
   | _ => rw [hx] at h; exact h.elim
  | binOp p t x y t' => exact uponIn_of_onR h hpk
  | unOp p t x => exact uponIn_of_onR h hpk
  | convert s d x => exact uponIn_of_onR h hpk
  | sliceToArrayPointer t x => exact uponIn_of_onR h hpk
  | makeInterface t x => exact uponIn_of_onR h hpk
  | makeMap t x => exact uponIn_of_onR h hpk
  | makeSlice t l c => exact uponIn_of_onR h hpk
  | slice t x lo hi mx => exact uponIn_of_onR h hpk
  | fieldAddr s x f => exact uponIn_of_onR h hpk
  | field s x f => exact uponIn_of_onR h hpk
  | indexAddr s x f => exact uponIn_of_onR h hpk
  | index s x f => exact uponIn_of_onR h hpk
  | lookup s x f ok => exact uponIn_of_onR h hpk
  | mapUpdate t m k x => exact uponIn_of_onU h (fun w' => hpk _ w')
  | insert t m k x => exact uponIn_of_onU h (fun w' => hpk _ w')
  | mapEntry t m k => exact uponIn_of_onR h hpk
  | entryStore t m k x => exact uponIn_of_onU h (fun w' => hpk _ w')
  | range t x => exact uponIn_of_onR h hpk
  | next it s => exact uponIn_of_onR h hpk
  | entry it => exact uponIn_of_onR h hpk
  | typeAssert x t d ok => exact uponIn_of_onR h hpk
  | extract t i => exact uponIn_of_onR h hpk
  | panic x =>
   simp only [VO] at h
   unfold PN at h
   split at h
   ·rename_i t v he
    simp only [execOp,he,Instr.panic,goPanic]
    exact hQ _ _ _ _ hAg h
   ·exact h.elim
  | call c =>
   obtain ⟨callee,args,ats⟩ := c
   cases callee with
   | value f =>
    simp only [VO] at h
    have := uponIn_of_CV (r := r) (o := ⟨dst,.call ⟨.value f,args,ats⟩,ty,pos,aft,gd⟩) (a := ⟨tmps,ds⟩) (K := K') (Q := Q') h hrc
    have e : execOp (ev ρ) ⟨dst, .call ⟨.value f, args, ats⟩, ty, pos, aft, gd⟩ = (do let d ← Deferred.ofValue (ev ρ f) (args.toList.map (ev ρ)).toArray; invoke d.target d.args : Sem Next) := by
     have : (args.toList.map (ev ρ)).toArray = args.map (ev ρ) := by apply Array.ext'; simp
     rw [this]; rfl
    rw [e]; exact this
   | builtin b =>
    simp only [VO] at h
    have e : ∀ s : Sem Value, BV b ats ty (args.map (ev ρ)) = s → onR (s.run P w) (fun v w' => K (put ρ dst v) ds w') → execOp (ev ρ) ⟨dst, .call ⟨.builtin b, args, ats⟩, ty, pos, aft, gd⟩ = (do pure (Next.value (← s)) : Sem Next) := by
     intro s hs hh
     cases b <;> simp only [BV] at hs <;> subst hs <;> first | (exact hh.elim) | rfl
    rw [e _ rfl h]
    exact uponIn_of_onR h hpk
   | invoke x m =>
    simp only [VO] at h
    have := uponIn_of_IV (r := r) (o := ⟨dst,.call ⟨.invoke x m,args,ats⟩,ty,pos,aft,gd⟩) (a := ⟨tmps,ds⟩) (K := K') (Q := Q') h hrc
    have e : execOp (ev ρ) ⟨dst, .call ⟨.invoke x m, args, ats⟩, ty, pos, aft, gd⟩ = (invoke (.fn (.method m) #[]) (ev ρ x :: args.toList.map (ev ρ)).toArray : Sem Next) := by
     have : (ev ρ x :: args.toList.map (ev ρ)).toArray = #[ev ρ x] ++ args.map (ev ρ) := by apply Array.ext'; simp
     rw [this]; rfl
    rw [e]; exact this
  | defer c => exact (hdf ⟨c,rfl⟩).elim
  | _ => exact (show False from h).elim
def VL (P : Program) (r : Option Nat) (ops : Array Oper) (Q : Post) : List Oper → Env → List Deferred → World → Prop
 | [],ρ,ds,w => Q .normal ρ ds w
 | o :: rest,ρ,ds,w => GI (gw ops ρ o.guard) (VO P r o (VL P r ops Q rest) Q ρ ds w) (VL P r ops Q rest (put ρ o.dst undef) ds w)
theorem VL_sound {P : Program} {n : Nat} {r : Option Nat} {ops : Array Oper} {Q : Post} {Q' : Exit → Act → World → Prop} (hops : ops.toList.all (okOp n) = true)
  (hQ : ∀ (e : Exit) (a' : Act) (ρ' : Env) (w' : World),Ag n a'.tmps ρ' → Q e ρ' a'.defers w' → Q' e a' w') :
  ∀ (l : List Nat) (lo : List Oper), l.map (fun i => ops[i]?) = lo.map some → ∀ (a : Act) (ρ : Env) (w : World), Ag n a.tmps ρ → VL P r ops Q lo ρ a.defers w →
   wpOpsIn (FR r) 0 P ops Q' l a w := by
 intro l
 induction l with
 | nil =>
  intro lo hl a ρ w hAg h
  cases lo with
  | nil => exact hQ _ _ _ _ hAg h
  | cons o lo => simp at hl
 | cons i l ih =>
  intro lo hl a ρ w hAg h
  cases lo with
  | nil => simp at hl
  | cons o lo =>
   simp only [List.map_cons,List.cons.injEq] at hl
   obtain ⟨ho,hl⟩ := hl
   simp only [wpOpsIn,ho]
   have hok : okOp n o = true := List.all_eq_true.1 hops o (by simpa using Array.mem_of_getElem? ho)
   rw [gw_eq hAg hops o]
   unfold VL at h
   cases hg : gw ops ρ o.guard with
   | true =>
    rw [hg,GI_true] at h
    simp only [if_true]
    exact VO_sound hAg hok (fun a' ρ' w' hA hk => ih lo hl a' ρ' w' hA hk) hQ h
   | false =>
    rw [hg,GI_false] at h
    simp only [Bool.false_eq_true,if_false]
    refine ⟨fun _ _ => trivial,ih lo hl _ _ _ (hAg.put (ds := a.defers) ?_ undef) (by rw [put_defers]; exact h)⟩
    exact (Bool.and_eq_true_iff.1 hok).1
theorem range_map (ops : Array Oper) : (List.range ops.size).map (fun i => ops[i]?) = ops.toList.map some := by
 apply List.ext_getElem?
 intro i
 simp only [List.getElem?_map,Array.getElem?_toList]
 by_cases h : i < ops.size
 ·simp [h]
 ·simp [Nat.not_lt.1 h]
end Pk
namespace Pk
open Go
def WC (P : Program) (n : Nat) (r : Option Nat) (c : Code) (Q : Post) (ρ : Env) (ds : List Deferred) (w : World) : Prop :=
 okC n c = true → ∀ tmps,Ag n tmps ρ → c.wpIn (FR r) 0 P (fun e a w' => ∃ ρ',Ag n a.tmps ρ' ∧ Q e ρ' a.defers w') ⟨tmps,ds⟩ w
def QS (K : Cont) (Q : Post) : Post
 | .normal => K
 | e => Q e
def QB (id : Nat) (Q : Post) : Post
 | .exit id',ρ,ds,w => if id' = id then Q .normal ρ ds w else Q (.exit id') ρ ds w
 | e,ρ,ds,w => Q e ρ ds w
section
variable (K : Cont) (Q : Post) (ρ : Env) (ds : List Deferred) (w : World)
@[simp ↓] theorem QS_normal : QS K Q .normal ρ ds w = K ρ ds w := _root_.id rfl
@[simp ↓] theorem QS_ret : QS K Q .ret ρ ds w = Q .ret ρ ds w := _root_.id rfl
@[simp ↓] theorem QS_exit (id : Nat) : QS K Q (.exit id) ρ ds w = Q (.exit id) ρ ds w := _root_.id rfl
@[simp ↓] theorem QS_goto (l : Nat) : QS K Q (.goto l) ρ ds w = Q (.goto l) ρ ds w := _root_.id rfl
@[simp ↓] theorem QS_panic (ch : List PanicEntry) : QS K Q (.panic ch) ρ ds w = Q (.panic ch) ρ ds w := _root_.id rfl
@[simp ↓] theorem QB_normal (id : Nat) : QB id Q .normal ρ ds w = Q .normal ρ ds w := _root_.id rfl
@[simp ↓] theorem QB_ret (id : Nat) : QB id Q .ret ρ ds w = Q .ret ρ ds w := _root_.id rfl
@[simp ↓] theorem QB_exit (id id' : Nat) : QB id Q (.exit id') ρ ds w = if id' = id then Q .normal ρ ds w else Q (.exit id') ρ ds w := _root_.id rfl
@[simp ↓] theorem QB_goto (id l : Nat) : QB id Q (.goto l) ρ ds w = Q (.goto l) ρ ds w := _root_.id rfl
@[simp ↓] theorem QB_panic (id : Nat) (ch : List PanicEntry) : QB id Q (.panic ch) ρ ds w = Q (.panic ch) ρ ds w := _root_.id rfl
end
def vc (P : Program) (n : Nat) (r : Option Nat) : Code → Post → Cont
 | .skip,Q => Q .normal
 | .label _,Q => Q .normal
 | .ret,Q => Q .ret
 | .exit id,Q => Q (.exit id)
 | .goto l,Q => Q (.goto l)
 | .seq a b,Q => vc P n r a (QS (vc P n r b Q) Q)
 | .block id c,Q => vc P n r c (QB id Q)
 | .cond c t e,Q => fun ρ ds w => onB (ev ρ c) (vc P n r t Q ρ ds w) (vc P n r e Q ρ ds w)
 | .region id ops draw,Q => fun ρ ds w => if draw = true then WC P n r (.region id ops true) Q ρ ds w else VL P r ops Q ops.toList ρ ds w
 | .loop c,Q => WC P n r (.loop c) Q
 | .scope c,Q => WC P n r (.scope c) Q
 | .rangeFunc f ps a b,Q => WC P n r (.rangeFunc f ps a b) Q
 | .refuse _,_ => fun _ _ _ => False
theorem WC_region {P : Program} {n : Nat} {r : Option Nat} {id : Nat} {ops : Array Oper} {Q : Post} {ρ : Env} {ds : List Deferred} {w : World} (h : VL P r ops Q ops.toList ρ ds w) :
  WC P n r (.region id ops false) Q ρ ds w := fun hok tmps hA =>
 wpIn_region (VL_sound (Q' := fun e a w' => ∃ ρ',Ag n a.tmps ρ' ∧ Q e ρ' a.defers w') hok (fun _ _ ρ' _ hA' hq => ⟨ρ',hA',hq⟩) (List.range ops.size) ops.toList (range_map ops) ⟨tmps,ds⟩ ρ w hA h)
theorem vc_sound {P : Program} {n : Nat} {r : Option Nat} : ∀ (c : Code) (Q : Post) (ρ : Env) (ds : List Deferred) (w : World), vc P n r c Q ρ ds w → WC P n r c Q ρ ds w := by
 intro c
 induction c with
 | skip => exact fun Q ρ ds w h _ tmps hA => wpIn_skip ⟨ρ,hA,h⟩
 | label l => exact fun Q ρ ds w h _ tmps hA => wpIn_label ⟨ρ,hA,h⟩
 | ret => exact fun Q ρ ds w h _ tmps hA => wpIn_ret ⟨ρ,hA,h⟩
 | exit id => exact fun Q ρ ds w h _ tmps hA => wpIn_exit ⟨ρ,hA,h⟩
 | goto l => exact fun Q ρ ds w h _ tmps hA => wpIn_goto ⟨ρ,hA,h⟩
 | seq a b iha ihb =>
  intro Q ρ ds w h hok tmps hA
  have hok' := Bool.and_eq_true_iff.1 hok
  refine wpIn_seq (wpIn_mono (iha _ ρ ds w h hok'.1 tmps hA) ?_)
  rintro e a' w' ⟨ρ',hA',hq⟩
  cases e with
  | normal => exact ihb _ _ _ _ hq hok'.2 _ hA'
  | _ => exact ⟨ρ',hA',hq⟩
 | block id c ih =>
  intro Q ρ ds w h hok tmps hA
  refine wpIn_block (wpIn_mono (ih _ ρ ds w h hok tmps hA) ?_)
  rintro e a' w' ⟨ρ',hA',hq⟩
  cases e with
  | exit id' =>
   simp only [QB] at hq
   simp only [Exit.inBlock]
   by_cases e : id' = id
   ·rw [if_pos e] at hq ⊢; exact ⟨ρ',hA',hq⟩
   ·rw [if_neg e] at hq ⊢; exact ⟨ρ',hA',hq⟩
  | _ => exact ⟨ρ',hA',hq⟩
 | cond c t e iht ihe =>
  intro Q ρ ds w h hok tmps hA
  have hok' := Bool.and_eq_true_iff.1 hok
  have hok'' := Bool.and_eq_true_iff.1 hok'.2
  simp only [vc] at h
  unfold onB at h
  split at h
  ·rename_i b hb
   have hc : (Act.mk tmps ds).eval c = .bool b := (eval_eq hA hok'.1).trans hb
   cases b with
   | true => exact wpIn_cond hc (iht _ _ _ _ (by simpa using h) hok''.1 tmps hA)
   | false => exact wpIn_cond hc (ihe _ _ _ _ (by simpa using h) hok''.2 tmps hA)
  ·exact h.elim
 | region id ops draw =>
  intro Q ρ ds w h
  simp only [vc] at h
  cases draw with
  | true => simpa using h
  | false => exact WC_region (by simpa using h)
 | loop c ih => exact fun Q ρ ds w h => h
 | scope c ih => exact fun Q ρ ds w h => h
 | rangeFunc f ps a b iha ihb => exact fun Q ρ ds w h => h
 | refuse s => exact fun Q ρ ds w h => h.elim
def vct (P : Program) (n : Nat) (r : Option Nat) (c : Code) (Q : Post) (_ : Tok (PProd.mk c Q)) (ρ : Env) (ds : List Deferred) (w : World) : Prop := vc P n r c Q ρ ds w
def WCt (P : Program) (n : Nat) (r : Option Nat) (c : Code) (Q : Post) (_ : Tok (PProd.mk c Q)) (ρ : Env) (ds : List Deferred) (w : World) : Prop := WC P n r c Q ρ ds w
def VLt (P : Program) (r : Option Nat) (ops : Array Oper) (Q : Post) (l : List Oper) (_ : Tok (PProd.mk ops (PProd.mk Q l))) (ρ : Env) (ds : List Deferred) (w : World) : Prop := VL P r ops Q l ρ ds w
section
variable (P : Program) (n : Nat) (r : Option Nat) (Q : Post) (ρ : Env) (ds : List Deferred) (w : World)
@[simp ↓] theorem vc_tok (c : Code) : vc P n r c Q ρ ds w = vct P n r c Q .mk ρ ds w := _root_.id rfl
@[simp ↓] theorem WC_tok (c : Code) : WC P n r c Q ρ ds w = WCt P n r c Q .mk ρ ds w := _root_.id rfl
@[simp ↓] theorem VL_tok (ops : Array Oper) (l : List Oper) : VL P r ops Q l ρ ds w = VLt P r ops Q l .mk ρ ds w := _root_.id rfl
@[simp] theorem vct_skip (t) : vct P n r .skip Q t ρ ds w = Q .normal ρ ds w := _root_.id rfl
@[simp] theorem vct_label (l : Nat) (t) : vct P n r (.label l) Q t ρ ds w = Q .normal ρ ds w := _root_.id rfl
@[simp] theorem vct_ret (t) : vct P n r .ret Q t ρ ds w = Q .ret ρ ds w := _root_.id rfl
@[simp] theorem vct_exit (id : Nat) (t) : vct P n r (.exit id) Q t ρ ds w = Q (.exit id) ρ ds w := _root_.id rfl
@[simp] theorem vct_goto (l : Nat) (t) : vct P n r (.goto l) Q t ρ ds w = Q (.goto l) ρ ds w := _root_.id rfl
@[simp] theorem vct_seq (a b : Code) (t) : vct P n r (.seq a b) Q t ρ ds w = vct P n r a (QS (vc P n r b Q) Q) .mk ρ ds w := _root_.id rfl
@[simp] theorem vct_block (id : Nat) (c : Code) (t) : vct P n r (.block id c) Q t ρ ds w = vct P n r c (QB id Q) .mk ρ ds w := _root_.id rfl
@[simp] theorem vct_cond (c : Operand) (x y : Code) (t) : vct P n r (.cond c x y) Q t ρ ds w = onBt (ev ρ c) (vc P n r x Q ρ ds w) (vc P n r y Q ρ ds w) .mk := _root_.id rfl
@[simp] theorem vct_region (id : Nat) (ops : List Oper) (t) : vct P n r (.region id ops.toArray false) Q t ρ ds w = VLt P r ops.toArray Q ops .mk ρ ds w := by unfold vct vc VLt; rfl
@[simp] theorem vct_draw (id : Nat) (ops : Array Oper) (t) : vct P n r (.region id ops true) Q t ρ ds w = WCt P n r (.region id ops true) Q .mk ρ ds w := by unfold vct vc WCt; rfl
@[simp] theorem vct_loop (c : Code) (t) : vct P n r (.loop c) Q t ρ ds w = WCt P n r (.loop c) Q .mk ρ ds w := _root_.id rfl
@[simp] theorem vct_scope (c : Code) (t) : vct P n r (.scope c) Q t ρ ds w = WCt P n r (.scope c) Q .mk ρ ds w := _root_.id rfl
@[simp] theorem vct_rangeFunc (f : Operand) (ps : Array Tmp) (a b : Code) (t) : vct P n r (.rangeFunc f ps a b) Q t ρ ds w = WCt P n r (.rangeFunc f ps a b) Q .mk ρ ds w := _root_.id rfl
@[simp] theorem VLt_nil (ops : Array Oper) (t) : VLt P r ops Q [] t ρ ds w = Q .normal ρ ds w := _root_.id rfl
@[simp] theorem VLt_cons (ops : Array Oper) (o : Oper) (rest : List Oper) (t) : VLt P r ops Q (o :: rest) t ρ ds w = GIt (gw ops ρ o.guard) (VO P r o (VL P r ops Q rest) Q ρ ds w) (VL P r ops Q rest (put ρ o.dst undef) ds w) .mk := _root_.id rfl
end
section
variable (P : Program) (r : Option Nat) (d : Option Tmp) (ty : TypeId) (pos : String) (af : Array Edge) (gd : Option (Nat × Bool)) (K : Cont) (Q : Post) (ρ : Env) (ds : List Deferred) (w : World)
@[simp ↓] theorem VO_move (x : Operand) : VO P r ⟨d,.move x,ty,pos,af,gd⟩ K Q ρ ds w = K (put ρ d (ev ρ x)) ds w := _root_.id rfl
@[simp ↓] theorem VO_assign (x : Operand) : VO P r ⟨d,.assign x,ty,pos,af,gd⟩ K Q ρ ds w = K (put ρ d (ev ρ x)) ds w := _root_.id rfl
@[simp ↓] theorem VO_pick (c a b : Operand) : VO P r ⟨d,.pick c a b,ty,pos,af,gd⟩ K Q ρ ds w = onR (((do pure (if ← asBool (ev ρ c) then ev ρ a else ev ρ b) : Sem Value)).run P w) fun v w' => K (put ρ d v) ds w' := _root_.id rfl
@[simp ↓] theorem VO_alloc (t : TypeId) : VO P r ⟨d,.alloc t,ty,pos,af,gd⟩ K Q ρ ds w = onR ((Instr.alloc t true (.tuple #[])).run P w) fun v w' => K (put ρ d v) ds w' := _root_.id rfl
@[simp ↓] theorem VO_box (t : TypeId) (x : Operand) : VO P r ⟨d,.box t x,ty,pos,af,gd⟩ K Q ρ ds w = onR ((Instr.box t (ev ρ x)).run P w) fun v w' => K (put ρ d v) ds w' := _root_.id rfl
@[simp ↓] theorem VO_build (t : TypeId) (ps : List (Nat × Operand)) : VO P r ⟨d,.build t ps.toArray,ty,pos,af,gd⟩ K Q ρ ds w = onR ((Instr.build t (ps.map fun p => (p.1,ev ρ p.2)).toArray).run P w) fun v w' => K (put ρ d v) ds w' := by simp [VO]
@[simp ↓] theorem VO_buildSlice (t : TypeId) (n : Nat) (ps : List (Nat × Operand)) : VO P r ⟨d,.buildSlice t n ps.toArray,ty,pos,af,gd⟩ K Q ρ ds w = onR ((Instr.buildSlice t n (ps.map fun p => (p.1,ev ρ p.2)).toArray).run P w) fun v w' => K (put ρ d v) ds w' := by simp [VO]
@[simp ↓] theorem VO_load (t : TypeId) (a : Operand) : VO P r ⟨d,.load t a,ty,pos,af,gd⟩ K Q ρ ds w = onR ((Instr.loadAt t (ev ρ a)).run P w) fun v w' => K (put ρ d v) ds w' := _root_.id rfl
@[simp ↓] theorem VO_store (t : TypeId) (a x : Operand) : VO P r ⟨d,.store t a x,ty,pos,af,gd⟩ K Q ρ ds w = onU ((Instr.storeAt t (ev ρ a) (ev ρ x)).run P w) fun w' => K (put ρ d undef) ds w' := _root_.id rfl
@[simp ↓] theorem VO_nilCheck (x : Operand) : VO P r ⟨d, .nilCheck x, ty, pos, af, gd⟩ K Q ρ ds w = onR (((match ev ρ x with | .pointer (some a) => pure (.pointer (some a)) | _ => stuck "nilCheck" : Sem Value)).run P w) fun v w' => K (put ρ d v) ds w' := _root_.id rfl
@[simp ↓] theorem VO_binOp (op : BinOp) (t t' : TypeId) (x y : Operand) : VO P r ⟨d,.binOp op t x y t',ty,pos,af,gd⟩ K Q ρ ds w = onR (((do eqGuard op t x y (ev ρ x) (ev ρ y); binOp op t (ev ρ x) (ev ρ y) : Sem Value)).run P w) fun v w' => K (put ρ d v) ds w' := _root_.id rfl
@[simp ↓] theorem VO_unOp (op : UnOp) (t : TypeId) (x : Operand) : VO P r ⟨d,.unOp op t x,ty,pos,af,gd⟩ K Q ρ ds w = onR ((Op.unary op (ev ρ x)).run P w) fun v w' => K (put ρ d v) ds w' := _root_.id rfl
@[simp ↓] theorem VO_convert (s t : TypeId) (x : Operand) : VO P r ⟨d,.convert s t x,ty,pos,af,gd⟩ K Q ρ ds w = onR ((convert s t (ev ρ x)).run P w) fun v w' => K (put ρ d v) ds w' := _root_.id rfl
@[simp ↓] theorem VO_s2ap (t : TypeId) (x : Operand) : VO P r ⟨d,.sliceToArrayPointer t x,ty,pos,af,gd⟩ K Q ρ ds w = onR ((Instr.arrayAt t (ev ρ x)).run P w) fun v w' => K (put ρ d v) ds w' := _root_.id rfl
@[simp ↓] theorem VO_makeInterface (t : TypeId) (x : Operand) : VO P r ⟨d,.makeInterface t x,ty,pos,af,gd⟩ K Q ρ ds w = onR ((Instr.makeInterface t (ev ρ x)).run P w) fun v w' => K (put ρ d v) ds w' := _root_.id rfl
@[simp ↓] theorem VO_makeFunc (fn : Fn) (first caps : List Operand) : VO P r ⟨d,.makeFunc fn first.toArray caps.toArray,ty,pos,af,gd⟩ K Q ρ ds w = K (put ρ d (.func fn (first.map (ev ρ)).toArray (caps.map (ev ρ)).toArray)) ds w := by simp [VO]
@[simp ↓] theorem VO_makeMap (t : TypeId) (x : Option Operand) : VO P r ⟨d,.makeMap t x,ty,pos,af,gd⟩ K Q ρ ds w = onR ((Instr.makeMap t (x.map (ev ρ))).run P w) fun v w' => K (put ρ d v) ds w' := _root_.id rfl
@[simp ↓] theorem VO_makeSlice (t : TypeId) (l c : Operand) : VO P r ⟨d,.makeSlice t l c,ty,pos,af,gd⟩ K Q ρ ds w = onR ((Instr.makeSlice t (ev ρ l) (ev ρ c)).run P w) fun v w' => K (put ρ d v) ds w' := _root_.id rfl
@[simp ↓] theorem VO_slice (t : TypeId) (x : Operand) (lo hi mx : Option Operand) : VO P r ⟨d,.slice t x lo hi mx,ty,pos,af,gd⟩ K Q ρ ds w = onR ((Instr.sliceAt t (ev ρ x) (lo.map (ev ρ)) (hi.map (ev ρ)) (mx.map (ev ρ))).run P w) fun v w' => K (put ρ d v) ds w' := _root_.id rfl
@[simp ↓] theorem VO_fieldAddr (s : TypeId) (x : Operand) (f : Nat) : VO P r ⟨d,.fieldAddr s x f,ty,pos,af,gd⟩ K Q ρ ds w = onR ((Instr.fieldAt s (ev ρ x) f).run P w) fun v w' => K (put ρ d v) ds w' := _root_.id rfl
@[simp ↓] theorem VO_field (s : TypeId) (x : Operand) (f : Nat) : VO P r ⟨d,.field s x f,ty,pos,af,gd⟩ K Q ρ ds w = onR ((Instr.field s (ev ρ x) f).run P w) fun v w' => K (put ρ d v) ds w' := _root_.id rfl
@[simp ↓] theorem VO_indexAddr (s : TypeId) (x i : Operand) : VO P r ⟨d,.indexAddr s x i,ty,pos,af,gd⟩ K Q ρ ds w = onR ((Instr.indexAt s (ev ρ x) (ev ρ i)).run P w) fun v w' => K (put ρ d v) ds w' := _root_.id rfl
@[simp ↓] theorem VO_index (s : TypeId) (x i : Operand) : VO P r ⟨d,.index s x i,ty,pos,af,gd⟩ K Q ρ ds w = onR ((Instr.index s (ev ρ x) (ev ρ i)).run P w) fun v w' => K (put ρ d v) ds w' := _root_.id rfl
@[simp ↓] theorem VO_lookup (s : TypeId) (x i : Operand) (ok : Bool) : VO P r ⟨d,.lookup s x i ok,ty,pos,af,gd⟩ K Q ρ ds w = onR ((Instr.lookup s (ev ρ x) (ev ρ i) ok).run P w) fun v w' => K (put ρ d v) ds w' := _root_.id rfl
@[simp ↓] theorem VO_mapUpdate (t : TypeId) (m k x : Operand) : VO P r ⟨d,.mapUpdate t m k x,ty,pos,af,gd⟩ K Q ρ ds w = onU ((Instr.mapUpdate t (ev ρ m) (ev ρ k) (ev ρ x)).run P w) fun w' => K (put ρ d undef) ds w' := _root_.id rfl
@[simp ↓] theorem VO_insert (t : TypeId) (m k x : Operand) : VO P r ⟨d,.insert t m k x,ty,pos,af,gd⟩ K Q ρ ds w = onU ((Instr.mapUpdate t (ev ρ m) (ev ρ k) (ev ρ x)).run P w) fun w' => K (put ρ d undef) ds w' := _root_.id rfl
@[simp ↓] theorem VO_mapEntry (t : TypeId) (m k : Operand) : VO P r ⟨d,.mapEntry t m k,ty,pos,af,gd⟩ K Q ρ ds w = onR ((Instr.mapEntry t (ev ρ m) (ev ρ k)).run P w) fun v w' => K (put ρ d v) ds w' := _root_.id rfl
@[simp ↓] theorem VO_entryStore (t : TypeId) (m s x : Operand) : VO P r ⟨d,.entryStore t m s x,ty,pos,af,gd⟩ K Q ρ ds w = onU ((Instr.entryStore t (ev ρ m) (ev ρ s) (ev ρ x)).run P w) fun w' => K (put ρ d undef) ds w' := _root_.id rfl
@[simp ↓] theorem VO_range (t : TypeId) (x : Operand) : VO P r ⟨d,.range t x,ty,pos,af,gd⟩ K Q ρ ds w = onR ((Instr.range t (ev ρ x)).run P w) fun v w' => K (put ρ d v) ds w' := _root_.id rfl
@[simp ↓] theorem VO_next (it : Operand) (s : Bool) : VO P r ⟨d,.next it s,ty,pos,af,gd⟩ K Q ρ ds w = onR ((Instr.next (ev ρ it) s ty).run P w) fun v w' => K (put ρ d v) ds w' := _root_.id rfl
@[simp ↓] theorem VO_entry (it : Operand) : VO P r ⟨d,.entry it,ty,pos,af,gd⟩ K Q ρ ds w = onR ((Instr.entry (ev ρ it)).run P w) fun v w' => K (put ρ d v) ds w' := _root_.id rfl
@[simp ↓] theorem VO_typeAssert (x : Operand) (s t : TypeId) (ok : Bool) : VO P r ⟨d,.typeAssert x s t ok,ty,pos,af,gd⟩ K Q ρ ds w = onR ((Instr.typeAssert (ev ρ x) s t ok).run P w) fun v w' => K (put ρ d v) ds w' := _root_.id rfl
@[simp ↓] theorem VO_extract (t : Operand) (i : Nat) : VO P r ⟨d,.extract t i,ty,pos,af,gd⟩ K Q ρ ds w = onR ((Instr.extract (ev ρ t) i).run P w) fun v w' => K (put ρ d v) ds w' := _root_.id rfl
@[simp ↓] theorem VO_call (f : Operand) (args : List Operand) (ats : Array TypeId) : VO P r ⟨d,.call ⟨.value f,args.toArray,ats⟩,ty,pos,af,gd⟩ K Q ρ ds w = CV P (ev ρ f) (args.map (ev ρ)) w (RC d K Q ρ ds) := by simp [VO]
@[simp ↓] theorem VO_builtin (b : Builtin) (args : List Operand) (ats : Array TypeId) : VO P r ⟨d,.call ⟨.builtin b,args.toArray,ats⟩,ty,pos,af,gd⟩ K Q ρ ds w = onR ((BV b ats ty (args.map (ev ρ)).toArray).run P w) fun v w' => K (put ρ d v) ds w' := by simp [VO]
@[simp ↓] theorem VO_defer (f : Operand) (args : List Operand) (ats : Array TypeId) : VO P r ⟨d,.defer ⟨.value f,args.toArray,ats⟩,ty,pos,af,gd⟩ K Q ρ ds w = (r = none ∧ DF (ev ρ f) (args.map (ev ρ)) fun x => K (put ρ d undef) (x :: ds) w) := by simp [VO]
@[simp ↓] theorem VO_panic (x : Operand) : VO P r ⟨d,.panic x,ty,pos,af,gd⟩ K Q ρ ds w = PN (ev ρ x) fun ch => Q (.panic ch) ρ ds w := _root_.id rfl
end
def dstAt : List Oper → Nat → Option Tmp
 | [],_ => none
 | o :: _,0 => o.dst
 | _ :: l,j + 1 => dstAt l j
def gdv (v : Value) (b : Bool) : Bool := match v with | .bool x => x == b | _ => false
def gd (ρ : Env) (d : Option Tmp) (b : Bool) : Bool := match d with | some d => gdv (ρ d) b | none => false
@[simp ↓] theorem dstAt_zero (d : Option Tmp) (op : Op) (ty : TypeId) (pos : String) (af : Array Edge) (g : Option (Nat × Bool)) (l : List Oper) : dstAt (⟨d,op,ty,pos,af,g⟩ :: l) 0 = d := _root_.id rfl
@[simp ↓] theorem dstAt_succ (o : Oper) (l : List Oper) (j : Nat) : dstAt (o :: l) (j + 1) = dstAt l j := _root_.id rfl
@[simp] theorem gdv_bool (x b : Bool) : gdv (.bool x) b = (x == b) := _root_.id rfl
@[simp] theorem gd_some (ρ : Env) (d : Tmp) (b : Bool) : gd ρ (some d) b = gdv (ρ d) b := _root_.id rfl
theorem dstAt_eq (l : List Oper) : ∀ j, (l[j]?).bind (·.dst) = dstAt l j := by
 induction l with
 | nil => intro j; simp [dstAt]
 | cons o l ih => intro j; cases j with
  | zero => rfl
  | succ j => simp [ih]
@[simp ↓] theorem gw_some (l : List Oper) (ρ : Env) (j : Nat) (b : Bool) : gw l.toArray ρ (some (j, b)) = gd ρ (dstAt l j) b := by
 have e : gw l.toArray ρ (some (j,b)) = (gv l.toArray ρ j == some b) := rfl
 rw [e]
 have e2 : gv l.toArray ρ j = (match dstAt l j with | some d => (match ρ d with | .bool b => some b | _ => none) | none => none) := by
  unfold gv; first | (rw [List.getElem?_toArray,dstAt_eq]; done) | (rw [List.getElem?_toArray,dstAt_eq]; cases dstAt l j <;> rfl)
 rw [e2]
 cases dstAt l j with
 | none => rfl
 | some d =>
  dsimp only [gd,gdv]
  generalize ρ d = v
  cases v with
  | bool x => cases x <;> cases b <;> rfl
  | _ => rfl
def QL (I : Nat → Cont) (m : Nat) (Q : Post) : Post
 | .normal,ρ,ds,w => ∃ m',m' < m ∧ I m' ρ ds w
 | e,ρ,ds,w => Q e ρ ds w
section
variable (I : Nat → Cont) (m : Nat) (Q : Post) (ρ : Env) (ds : List Deferred) (w : World)
@[simp ↓] theorem QL_normal : QL I m Q .normal ρ ds w = ∃ m',m' < m ∧ I m' ρ ds w := _root_.id rfl
@[simp ↓] theorem QL_ret : QL I m Q .ret ρ ds w = Q .ret ρ ds w := _root_.id rfl
@[simp ↓] theorem QL_exit (id : Nat) : QL I m Q (.exit id) ρ ds w = Q (.exit id) ρ ds w := _root_.id rfl
@[simp ↓] theorem QL_goto (l : Nat) : QL I m Q (.goto l) ρ ds w = Q (.goto l) ρ ds w := _root_.id rfl
@[simp ↓] theorem QL_panic (ch : List PanicEntry) : QL I m Q (.panic ch) ρ ds w = Q (.panic ch) ρ ds w := _root_.id rfl
end
theorem exists_least {p : Nat → Prop} (h : ∃ n, p n) : ∃ n, p n ∧ ∀ m, p m → n ≤ m := by
 obtain ⟨n,hn⟩ := h
 induction n using Nat.strongRecOn with
 | _ n ih =>
  by_cases hx : ∃ m, m < n ∧ p m
  ·obtain ⟨m,hm,hp⟩ := hx; exact ih m hm hp
  ·exact ⟨n,hn,fun m hm => Nat.le_of_not_lt fun hlt => hx ⟨m,hlt,hm⟩⟩
theorem wpIn_loop_ghost {F : Fence} {n : Nat} {P : Program} {Q : Exit → Act → World → Prop} {a : Act} {w : World} {c : Code} (I : Nat → Act → World → Prop) (m₀ : Nat) (h₀ : I m₀ a w)
  (round : ∀ m a w,I m a w → c.wpIn F n P (Exit.then (fun a' w' => ∃ m',m' < m ∧ I m' a' w') Q) a w) : (Code.loop c).wpIn F n P Q a w := by
 classical
 let J : Act → World → Prop := fun a w => ∃ m,I m a w
 let least : Act → World → Nat := fun a w => if h : ∃ m,I m a w then Classical.choose (exists_least h) else 0
 refine wpIn_loop J least ⟨m₀,h₀⟩ fun a w hJ => ?_
 have hf := Classical.choose_spec (exists_least hJ)
 have hl : least a w = Classical.choose (exists_least hJ) := dif_pos hJ
 refine wpIn_mono (round _ a w hf.1) ?_
 intro e a' w' hq
 cases e with
 | normal =>
  obtain ⟨m',hm',hI'⟩ := hq
  refine ⟨⟨m',hI'⟩,?_⟩
  have hJ' : ∃ m,I m a' w' := ⟨m',hI'⟩
  have hl' : least a' w' = Classical.choose (exists_least hJ') := dif_pos hJ'
  rw [hl,hl']
  exact Nat.lt_of_le_of_lt ((Classical.choose_spec (exists_least hJ')).2 _ hI') hm'
 | _ => exact hq
theorem WC_loop {P : Program} {n : Nat} {r : Option Nat} {c : Code} {Q : Post} {ρ : Env} {ds : List Deferred} {w : World} (I : Nat → Cont) (m₀ : Nat) (h₀ : I m₀ ρ ds w)
  (round : ∀ m ρ' ds' w',I m ρ' ds' w' → vc P n r c (QL I m Q) ρ' ds' w') : WC P n r (.loop c) Q ρ ds w := by
 intro hok tmps hA
 refine wpIn_loop_ghost (fun m a w => ∃ ρ',Ag n a.tmps ρ' ∧ I m ρ' a.defers w) m₀ ⟨ρ,hA,h₀⟩ ?_
 rintro m a w' ⟨ρ',hA',hI⟩
 refine wpIn_mono (vc_sound c _ _ _ _ (round m ρ' a.defers w' hI) hok a.tmps hA') ?_
 rintro e a' w'' ⟨ρ'',hA'',hq⟩
 cases e with
 | normal => obtain ⟨m',hm',hI'⟩ := hq; exact ⟨m',hm',ρ'',hA'',hI'⟩
 | _ => exact ⟨ρ'',hA'',hq⟩
def QG (l : Nat) (K : Cont) (Q : Post) : Post
 | .goto l',ρ,ds,w => l' = l ∧ K ρ ds w
 | e,ρ,ds,w => Q e ρ ds w
def QN (Q : Post) : Post
 | .goto _,_,_,_ => False
 | e,ρ,ds,w => Q e ρ ds w
section
variable (l : Nat) (K : Cont) (Q : Post) (ρ : Env) (ds : List Deferred) (w : World)
@[simp ↓] theorem QG_normal : QG l K Q .normal ρ ds w = Q .normal ρ ds w := _root_.id rfl
@[simp ↓] theorem QG_ret : QG l K Q .ret ρ ds w = Q .ret ρ ds w := _root_.id rfl
@[simp ↓] theorem QG_exit (id : Nat) : QG l K Q (.exit id) ρ ds w = Q (.exit id) ρ ds w := _root_.id rfl
@[simp ↓] theorem QG_goto (l' : Nat) : QG l K Q (.goto l') ρ ds w = (l' = l ∧ K ρ ds w) := _root_.id rfl
@[simp ↓] theorem QG_panic (ch : List PanicEntry) : QG l K Q (.panic ch) ρ ds w = Q (.panic ch) ρ ds w := _root_.id rfl
@[simp ↓] theorem QN_normal : QN Q .normal ρ ds w = Q .normal ρ ds w := _root_.id rfl
@[simp ↓] theorem QN_ret : QN Q .ret ρ ds w = Q .ret ρ ds w := _root_.id rfl
@[simp ↓] theorem QN_exit (id : Nat) : QN Q (.exit id) ρ ds w = Q (.exit id) ρ ds w := _root_.id rfl
@[simp ↓] theorem QN_goto (l' : Nat) : QN Q (.goto l') ρ ds w = False := _root_.id rfl
@[simp ↓] theorem QN_panic (ch : List PanicEntry) : QN Q (.panic ch) ρ ds w = Q (.panic ch) ρ ds w := _root_.id rfl
end
theorem stepR_scope {P : Program} {b : Frame} {a : Act} {k : List Item} {cs : List Frame} {w : World} {c : Code} :
  step P (lone (b.atR a (.code (.scope c) :: k)) cs w) = .next (lone (b.atR a (.code c :: .inScope c :: k)) cs w) :=
 step_lone_go (by simp [stepG,stepG.exec,Frame.atR])
theorem stepR_inScope {P : Program} {b : Frame} {a : Act} {k : List Item} {cs : List Frame} {w : World} {c : Code} :
  step P (lone (b.atR a (.inScope c :: k)) cs w) = .next (lone (b.atR a k) cs w) :=
 step_lone_go (by simp [stepG,stepG.exec,Frame.atR])
theorem findLabel_ok {n : Nat} {l : Nat} : ∀ {c rest : Code}, findLabel c l = some rest → okC n c = true → okC n rest = true := by
 intro c
 induction c with
 | seq a b iha ihb =>
  intro rest h hok
  have hok' := Bool.and_eq_true_iff.1 hok
  simp only [findLabel] at h
  split at h
  ·rename_i r hr
   cases h
   exact Bool.and_eq_true_iff.2 ⟨iha hr hok'.1,hok'.2⟩
  ·exact ihb h hok'.2
 | label l' =>
  intro rest h _
  simp only [findLabel] at h
  split at h
  ·cases h; rfl
  ·cases h
 | _ => intro rest h; simp [findLabel] at h
theorem wpIn_scope {F : Fence} {n : Nat} {P : Program} {Q : Exit → Act → World → Prop} {a : Act} {w : World} {c : Code} {l : Nat} {rest : Code} (hf : findLabel c l = some rest) (hl : ∀ e a w, Q e a w → ∀ l', e ≠ .goto l')
  (h : c.wpIn F n P (fun e a w => match e with | .goto l' => l' = l ∧ rest.wpIn F n P Q a w | e => Q e a w) a w) : (Code.scope c).wpIn F n P Q a w := by
 intro b k cs hro hb hr
 have h0 : (lone (b.atR a (.code (.scope c) :: k)) cs w).fenced P F := fenced_calm hb hr rfl
 have fin : ∀ (m : Machine) e a₁ w₁, Q e a₁ w₁ → ArrivesIn (Machine.fenced P F) P m b (.inScope c :: k) cs e a₁ w₁ → ∃ e a' w', Q e a' w' ∧ ArrivesIn (Machine.fenced P F) P m b k cs e a' w' := by
  intro m e a₁ w₁ hq harr
  cases e with
  | normal => exact ⟨.normal,a₁,w₁,hq,StepsIn.trans harr (.one (fenced_calm hb hr rfl) stepR_inScope)⟩
  | exit id =>
   have hx : exitTo id (.inScope c :: k) = exitTo id k := rfl
   exact ⟨.exit id,a₁,w₁,hq,fun k' hk => harr.1 k' (by rw [hx]; exact hk),fun hr' hk => harr.2 hr' (by rw [hx]; exact hk)⟩
  | goto l' => exact ((hl _ _ _ hq l') rfl).elim
  | ret => exact ⟨_,a₁,w₁,hq,harr⟩
  | panic ch => exact ⟨_,a₁,w₁,hq,harr⟩
  | outgrown => exact ⟨_,a₁,w₁,hq,harr⟩
 obtain ⟨e,a₁,w₁,hq,harr⟩ := h b (.inScope c :: k) cs hro hb hr
 have stp : StepsIn (Machine.fenced P F) P (lone (b.atR a (.code (.scope c) :: k)) cs w) (lone (b.atR a (.code c :: .inScope c :: k)) cs w) := .one h0 stepR_scope
 by_cases hg : ∃ l', e = .goto l'
 ·obtain ⟨l',rfl⟩ := hg
  obtain ⟨rfl,hrest⟩ := hq
  have hgo : gotoIn l' (.inScope c :: k) = some (.code rest :: .inScope c :: k) := by simp [gotoIn,hf]
  obtain ⟨e₂,a₂,w₂,hq₂,harr₂⟩ := hrest b (.inScope c :: k) cs hro hb hr
  have := harr.1 _ hgo
  obtain ⟨e',a',w',hq',harr'⟩ := fin _ e₂ a₂ w₂ hq₂ (.of_steps (StepsIn.trans stp this) harr₂)
  exact ⟨e',a',w',hq',harr'⟩
 ·have hq' : Q e a₁ w₁ := by cases e <;> first | exact hq | exact (hg ⟨_,rfl⟩).elim
  obtain ⟨e',a',w',hq',harr'⟩ := fin _ e a₁ w₁ hq' (.of_steps stp harr)
  exact ⟨e',a',w',hq',harr'⟩
theorem WC_scope {P : Program} {n : Nat} {r : Option Nat} {c : Code} {Q : Post} {ρ : Env} {ds : List Deferred} {w : World} (l : Nat) (rest : Code) (hf : findLabel c l = some rest)
  (h : vc P n r c (QG l (vc P n r rest (QN Q)) (QN Q)) ρ ds w) : WC P n r (.scope c) Q ρ ds w := by
 intro hok tmps hA
 refine wpIn_mono (wpIn_scope (Q := fun e a w' => ∃ ρ', Ag n a.tmps ρ' ∧ QN Q e ρ' a.defers w') hf ?_ (wpIn_mono (vc_sound c _ _ _ _ h hok tmps hA) ?_)) ?_
 ·rintro e a w ⟨ρ',_,hq⟩ l' rfl
  exact hq
 ·rintro e a' w' ⟨ρ',hA',hq⟩
  cases e with
  | goto l' => exact ⟨hq.1,vc_sound rest _ _ _ _ hq.2 (findLabel_ok hf hok) _ hA'⟩
  | _ => exact ⟨ρ',hA',hq⟩
 ·rintro e a' w' ⟨ρ',hA',hq⟩
  refine ⟨ρ',hA',?_⟩
  cases e <;> first | exact hq | exact hq.elim
def envOf (args : List Value) : Env := fun t => args.getD t undef
@[simp] theorem envOf_cons_zero (v : Value) (l : List Value) : envOf (v :: l) 0 = v := rfl
@[simp] theorem envOf_cons_succ (v : Value) (l : List Value) (t : Nat) : envOf (v :: l) (t + 1) = envOf l t := rfl
@[simp] theorem envOf_nil (t : Nat) : envOf [] t = undef := rfl
def resE (ρ : Env) : ResultVar → Sem Value
 | .tmp t => pure (ρ t)
 | .cell a t => do loadVar t (← asAddr (ρ a))
def packE (vs : Array Value) : Value := if h : vs.size = 1 then vs[0] else .tuple vs
def resultsE (rs : Array ResultVar) (ρ : Env) : Sem Value := do
 let vs ← rs.mapM (resE ρ)
 pure (packE vs)
def okR (n : Nat) : ResultVar → Bool
 | .tmp t => decide (t < n)
 | .cell a _ => decide (a < n)
theorem mapM_congr {α β : Type} (xs : Array α) {f g : α → Sem β} (h : ∀ x ∈ xs, f x = g x) : xs.mapM f = xs.mapM g := by
 obtain ⟨xs⟩ := xs
 simp only [List.mapM_toArray]
 congr 1
 induction xs with
 | nil => rfl
 | cons x xs ih =>
  simp only [List.mapM_cons]
  rw [h x (by simp),ih (fun y hy => h y (by simp at hy ⊢; exact .inr hy))]
theorem results_eq {fn : Func} {tmps : Array Value} {ρ : Env} {n : Nat} (h : Ag n tmps ρ) (hok : fn.results.toList.all (okR n) = true) : results fn tmps = resultsE fn.results ρ := by
 unfold results resultsE packE
 congr 1
 refine mapM_congr _ fun x hx => ?_
 have hx' := List.all_eq_true.1 hok x (by simpa using hx)
 cases x with
 | tmp t => simp only [resE]; rw [h.2 t (by simpa [okR] using hx')]
 | cell a t => simp only [resE]; rw [h.2 a (by simpa [okR] using hx')]
def LV (P : Program) (rs : Array ResultVar) (R : Ending → World → Prop) (ρ : Env) : List Deferred → FrameMode → World → Prop
 | [],.returning,w => onR ((resultsE rs ρ).run P w) fun v w' => w' = w ∧ R (.returned v) w
 | [],.panicking chain,w => R (.panicked chain) w
 | [],.run,_ => False
 | d :: ds, u, w => u ≠ .run ∧
   ((∃ r w', d.target = .collected r ∧ (Instr.takeDeferred r).run P w = .ok [] w' ∧ LV P rs R ρ ds u w') ∨
    (∃ fv cap f args,d.target = .fn fv cap ∧ (invoke d.target d.args).run P w = .ok (.enter f args) w ∧
    CallsDIn (FR none) 0 P f args u w fun
     | .returned _,u',w' => LV P rs R ρ ds (settle u') w'
     | .panicked chain,u',w' => LV P rs R ρ ds (raised u' chain) w'
     | .outgrown,_,_ => False))
def QF (P : Program) (rs : Array ResultVar) (R : Ending → World → Prop) : Post
 | .normal,ρ,ds,w | .ret,ρ,ds,w => LV P rs R ρ ds .returning w
 | .panic chain,ρ,ds,w => LV P rs R ρ ds (.panicking chain) w
 | _,_,_,_ => False
section
variable (P : Program) (rs : Array ResultVar) (R : Ending → World → Prop) (ρ : Env) (ds : List Deferred) (w : World)
@[simp] theorem QF_normal : QF P rs R .normal ρ ds w = LV P rs R ρ ds .returning w := _root_.id rfl
@[simp] theorem QF_ret : QF P rs R .ret ρ ds w = LV P rs R ρ ds .returning w := _root_.id rfl
@[simp] theorem QF_panic (ch : List PanicEntry) : QF P rs R (.panic ch) ρ ds w = LV P rs R ρ ds (.panicking ch) w := _root_.id rfl
@[simp] theorem LV_nil : LV P rs R ρ [] .returning w = onR ((resultsE rs ρ).run P w) fun v w' => w' = w ∧ R (.returned v) w := _root_.id rfl
@[simp] theorem LV_nil_panic (ch : List PanicEntry) : LV P rs R ρ [] (.panicking ch) w = R (.panicked ch) w := _root_.id rfl
end
theorem LV_sound {P : Program} {fn : Func} {R : Ending → World → Prop} {tmps : Array Value} {ρ : Env} {n : Nat} (hA : Ag n tmps ρ) (hok : fn.results.toList.all (okR n) = true) :
  ∀ (ds : List Deferred) (u : FrameMode) (w : World),LV P fn.results R ρ ds u w → LeavesInM (FR none) 0 P fn tmps R ds u w := by
 intro ds
 induction ds with
 | nil =>
  intro u w h
  cases u with
  | run => exact h.elim
  | returning =>
   simp only [LV] at h
   cases hr : (resultsE fn.results ρ).run P w with
   | ok v w' =>
    rw [hr] at h
    obtain ⟨rfl,hR⟩ := h
    exact ⟨v,by rw [results_eq hA hok]; exact hr,hR⟩
   | halt e w' => rw [hr] at h; exact h.elim
  | panicking ch => exact h
 | cons d ds ih =>
  intro u w h
  refine ⟨h.1,?_⟩
  rcases h.2 with ⟨r, w', h1, h2, h3⟩ | ⟨fv, cap, f, args, h1, h2, h3⟩
  ·exact .inl ⟨r,w',h1,h2,ih _ _ h3⟩
  ·refine .inr ⟨fun h => by simp [FR] at h,fv,cap,f,args,h1,h2,fun _ _ => trivial,h3.mono fun e u' w' hh => ?_⟩
   cases e with
   | returned v => exact ih _ _ hh
   | panicked ch => exact ih _ _ hh
   | outgrown => exact hh.elim
theorem calls_enter {P : Program} {f : FuncId} {fn : Func} {c : Code} {args : List Value} {w : World} {R : Ending → World → Prop} (hf : P.funcs[f]? = some fn) (hb : fn.body = some c)
  (hok : (okC fn.ntmps c && (fn.results.toList.all (okR fn.ntmps) && decide (args.length ≤ fn.ntmps))) = true) (h : vc P fn.ntmps none c (QF P fn.results R) (envOf args) [] w) :
  Calls P f args.toArray w R := by
 have hok1 := Bool.and_eq_true_iff.1 hok
 have hok2 := Bool.and_eq_true_iff.1 hok1.2
 have hlen : args.length ≤ fn.ntmps := by simpa using hok2.2
 refine callsIn_wide.1 (callsIn_of_wp_marks (n := 0) (F := FR none) hf hb trivial ?_)
 have hA : Ag fn.ntmps (args.toArray ++ Array.replicate (fn.ntmps - args.toArray.size) undef) (envOf args) := by
  refine ⟨by simp; omega,fun t ht => ?_⟩
  simp only [envOf,Array.getD_eq_getD_getElem?,List.getD_eq_getElem?_getD,Array.getElem?_append,List.size_toArray,List.getElem?_toArray]
  by_cases h1 : t < args.length
  ·rw [if_pos h1]
  ·rw [if_neg h1]
   have : args[t]? = none := List.getElem?_eq_none (by omega)
   rw [this,Array.getElem?_replicate]
   split <;> rfl
 refine wpIn_mono (vc_sound c _ _ _ _ h hok1.1 _ hA) ?_
 rintro e a w' ⟨ρ',hA',hq⟩
 cases e with
 | normal => exact LV_sound hA' hok2.1 _ _ _ hq
 | ret => exact LV_sound hA' hok2.1 _ _ _ hq
 | panic ch => exact LV_sound hA' hok2.1 _ _ _ hq
 | _ => exact hq.elim
theorem callFunc_enter {P : Program} {f : FuncId} {fn : Func} (hf : P.funcs[f]? = some fn) (hb : fn.body.isSome = true) (hn : (fn.name == "runtime.NumGoroutine") = false) (args : Array Value) (w : World) :
  (callFunc f args).run P w = .ok (.enter f args) w := by
 have h1 : fn.body ≠ none := by cases h : fn.body <;> simp_all
 have h2 : fn.name ≠ "runtime.NumGoroutine" := by simpa using hn
 simp [callFunc,program,Sem.run,hf,h1,h2]
theorem FN_of_calls {P : Program} {f : FuncId} {fn : Func} {args : List Value} {w : World} {R : Ending → World → Prop} (hf : P.funcs[f]? = some fn) (hb : fn.body.isSome = true) (hn : (fn.name == "runtime.NumGoroutine") = false)
  (h : Calls P f args.toArray w R) : FN P f args w R := by
 unfold FN; rw [callFunc_enter hf hb hn]; exact h
theorem calls_of_FN {P : Program} {f : FuncId} {fn : Func} {args : List Value} {w : World} {R : Ending → World → Prop} (hf : P.funcs[f]? = some fn) (hb : fn.body.isSome = true) (hn : (fn.name == "runtime.NumGoroutine") = false)
  (h : FN P f args w R) : Calls P f args.toArray w R := by
 unfold FN at h; rw [callFunc_enter hf hb hn] at h; exact h
theorem FN_enter {P : Program} {f : FuncId} {fn : Func} {c : Code} {args : List Value} {w : World} {R : Ending → World → Prop} (hf : P.funcs[f]? = some fn) (hb : fn.body = some c) (hn : (fn.name == "runtime.NumGoroutine") = false)
  (hok : (okC fn.ntmps c && (fn.results.toList.all (okR fn.ntmps) && decide (args.length ≤ fn.ntmps))) = true) (h : vc P fn.ntmps none c (QF P fn.results R) (envOf args) [] w) :
  FN P f args w R := FN_of_calls hf (by rw [hb]; rfl) hn (calls_enter hf hb hok h)
end Pk
namespace Pk
open Go
@[simp] theorem add_mk (b o n : Nat) : Addr.add ⟨b, o, none⟩ n = ⟨b, o + n, none⟩ := by
 unfold Addr.add; split <;> simp_all
attribute [simp] Instr.loadAt Instr.sureAddr loadVar loadCells loadCellsFrom Instr.storeAt storeVar storeCells Instr.fieldAt fieldPlace Instr.extract Instr.makeFunc asBool asInt asIntOf asAgg asAddr resE packE Instr.makeInterface Op.intArith Op.intCmp Op.intDiv Op.unary eqGuard goInt BV Value.cells stuck
section
variable (P : Program) (w : World)
@[simp] theorem run_box (t : TypeId) (v : Value) : (Instr.box t v).run P w = .ok (.pointer (some ⟨w.heap.size, 0, none⟩)) (w.alloc (.cells v.cells t)) := by
 simp [Instr.box,newVar,newRow,newObj,Sem.run]
@[simp] theorem run_alloc (t : TypeId) : (Instr.alloc t true (.tuple #[])).run P w = ((zeroValue t).run P w).andThen fun z w' => .ok (.pointer (some ⟨w'.heap.size, 0, none⟩)) (w'.alloc (.cells z.cells t)) := by
 simp [Instr.alloc,newVar,newRow,newObj,Sem.run]
@[simp] theorem run_makeMap0 (t : TypeId) : (Instr.makeMap t none).run P w = .ok (.map (some w.heap.size)) (w.alloc (.map #[] 0)) := by
 simp [Instr.makeMap,newObj,Sem.run]
def oneV : Value → Bool
 | .agg _ => false
 | .tuple _ => false
 | _ => true
def sto (P : Program) (w : World) (a : Addr) (v : Value) : Option Value → Bool → Result Unit
 | some _,false => .ok () (w.setCell a v)
 | _,_ => (store a v).run P w
@[simp] theorem sto_some (a : Addr) (v x : Value) : sto P w a v (some x) false = .ok () (w.setCell a v) := _root_.id rfl
theorem run_store_sto (a : Addr) (v : Value) (h : oneV v = true) : (store a v).run P w = sto P w a v (w.cell? a) (w.frozen? a) := by
 unfold sto
 split
 ·rename_i h1 h2
  cases v <;> simp [oneV] at h <;> simp [store,Sem.run,h1,h2]
 ·rfl
@[simp] theorem st_int (a : Addr) (k : IntKind) (n : Int) : (store a (.int k n)).run P w = sto P w a (.int k n) (w.cell? a) (w.frozen? a) := run_store_sto P w a _ rfl
@[simp] theorem st_bool (a : Addr) (b : Bool) : (store a (.bool b)).run P w = sto P w a (.bool b) (w.cell? a) (w.frozen? a) := run_store_sto P w a _ rfl
@[simp] theorem st_string (a : Addr) (b : ByteArray) : (store a (.string b)).run P w = sto P w a (.string b) (w.cell? a) (w.frozen? a) := run_store_sto P w a _ rfl
@[simp] theorem st_slice (a : Addr) (b : Option Addr) (l c : Nat) : (store a (.slice b l c)).run P w = sto P w a (.slice b l c) (w.cell? a) (w.frozen? a) := run_store_sto P w a _ rfl
@[simp] theorem st_func (a : Addr) (f : Fn) (x y : Array Value) : (store a (.func f x y)).run P w = sto P w a (.func f x y) (w.cell? a) (w.frozen? a) := run_store_sto P w a _ rfl
@[simp] theorem st_nilFunc (a : Addr) : (store a .nilFunc).run P w = sto P w a .nilFunc (w.cell? a) (w.frozen? a) := run_store_sto P w a _ rfl
end
section
variable (w : World)
def ocell (o : Obj) (i : Nat) : Option Value := match o with | .cells c _ _ => c[i]? | _ => none
@[simp] theorem ocell_cells (c : Array Value) (t : TypeId) (fr : Nat × Nat) (i : Nat) : ocell (.cells c t fr) i = c[i]? := _root_.id rfl
@[simp] theorem ocell_map (es : Array MapEntry) (k : Nat) (i : Nat) : ocell (.map es k) i = none := _root_.id rfl
@[simp] theorem cell_alloc (o : Obj) (b i : Nat) : (w.alloc o).cell? ⟨b, i, none⟩ = (w.cell? ⟨b, i, none⟩).or (if b = w.heap.size then ocell o i else none) := by
 unfold World.cell? World.alloc
 simp only [Array.getElem?_push]
 by_cases h : b = w.heap.size
 ·subst h
  simp [ocell]
  cases o <;> rfl
 ·simp [h]
@[simp] theorem cell_fresh (i : Nat) : w.cell? ⟨w.heap.size,i,none⟩ = none := by simp [World.cell?]
@[simp] theorem frozen_alloc (c : Array Value) (t : TypeId) (a : Addr) : (w.alloc (.cells c t (0, 0))).frozen? a = w.frozen? a := by
 unfold World.frozen? World.alloc
 simp only [Array.getElem?_push]
 by_cases h : a.block = w.heap.size
 ·simp [h]
 ·simp [h]
@[simp] theorem frozen_fresh (i : Nat) : w.frozen? ⟨w.heap.size,i,none⟩ = false := by simp [World.frozen?]
@[simp] theorem setCell_alloc (c : Array Value) (t : TypeId) (fr : Nat × Nat) (b i : Nat) (v : Value) (h : b = w.heap.size) :
  (w.alloc (.cells c t fr)).setCell ⟨b,i,none⟩ v = w.alloc (.cells (c.setIfInBounds i v) t fr) := by
 subst h
 unfold World.setCell World.alloc
 simp only [World.mk.injEq,and_true]
 apply Array.ext_getElem?
 intro k
 simp only [Array.getElem?_modify,Array.getElem?_push]
 by_cases h : k = w.heap.size
 ·simp [h]
 ·simp [h,Ne.symm h]
@[simp] theorem setCell_alloc_old (o : Obj) (b i : Nat) (v : Value) (h : b < w.heap.size) :
  (w.alloc o).setCell ⟨b,i,none⟩ v = (w.setCell ⟨b,i,none⟩ v).alloc o := by
 unfold World.setCell World.alloc
 simp only [World.mk.injEq,and_true]
 apply Array.ext_getElem?
 intro k
 simp only [Array.getElem?_modify,Array.getElem?_push,Array.size_modify]
 by_cases h1 : b = k
 ·subst h1
  have : b ≠ w.heap.size := by omega
  simp [this]
 ·simp [h1]
end
structure Ext (w w' : World) : Prop where
 os : w'.os = w.os
 tape : w'.tape = w.tape
 out : w'.output = w.output
 size : w.heap.size ≤ w'.heap.size
 blk : ∀ b,b < w.heap.size → w'.heap[b]? = w.heap[b]?
theorem Ext.refl (w : World) : Ext w w := ⟨rfl,rfl,rfl,Nat.le_refl _,fun _ _ => rfl⟩
theorem Ext.trans {a b c : World} (h : Ext a b) (k : Ext b c) : Ext a c :=
 ⟨k.os.trans h.os,k.tape.trans h.tape,k.out.trans h.out,Nat.le_trans h.size k.size,fun i hi => (k.blk i (Nat.lt_of_lt_of_le hi h.size)).trans (h.blk i hi)⟩
theorem Ext.alloc {a w : World} (h : Ext a w) (o : Obj) : Ext a (w.alloc o) :=
 h.trans ⟨rfl,rfl,rfl,by simp,fun b hb => Go.RowKit.Below.heap_alloc w o b hb⟩
theorem Ext.cell {w w' : World} (h : Ext w w') (a : Addr) (ha : (w.cell? a).isSome = true) : w'.cell? a = w.cell? a := by
 have hb : a.block < w.heap.size := by
  cases hc : w.cell? a with
  | none => simp [hc] at ha
  | some v => exact World.block_lt_of_cell? _ _ hc
 unfold World.cell?
 rw [h.blk _ hb]
theorem Ext.cell_eq {w w' : World} (h : Ext w w') {a : Addr} {v : Value} (ha : w.cell? a = some v) : w'.cell? a = some v := by
 rw [h.cell a (by simp [ha]),ha]
theorem Ext.obj {w w' : World} (h : Ext w w') {b : Nat} {o : Obj} (hb : w.heap[b]? = some o) : w'.heap[b]? = some o := by
 rw [h.blk b (Array.getElem?_eq_some_iff.1 hb).1,hb]
end Pk
namespace Pk
open Go
def isP : Option TypeDesc → Bool | some (.pointer _) => true | _ => false
def isM : Option TypeDesc → Bool | some (.map _ _) => true | _ => false
def isS : Option TypeDesc → Bool | some (.slice _) => true | _ => false
def isF : Option TypeDesc → Bool | some (.func _ _ _) => true | _ => false
def isI : Option TypeDesc → Bool | some (.interface _) => true | _ => false
def isStr : Option TypeDesc → Bool | some .string => true | _ => false
def isBoolT : Option TypeDesc → Bool | some .bool => true | _ => false
def isA : Option TypeDesc → Bool | some (.array _ _) => true | _ => false
def elemT : Option TypeDesc → TypeId | some (.slice e) => e | some (.array _ e) => e | some (.pointer e) => e | _ => 0
def keyT : Option TypeDesc → TypeId | some (.map k _) => k | _ => 0
def valT : Option TypeDesc → TypeId | some (.map _ v) => v | _ => 0
def lenT : Option TypeDesc → Nat | some (.array n _) => n | _ => 0
def intT : Option TypeDesc → IntKind | some (.int k) => k | _ => .i64
@[simp] theorem isP_is (e : TypeId) : isP (some (.pointer e)) = true := rfl
@[simp] theorem isM_is (k e : TypeId) : isM (some (.map k e)) = true := rfl
@[simp] theorem isS_is (e : TypeId) : isS (some (.slice e)) = true := rfl
@[simp] theorem isF_is (a b : Array TypeId) (c : Bool) : isF (some (.func a b c)) = true := rfl
@[simp] theorem isI_is (a : Array (String × TypeId)) : isI (some (.interface a)) = true := rfl
@[simp] theorem isStr_is  : isStr (some (.string)) = true := rfl
@[simp] theorem isBoolT_is  : isBoolT (some (.bool)) = true := rfl
@[simp] theorem isA_is (n : Nat) (e : TypeId) : isA (some (.array n e)) = true := rfl
@[simp] theorem elemT_slice (e : TypeId) : elemT (some (.slice e)) = e := rfl
@[simp] theorem elemT_array (n : Nat) (e : TypeId) : elemT (some (.array n e)) = e := rfl
@[simp] theorem elemT_pointer (e : TypeId) : elemT (some (.pointer e)) = e := rfl
@[simp] theorem keyT_map (k v : TypeId) : keyT (some (.map k v)) = k := rfl
@[simp] theorem valT_map (k v : TypeId) : valT (some (.map k v)) = v := rfl
@[simp] theorem lenT_array (n : Nat) (e : TypeId) : lenT (some (.array n e)) = n := rfl
@[simp] theorem intT_int (k : IntKind) : intT (some (.int k)) = k := rfl
theorem run_und {P : Program} {t : TypeId} {d : TypeDesc} (h : P.underlying t = some d) (w : World) : (underlying t).run P w = .ok d w := by simp [underlying,program,Sem.run,h]
theorem isS_inv {d : Option TypeDesc} (h : isS d = true) : d = some (.slice (elemT d)) := by
 cases d with
 | none => cases h
 | some d => cases d <;> first | (cases h; done) | rfl
theorem isA_inv {d : Option TypeDesc} (h : isA d = true) : d = some (.array (lenT d) (elemT d)) := by
 cases d with
 | none => cases h
 | some d => cases d <;> first | (cases h; done) | rfl
theorem isStr_inv {d : Option TypeDesc} (h : isStr d = true) : d = some .string := by
 cases d with
 | none => cases h
 | some d => cases d <;> first | (cases h; done) | rfl
theorem isBoolT_inv {d : Option TypeDesc} (h : isBoolT d = true) : d = some .bool := by
 cases d with
 | none => cases h
 | some d => cases d <;> first | (cases h; done) | rfl
section
variable (P : Program) (w : World) (t : TypeId)
@[simp] theorem b_add (k : IntKind) (a b : Int) : (binOp .add t (.int k a) (.int k b)).run P w = .ok (.int k (k.wrap (a + b))) w := by simp [binOp]
@[simp] theorem b_sub (k : IntKind) (a b : Int) : (binOp .sub t (.int k a) (.int k b)).run P w = .ok (.int k (k.wrap (a - b))) w := by simp [binOp]
@[simp] theorem b_mul (k : IntKind) (a b : Int) : (binOp .mul t (.int k a) (.int k b)).run P w = .ok (.int k (k.wrap (a * b))) w := by simp [binOp]
@[simp] theorem b_eql (k : IntKind) (a b : Int) : (binOp .eql t (.int k a) (.int k b)).run P w = .ok (.bool (a == b)) w := by simp [binOp]
@[simp] theorem b_neq (k : IntKind) (a b : Int) : (binOp .neq t (.int k a) (.int k b)).run P w = .ok (.bool (a != b)) w := by simp [binOp]
@[simp] theorem b_lss (k : IntKind) (a b : Int) : (binOp .lss t (.int k a) (.int k b)).run P w = .ok (.bool (decide (a < b))) w := by simp [binOp]
@[simp] theorem b_leq (k : IntKind) (a b : Int) : (binOp .leq t (.int k a) (.int k b)).run P w = .ok (.bool (decide (a ≤ b))) w := by simp [binOp]
@[simp] theorem b_gtr (k : IntKind) (a b : Int) : (binOp .gtr t (.int k a) (.int k b)).run P w = .ok (.bool (decide (b < a))) w := by simp [binOp]
@[simp] theorem b_geq (k : IntKind) (a b : Int) : (binOp .geq t (.int k a) (.int k b)).run P w = .ok (.bool (decide (b ≤ a))) w := by simp [binOp]
@[simp] theorem b_quo (k : IntKind) (a b : Int) (h : b ≠ 0) : (binOp .quo t (.int k a) (.int k b)).run P w = .ok (.int k (k.wrap (a.tdiv b))) w := by simp [binOp,h]
@[simp] theorem b_rem (k : IntKind) (a b : Int) (h : b ≠ 0) : (binOp .rem t (.int k a) (.int k b)).run P w = .ok (.int k (a.tmod b)) w := by simp [binOp,h]
theorem q_bool (a b : Bool) (d : Nat) (h : isBoolT (P.underlying t) = true) : (Op.equalIn (d + 1) t (.bool a) (.bool b)).run P w = .ok (a == b) w := by
 have h' := run_und (isBoolT_inv h) w
 simp only [Op.equalIn,Sem.run_bind,h',Result.andThen_ok,Sem.run_pure]
@[simp] theorem b_eql_bool (a b : Bool) (h : isBoolT (P.underlying t) = true) : (binOp .eql t (.bool a) (.bool b)).run P w = .ok (.bool (a == b)) w := by
 simp only [binOp,Op.equal,Op.maxDepth,Sem.run_bind,q_bool P w t _ _  9999 h,Result.andThen_ok,Sem.run_pure]
@[simp] theorem b_neq_bool (a b : Bool) (h : isBoolT (P.underlying t) = true) : (binOp .neq t (.bool a) (.bool b)).run P w = .ok (.bool (!(a == b))) w := by
 simp only [binOp,Op.equal,Op.maxDepth,Sem.run_bind,q_bool P w t _ _  9999 h,Result.andThen_ok,Sem.run_pure]
theorem q_slice (a : Option Addr) (l c l' c' : Nat) (d : Nat) (h : isS (P.underlying t) = true) : (Op.equalIn (d + 1) t (.slice a l c) (.slice none l' c')).run P w = .ok (a.isNone) w := by
 have h' := run_und (isS_inv h) w
 cases a <;> simp only [Op.equalIn,Sem.run_bind,h',Result.andThen_ok,Sem.run_pure] <;> rfl
@[simp] theorem b_eql_slice (a : Option Addr) (l c l' c' : Nat) (h : isS (P.underlying t) = true) : (binOp .eql t (.slice a l c) (.slice none l' c')).run P w = .ok (.bool (a.isNone)) w := by
 simp only [binOp,Op.equal,Op.maxDepth,Sem.run_bind,q_slice P w t _ _ _ _ _  9999 h,Result.andThen_ok,Sem.run_pure]
@[simp] theorem b_eql_str (a b : ByteArray) : (binOp .eql t (.string a) (.string b)).run P w = .ok (.bool (a.toList == b.toList)) w := by simp [binOp,Op.stringOp]
@[simp] theorem b_neq_str (a b : ByteArray) : (binOp .neq t (.string a) (.string b)).run P w = .ok (.bool !(a.toList == b.toList)) w := by simp [binOp,Op.stringOp]
@[simp] theorem r_len_slice (ty : TypeId) (a : Option Addr) (n c : Nat) (h : isS (P.underlying t) = true) : (Builtin.len_ #[t] ty #[.slice a n c]).run P w = .ok (.int .i64 n) w := by
 have h' := run_und (isS_inv h) w
 simp [Builtin.len_,h']
@[simp] theorem r_len_str (ty : TypeId) (s : ByteArray) (h : isStr (P.underlying t) = true) : (Builtin.len_ #[t] ty #[.string s]).run P w = .ok (.int .i64 s.size) w := by
 have h' := run_und (isStr_inv h) w
 simp [Builtin.len_,h']
@[simp] theorem r_index_slice (b o len cap : Nat) (k : IntKind) (i : Int) (h : isS (P.underlying t) = true) (h0 : 0 ≤ i) (h1 : i < len) :
  (Instr.indexAt t (.slice (some ⟨b,o,none⟩) len cap) (.int k i)).run P w = ((Go.sizeOf (elemT (P.underlying t))).run P w).andThen fun n w' => .ok (.pointer (some ⟨b,o + i.toNat * n,none⟩)) w' := by
 have h' := run_und (isS_inv h) w
 simp [Instr.indexAt,h',h0,h1]
@[simp] theorem r_index_array (b o : Nat) (k : IntKind) (i : Int) (h : isA (P.underlying t) = true) (h0 : 0 ≤ i) (h1 : i < lenT (P.underlying t)) :
  (Instr.indexAt t (.pointer (some ⟨b,o,none⟩)) (.int k i)).run P w = ((Go.sizeOf (elemT (P.underlying t))).run P w).andThen fun n w' => .ok (.pointer (some ⟨b,o + i.toNat * n,none⟩)) w' := by
 have h' := run_und (isA_inv h) w
 simp [Instr.indexAt,h',h0,h1]
@[simp] theorem r_index_str (s : ByteArray) (k : IntKind) (i : Nat) (h : isStr (P.underlying t) = true) (h1 : i < s.size) :
  (Instr.index t (.string s) (.int k i)).run P w = .ok (.int .u8 (s[i]'h1).toNat) w := by
 have h' := run_und (isStr_inv h) w
 have e : s[i]? = some s[i] := by simp [h1]
 simp [Instr.index,h',e]
end
end Pk
namespace Pk
open Go
structure Mod (S : Nat → Prop) (w w' : World) : Prop where
 os : w'.os = w.os
 tape : w'.tape = w.tape
 out : w'.output = w.output
 size : w.heap.size ≤ w'.heap.size
 blk : ∀ b,b < w.heap.size → ¬ S b → w'.heap[b]? = w.heap[b]?
theorem Mod.refl (S : Nat → Prop) (w : World) : Mod S w w := ⟨rfl,rfl,rfl,Nat.le_refl _,fun _ _ _ => rfl⟩
theorem Mod.trans {S : Nat → Prop} {a b c : World} (h : Mod S a b) (k : Mod S b c) : Mod S a c :=
 ⟨k.os.trans h.os,k.tape.trans h.tape,k.out.trans h.out,Nat.le_trans h.size k.size,fun i hi hs => (k.blk i (Nat.lt_of_lt_of_le hi h.size) hs).trans (h.blk i hi hs)⟩
theorem Mod.trans' {S S' : Nat → Prop} {a b c : World} (h : Mod S a b) (k : Mod S' b c) (hs : ∀ i, S' i → S i ∨ a.heap.size ≤ i) : Mod S a c :=
 ⟨k.os.trans h.os, k.tape.trans h.tape, k.out.trans h.out, Nat.le_trans h.size k.size, fun i hi hn => (k.blk i (Nat.lt_of_lt_of_le hi h.size) (fun h' => by
  rcases hs i h' with h1 | h1
  ·exact hn h1
  ·omega)).trans (h.blk i hi hn)⟩
theorem Mod.weaken {S S' : Nat → Prop} {a b : World} (h : Mod S a b) (hs : ∀ i,S i → S' i) : Mod S' a b := ⟨h.os,h.tape,h.out,h.size,fun i hi hn => h.blk i hi (fun h' => hn (hs i h'))⟩
theorem Ext.mod {S : Nat → Prop} {a b : World} (h : Ext a b) : Mod S a b := ⟨h.os,h.tape,h.out,h.size,fun i hi _ => h.blk i hi⟩
theorem Mod.ext {S : Nat → Prop} {a b : World} (h : Mod S a b) (hs : ∀ i,S i → a.heap.size ≤ i) : Ext a b := ⟨h.os,h.tape,h.out,h.size,fun i hi => h.blk i hi (fun h' => by have := hs i h'; omega)⟩
theorem Mod.setCell {S : Nat → Prop} {a w : World} (h : Mod S a w) (p : Addr) (v : Value) (hp : S p.block ∨ a.heap.size ≤ p.block) : Mod S a (w.setCell p v) :=
 h.trans' (S' := fun i => i = p.block) ⟨rfl,rfl,rfl,by simp,fun b _ hn => Go.RowKit.Below.heap_setCell w p v b hn⟩ (fun i e => by subst e; exact hp)
theorem Ext.setCell {a w : World} (h : Ext a w) (p : Addr) (v : Value) (hp : a.heap.size ≤ p.block) : Ext a (w.setCell p v) :=
 (Mod.setCell (S := fun _ => False) (Ext.mod h) p v (.inr hp)).ext (fun _ h => h.elim)
theorem Mod.obj {S : Nat → Prop} {w w' : World} (h : Mod S w w') {b : Nat} {o : Obj} (hb : w.heap[b]? = some o) (hs : ¬ S b) : w'.heap[b]? = some o := by
 rw [h.blk b (Array.getElem?_eq_some_iff.1 hb).1 hs,hb]
theorem cell_blk {w : World} {a : Addr} {v : Value} (h : w.cell? a = some v) : ∃ c t fr, w.heap[a.block]? = some (.cells c t fr) := by
 unfold World.cell? at h
 split at h
 ·rename_i c t fr hb; exact ⟨c,t,fr,hb⟩
 ·cases h
theorem Mod.cell {S : Nat → Prop} {w w' : World} (h : Mod S w w') {a : Addr} {v : Value} (ha : w.cell? a = some v) (hs : ¬ S a.block) : w'.cell? a = some v := by
 have hb := World.block_lt_of_cell? _ _ ha
 rw [← ha]
 unfold World.cell?
 rw [h.blk _ hb hs]
structure KeyEq {κ : Type} [DecidableEq κ] (P : Program) (K : TypeId) (ek : κ → Value) : Prop where
 find : ∀ (k : κ) (es : List MapEntry) (m : List κ) (w : World), es.map (·.key) = m.map ek →
  (Instr.findKey K (ek k) es).run P w = .ok ((m.findIdx? (fun x => decide (x = k))).bind fun i => (es[i]?).map fun e => (i,e.val)) w
 check : ∀ (b : Bool) (k : κ) (w : World),(Instr.checkKey b 10000 K (ek k)).run P w = .ok () w
 same : ∀ (k : κ) (w : World),(Instr.keyThatStays (ek k) (ek k)).run P w = .ok (ek k) w
structure MapAt {κ ν : Type} (ek : κ → Value) (ew : ν → Value) (w : World) (r : Nat) (m : List (κ × ν)) : Prop where
 ex : ∃ es clock, w.heap[r]? = some (.map es clock) ∧ es.toList.map (fun e => (e.key, e.val)) = m.map (fun p => (ek p.1, ew p.2)) ∧
  (es.toList.map (·.born)).Pairwise (· < ·) ∧ (∀ e ∈ es.toList,e.born < clock)
 nodup : (m.map (·.1)).Nodup
def mget {κ ν : Type} [DecidableEq κ] (m : List (κ × ν)) (k : κ) : Option ν := (m.find? (fun p => decide (p.1 = k))).map (·.2)
def mset {κ ν : Type} [DecidableEq κ] (m : List (κ × ν)) (k : κ) (v : ν) : List (κ × ν) :=
 if (mget m k).isSome then m.map (fun p => if p.1 = k then (k,v) else p) else m ++ [(k,v)]
theorem MapAt.alloc0 {κ ν : Type} (ek : κ → Value) (ew : ν → Value) (w : World) : MapAt ek ew (w.alloc (.map #[] 0)) w.heap.size [] :=
 ⟨⟨#[],0,World.alloc_heap_new w _,rfl,List.Pairwise.nil,fun e he => by cases he⟩,List.nodup_nil⟩
theorem MapAt.keep {κ ν : Type} {ek : κ → Value} {ew : ν → Value} {w w' : World} {r : Nat} {m : List (κ × ν)} (h : MapAt ek ew w r m) (hb : w'.heap[r]? = w.heap[r]?) : MapAt ek ew w' r m := by
 obtain ⟨⟨es,c,h1,h2⟩,h3⟩ := h
 exact ⟨⟨es,c,hb.trans h1,h2⟩,h3⟩
theorem MapAt.lt {κ ν : Type} {ek : κ → Value} {ew : ν → Value} {w : World} {r : Nat} {m : List (κ × ν)} (h : MapAt ek ew w r m) : r < w.heap.size := by
 obtain ⟨⟨es,c,h1,h2⟩,h3⟩ := h
 exact (Array.getElem?_eq_some_iff.1 h1).1
theorem MapAt.ext {κ ν : Type} {ek : κ → Value} {ew : ν → Value} {w w' : World} {r : Nat} {m : List (κ × ν)} (h : MapAt ek ew w r m) (he : Ext w w') : MapAt ek ew w' r m := h.keep (he.blk r h.lt)
theorem MapAt.mod {κ ν : Type} {ek : κ → Value} {ew : ν → Value} {w w' : World} {r : Nat} {m : List (κ × ν)} {S : Nat → Prop} (h : MapAt ek ew w r m) (he : Mod S w w') (hs : ¬ S r) : MapAt ek ew w' r m := h.keep (he.blk r h.lt hs)
section
variable {κ ν : Type} [DecidableEq κ]
theorem findIdx_get (m : List (κ × ν)) (k : κ) : (m.map (·.1)).findIdx? (fun x => decide (x = k)) = m.findIdx? (fun p => decide (p.1 = k)) := by
 rw [List.findIdx?_map]; rfl
theorem mget_eq (m : List (κ × ν)) (k : κ) : mget m k = (m.findIdx? (fun p => decide (p.1 = k))).bind fun i => (m[i]?).map (·.2) := by
 unfold mget
 induction m with
 | nil => rfl
 | cons p m ih =>
  simp only [List.find?_cons,List.findIdx?_cons]
  by_cases h : p.1 = k
  ·simp [h]
  ·simp only [h,decide_false]
   rw [ih]
   cases m.findIdx? (fun p => decide (p.1 = k)) <;> simp
variable {P : Program} {T K E : TypeId} {ek : κ → Value} {ew : ν → Value} {w : World} {r : Nat} {m : List (κ × ν)}
theorem MapAt.found (h : MapAt ek ew w r m) (hK : KeyEq P K ek) (k : κ) : ∃ es clock, w.heap[r]? = some (.map es clock) ∧ es.toList.map (fun e => (e.key, e.val)) = m.map (fun p => (ek p.1, ew p.2)) ∧
  (es.toList.map (·.born)).Pairwise (· < ·) ∧ (∀ e ∈ es.toList,e.born < clock) ∧
  (Instr.findKey K (ek k) es.toList).run P w = .ok ((m.findIdx? (fun p => decide (p.1 = k))).bind fun i => (m[i]?).map fun p => (i,ew p.2)) w := by
 obtain ⟨⟨es,c,h1,h2,h3,h4⟩,h5⟩ := h
 refine ⟨es,c,h1,h2,h3,h4,?_⟩
 have hk : es.toList.map (·.key) = (m.map (·.1)).map ek := by
  have := congrArg (List.map Prod.fst) h2
  simpa [List.map_map,Function.comp_def] using this
 rw [hK.find k _ _ w hk,findIdx_get]
 congr 1
 cases m.findIdx? (fun p => decide (p.1 = k)) with
 | none => rfl
 | some i =>
  simp only [Option.bind_some]
  have := congrArg (fun l => l[i]?) h2
  simp only [List.getElem?_map] at this
  cases he : es.toList[i]? <;> cases hm : m[i]? <;> simp_all
theorem MapAt.lookup (h : MapAt ek ew w r m) (hK : KeyEq P K ek) (hT : P.underlying T = some (.map K E)) {z : Value} (hz : (zeroValue E).run P w = .ok z w) (k : κ) (ok : Bool) :
  (Instr.lookup T (.map (some r)) (ek k) ok).run P w = .ok (if ok then .tuple #[((mget m k).map ew).getD z,.bool (mget m k).isSome] else ((mget m k).map ew).getD z) w := by
 obtain ⟨es,c,h1,h2,h3,h4,hf⟩ := h.found hK k
 have hu := run_und hT w
 have hg : (getObj r).run P w = .ok (.map es c) w := by simp [getObj,Sem.run,h1]
 have hc := hK.check es.isEmpty k w
 unfold Instr.lookup
 simp only [Sem.run_bind,hu,Result.andThen_ok,hg,Sem.run_pure,hc,hf,mget_eq]
 cases hi : m.findIdx? (fun p => decide (p.1 = k)) with
 | none => cases ok <;> simp [hz]
 | some i =>
  cases hm : m[i]? with
  | none => cases ok <;> simp [hz,hm]
  | some p => cases ok <;> simp [hm]
theorem MapAt.update (h : MapAt ek ew w r m) (hK : KeyEq P K ek) (hT : P.underlying T = some (.map K E)) (k : κ) (v : ν) :
  ∃ w',(Instr.mapUpdate T (.map (some r)) (ek k) (ew v)).run P w = .ok () w' ∧ MapAt ek ew w' r (mset m k v) ∧ Mod (· = r) w w' ∧ w'.heap.size = w.heap.size := by
 obtain ⟨es,c,h1,h2,h3,h4,hf⟩ := h.found hK k
 have hu := run_und hT w
 have hg : (getObj r).run P w = .ok (.map es c) w := by simp [getObj,Sem.run,h1]
 have hc := hK.check false k w
 have hlt := (Array.getElem?_eq_some_iff.1 h1).1
 have hset : ∀ o,(setObj r o).run P w = .ok () (w.putObj r o) := fun o => by simp [setObj,Sem.run,h1,World.putObj]
 have hlen : es.toList.length = m.length := by have := congrArg List.length h2; simpa using this
 have hmod : ∀ o,Mod (· = r) w (w.putObj r o) := fun o => ⟨rfl,rfl,rfl,by simp,fun b _ hb => World.putObj_heap_other hb⟩
 unfold Instr.mapUpdate
 simp only [Sem.run_bind,hu,Result.andThen_ok,hg,hc,hf]
 cases hi : m.findIdx? (fun p => decide (p.1 = k)) with
 | none =>
  refine ⟨_, by simp only [Option.bind_none, hset], ⟨⟨es.push { key := ek k, val := ew v, born := c }, c + 1, World.putObj_heap_same hlt, ?_, ?_, ?_⟩, ?_⟩, hmod _, by simp⟩
  ·have hn : (mget m k).isSome = false := by rw [mget_eq,hi]; rfl
   simp [mset,hn,h2]
  ·simp only [Array.toList_push,List.map_append,List.map_cons,List.map_nil]
   rw [List.pairwise_append]
   refine ⟨h3,by simp,?_⟩
   intro a ha b hb
   simp at hb; subst hb
   obtain ⟨e,he,rfl⟩ := List.mem_map.1 ha
   exact h4 e he
  ·intro e he
   simp only [Array.toList_push,List.mem_append,List.mem_singleton] at he
   rcases he with he | rfl
   ·have := h4 e he; omega
   ·exact Nat.lt_succ_self _
  ·have hn : (mget m k).isSome = false := by rw [mget_eq,hi]; rfl
   simp only [mset,hn,Bool.false_eq_true,if_false,List.map_append,List.map_cons,List.map_nil]
   refine List.nodup_append.2 ⟨h.nodup,by simp,?_⟩
   intro a ha b hb
   simp at hb; subst hb
   rintro rfl
   rw [List.findIdx?_eq_none_iff] at hi
   obtain ⟨p,hp,rfl⟩ := List.mem_map.1 ha
   have := hi p hp
   simp at this
 | some i =>
  obtain ⟨hil,hpi,hlt'⟩ := List.findIdx?_eq_some_iff_getElem.1 hi
  have hpk : (m[i]).1 = k := by simpa using hpi
  have hmi : m[i]? = some m[i] := List.getElem?_eq_getElem hil
  have hei : i < es.size := by rw [← Array.length_toList,hlen]; exact hil
  have hkey : (es[i]'hei).key = ek k := by
   have := congrArg (fun l => l[i]?) h2
   simp only [List.getElem?_map,hmi,Option.map_some,Array.getElem?_toList,Array.getElem?_eq_getElem hei,Option.some.injEq,Prod.mk.injEq] at this
   rw [this.1,hpk]
  have hk2 : ((es[i]?).map (·.key)).getD (ek k) = ek k := by simp [hei,hkey]
  refine ⟨_, by simp only [Option.bind_some, hmi, Option.map_some, Sem.run_bind, hk2, hK.same, Result.andThen_ok, hset], ⟨⟨es.modify i fun e => { e with key := ek k, val := ew v }, c, World.putObj_heap_same hlt, ?_, ?_, ?_⟩, ?_⟩, hmod _, by simp⟩
  ·have hs : (mget m k).isSome = true := by rw [mget_eq,hi]; simp [hmi]
   simp only [mset,hs,if_true]
   apply List.ext_getElem?
   intro j
   have hj := congrArg (fun l => l[j]?) h2
   simp only [List.getElem?_map,Array.getElem?_toList,Array.getElem?_modify] at hj ⊢
   by_cases e : i = j
   ·subst e
    rw [if_pos rfl]
    simp [hei,hmi,hpk]
   ·rw [if_neg e,hj]
    cases hmj : m[j]? with
    | none => rfl
    | some p =>
     have hne : p.1 ≠ k := by
      intro hpk'
      have hjl : j < m.length := (List.getElem?_eq_some_iff.1 hmj).1
      have hpj : m[j] = p := by have := List.getElem?_eq_getElem hjl; rw [hmj] at this; exact (Option.some.inj this).symm
      have hnd := List.pairwise_iff_getElem.1 h.nodup
      rcases Nat.lt_or_ge i j with hij | hij
      ·exact hnd i j (by simpa using hil) (by simpa using hjl) hij (by simp [hpk,hpj,hpk'])
      ·exact hnd j i (by simpa using hjl) (by simpa using hil) (by omega) (by simp [hpk,hpj,hpk'])
     simp [hne]
  ·have : (es.modify i fun e => { e with key := ek k, val := ew v }).toList.map (·.born) = es.toList.map (·.born) := by
    apply List.ext_getElem?
    intro j
    simp only [List.getElem?_map,Array.getElem?_toList,Array.getElem?_modify]
    by_cases e : i = j
    ·subst e; simp [hei]
    ·simp [e]
   rw [this]; exact h3
  ·intro e he
   obtain ⟨j,hj⟩ := List.mem_iff_getElem?.1 he
   simp only [Array.getElem?_toList,Array.getElem?_modify] at hj
   by_cases e' : i = j
   ·subst e'
    simp [hei] at hj
    subst hj
    exact h4 es[i] (by simp)
   ·rw [if_neg e'] at hj
    exact h4 e (List.mem_iff_getElem?.2 ⟨j,by simpa using hj⟩)
  ·have hs : (mget m k).isSome = true := by rw [mget_eq,hi]; simp [hmi]
   simp only [mset,hs,if_true,List.map_map]
   have : m.map ((·.1) ∘ fun p => if p.1 = k then (k, v) else p) = m.map (·.1) := by
    apply List.map_congr_left
    intro p _
    simp only [Function.comp]
    by_cases e : p.1 = k
    ·simp [e]
    ·simp [e]
   rw [this]; exact h.nodup
end
theorem keyEq_int {P : Program} {K : TypeId} {q : IntKind} (hK : P.underlying K = some (.int q)) : KeyEq P K (Value.int q) where
 find := by
  intro k es m w he
  have hu := run_und hK w
  have key : ∀ (es : List MapEntry) (m : List Int) (i : Nat), es.map (·.key) = m.map (Value.int q) →
    Instr.findNow (.int q) (.int q k) es i = some ((m.findIdx? (fun x => decide (x = k))).bind fun j => (es[j]?).map fun e => (i + j,e.val)) := by
   intro es
   induction es with
   | nil => intro m i h; cases m with
    | nil => rfl
    | cons => simp at h
   | cons e es ih =>
    intro m i h
    cases m with
    | nil => simp at h
    | cons x m =>
     simp only [List.map_cons,List.cons.injEq] at h
     simp only [Instr.findNow,h.1,Instr.sameNow,if_true,List.findIdx?_cons]
     by_cases hx : x = k
     ·subst hx; simp
     ·have h1 : (k == x) = false := by simpa using Ne.symm hx
      simp only [h1,ih m (i + 1) h.2,hx,decide_false]
      cases m.findIdx? (fun x => decide (x = k)) with
      | none => rfl
      | some j => simp only [Option.map_some,Option.bind_some]; congr 2; funext e; congr 1; omega
  unfold Instr.findKey
  simp only [Sem.run_bind,hu,Result.andThen_ok,key es m 0 he,Sem.run_pure]
  simp
 check := by
  intro b k w
  have hu := run_und hK w
  have e : ∀ d, (Instr.checkKey b (d + 1) K (.int q k)).run P w = .ok () w := fun d => by
   simp only [Instr.checkKey,Sem.run_bind,hu,Result.andThen_ok,Sem.run_pure]
  exact e 9999
 same := by
  intro k w
  have e : Instr.sameBits 10000 (.int q k) (.int q k) = true := by
   have h : (q == q && k == k) = true := Bool.and_eq_true_iff.2 ⟨by cases q <;> rfl,beq_self_eq_true k⟩
   exact h
  unfold Instr.keyThatStays
  rw [if_pos e]
  rfl
end Pk