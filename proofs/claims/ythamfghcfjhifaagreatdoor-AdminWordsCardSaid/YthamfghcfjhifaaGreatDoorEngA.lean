/-
  The engine, part A: environments as functions from slots to values; a verification condition for code that one call of simp can step through; its soundness over the kit's fenced walk.
-/
import Derived.RangeFuncRecord
import Derived.OrdersIn
import Derived.Below
import Derived.IntWalk
import Derived.KernelRfl
namespace Pk
universe u
open Go

/-! ### Environments -/
abbrev Env := Nat → Value
def Env.set (ρ : Env) (d : Nat) (v : Value) : Env := fun t => if t = d then v else ρ t
@[simp] theorem Env.set_at (ρ : Env) (d : Nat) (v : Value) (t : Nat) : (Env.set ρ d v) t = if t = d then v else ρ t := rfl
def ev (ρ : Env) : Operand → Value
  | .tmp t => ρ t
  | .const v => v
  | .global g => .pointer (some ⟨g, 0, none⟩)
  | .func f => .func (.func f) #[] #[]
@[simp] theorem ev_tmp (ρ : Env) (t : Nat) : ev ρ (.tmp t) = ρ t := rfl
@[simp] theorem ev_const (ρ : Env) (v : Value) : ev ρ (.const v) = v := rfl
@[simp] theorem ev_global (ρ : Env) (g : Nat) : ev ρ (.global g) = .pointer (some ⟨g, 0, none⟩) := rfl
@[simp] theorem ev_func (ρ : Env) (f : Nat) : ev ρ (.func f) = .func (.func f) #[] #[] := rfl
def put (ρ : Env) : Option Tmp → Value → Env
  | none, _ => ρ
  | some d, v => ρ.set d v
@[simp] theorem put_none (ρ : Env) (v : Value) : put ρ none v = ρ := rfl
@[simp] theorem put_some (ρ : Env) (d : Nat) (v : Value) : put ρ (some d) v = ρ.set d v := rfl

abbrev Post := Exit → Env → List Deferred → World → Prop
abbrev Cont := Env → List Deferred → World → Prop
def FR (r : Option Nat) : Fence := { fn := fun _ => True, depth := none, alive := false, round := r }
theorem FR_none : FR none = Fence.wide := rfl
def Ag (n : Nat) (tmps : Array Value) (ρ : Env) : Prop := tmps.size = n ∧ ∀ t, t < n → tmps.getD t undef = ρ t

/-! ### What is asked of the code's slots -/
def okD (n : Nat) : Option Tmp → Bool
  | none => true
  | some d => decide (d < n)
def okX (n : Nat) : Operand → Bool
  | .tmp t => decide (t < n)
  | _ => true
def notSel : Op → Bool
  | .select .. => false
  | _ => true
def okOp (n : Nat) (o : Oper) : Bool := okD n o.dst && (o.op.operands.toList.all (okX n) && notSel o.op)
def okC (n : Nat) : Code → Bool
  | .region _ ops _ => ops.toList.all (okOp n)
  | .seq a b => okC n a && okC n b
  | .cond c t e => okX n c && (okC n t && okC n e)
  | .block _ c => okC n c
  | .loop c => okC n c
  | .scope c => okC n c
  | .rangeFunc f ps a b => okX n f && (ps.toList.all (fun p => decide (p < n)) && (okC n a && okC n b))
  | _ => true

theorem eval_eq {n : Nat} {tmps : Array Value} {ρ : Env} {ds : List Deferred} (h : Ag n tmps ρ) {x : Operand} (hx : okX n x = true) : (Act.mk tmps ds).eval x = ev ρ x := by
  cases x with
  | tmp t => exact h.2 t (by simpa [okX] using hx)
  | _ => rfl
theorem Ag.put {n : Nat} {tmps : Array Value} {ρ : Env} {ds : List Deferred} (h : Ag n tmps ρ) {d : Option Tmp} (hd : okD n d = true) (v : Value) :
    Ag n ((Act.mk tmps ds).put d v).tmps (put ρ d v) := by
  cases d with
  | none => exact h
  | some d =>
    refine ⟨by simpa [Act.put] using h.1, fun t ht => ?_⟩
    have hd' : d < n := by simpa [okD] using hd
    simp only [Act.put, Pk.put, Env.set]
    by_cases e : t = d
    · subst e; simp [h.1, ht]
    · rw [if_neg e]
      have := h.2 t ht
      simp only [Array.getD_eq_getD_getElem?] at this ⊢
      rw [Array.getElem?_setIfInBounds_ne (Ne.symm e)]
      exact this
theorem put_defers (a : Act) (d : Option Tmp) (v : Value) : (a.put d v).defers = a.defers := by cases d <;> rfl

/-! ### Guards -/
def gv (ops : Array Oper) (ρ : Env) (j : Nat) : Option Bool :=
  match (ops[j]?).bind (·.dst) with
  | some d => (match ρ d with | .bool b => some b | _ => none)
  | none => none
def gw (ops : Array Oper) (ρ : Env) : Option (Nat × Bool) → Bool
  | none => true
  | some (j, want) => gv ops ρ j == some want
@[simp] theorem gw_none (ops : Array Oper) (ρ : Env) : gw ops ρ none = true := rfl
theorem gv_eq {n : Nat} {tmps : Array Value} {ρ : Env} {ops : Array Oper} (h : Ag n tmps ρ) (hok : ops.toList.all (okOp n) = true) (j : Nat) : yielded ops tmps j = gv ops ρ j := by
  unfold yielded gv
  cases ho : ops[j]? with
  | none => rfl
  | some o =>
    have hm : o ∈ ops.toList := by
      have := Array.mem_of_getElem? ho
      simpa using this
    have hd : okD n o.dst = true := by
      have := List.all_eq_true.1 hok o hm
      simp [okOp] at this
      exact this.1
    cases hdst : o.dst with
    | none => simp [hdst]
    | some d =>
      have hd' : d < n := by simpa [hdst, okD] using hd
      have ht := h.2 d hd'
      have hs : d < tmps.size := by rw [h.1]; exact hd'
      simp only [Option.bind_some, hdst]
      have e : tmps[d]? = some (ρ d) := by
        rw [Array.getElem?_eq_getElem hs]
        simp [Array.getD_eq_getD_getElem?, Array.getElem?_eq_getElem hs] at ht
        rw [ht]
      rw [e]
      cases ρ d <;> rfl
theorem gw_eq {n : Nat} {tmps : Array Value} {ρ : Env} {ops : Array Oper} (h : Ag n tmps ρ) (hok : ops.toList.all (okOp n) = true) (o : Oper) :
    Region.wanted o (yielded ops tmps) = gw ops ρ o.guard := by
  unfold Region.wanted gw
  cases o.guard with
  | none => rfl
  | some g => obtain ⟨j, b⟩ := g; simp only [gv_eq h hok]

/-! ### Small combinators: simp looks into the first part alone -/
def GI (b : Bool) (A B : Prop) : Prop := (b = true → A) ∧ (b = false → B)
theorem GI_true (A B : Prop) : GI true A B = A := by simp [GI]
theorem GI_false (A B : Prop) : GI false A B = B := by simp [GI]
theorem GI_split {b : Bool} {A B : Prop} (h1 : b = true → A) (h2 : b = false → B) : GI b A B := ⟨h1, h2⟩
def onR (x : Result Value) (k : Value → World → Prop) : Prop := match x with | .ok v w => k v w | .halt _ _ => False
theorem onR_ok (v : Value) (w : World) (k : Value → World → Prop) : onR (.ok v w) k = k v w := rfl
def onU (x : Result Unit) (k : World → Prop) : Prop := match x with | .ok _ w => k w | .halt _ _ => False
theorem onU_ok (u : Unit) (w : World) (k : World → Prop) : onU (.ok u w) k = k w := rfl
/-- A test. -/
def onB (v : Value) (A B : Prop) : Prop := match v with | .bool b => GI b A B | _ => False
theorem onB_bool (b : Bool) (A B : Prop) : onB (.bool b) A B = GI b A B := rfl

/-! ### Calls -/
/-- The function f, called. -/
def FN (P : Program) (f : FuncId) (args : List Value) (w : World) (R : Ending → World → Prop) : Prop :=
  match (callFunc f args.toArray).run P w with
  | .ok (.enter g as) w' => Calls P g as w' R
  | .ok (.value v) w' => R (.returned v) w'
  | _ => False
/-- A round of the loop l is asked for. -/
def YD (P : Program) (l : Nat) (args : List Value) (w : World) (R : Ending → World → Prop) : Prop :=
  match (Instr.yield l args.toArray).run P w with
  | .ok (.round l' f tmps a b) w' => RoundIn (FR none) 0 P l' f tmps a b w' R
  | _ => False
def CV (P : Program) (v : Value) (args : List Value) (w : World) (R : Ending → World → Prop) : Prop :=
  match v with
  | .func (.func f) first caps => FN P f (first.toList ++ (args ++ caps.toList)) w R
  | .func (.yield l) first _ => YD P l (first.toList ++ args) w R
  | _ => False
theorem CV_func (P : Program) (f : FuncId) (first caps : Array Value) (args : List Value) (w : World) (R : Ending → World → Prop) :
    CV P (.func (.func f) first caps) args w R = FN P f (first.toList ++ (args ++ caps.toList)) w R := rfl
theorem CV_yield (P : Program) (l : Nat) (first caps : Array Value) (args : List Value) (w : World) (R : Ending → World → Prop) :
    CV P (.func (.yield l) first caps) args w R = YD P l (first.toList ++ args) w R := rfl
theorem FN.mono {P : Program} {f : FuncId} {args : List Value} {w : World} {R R' : Ending → World → Prop} (h : FN P f args w R) (hR : ∀ e w', R e w' → R' e w') : FN P f args w R' := by
  unfold FN at *
  split at h
  · exact h.mono hR
  · exact hR _ _ h
  · exact h.elim
theorem YD.mono {P : Program} {l : Nat} {args : List Value} {w : World} {R R' : Ending → World → Prop} (h : YD P l args w R) (hR : ∀ e w', R e w' → R' e w') : YD P l args w R' := by
  unfold YD at *
  split at h
  · exact h.mono hR
  · exact h.elim
theorem CV.mono {P : Program} {v : Value} {args : List Value} {w : World} {R R' : Ending → World → Prop} (h : CV P v args w R) (hR : ∀ e w', R e w' → R' e w') : CV P v args w R' := by
  unfold CV at *
  split at h
  · exact FN.mono h hR
  · exact YD.mono h hR
  · exact h.elim

/-! ### Tokens: what a token's type names is not looked into by simp -/
inductive Tok {α : Sort u} (a : α) : Type
  | mk
def GIt (b : Bool) (A B : Prop) (_ : Tok (And A B)) : Prop := GI b A B
@[simp ↓] theorem GI_tok (b : Bool) (A B : Prop) : GI b A B = GIt b A B .mk := _root_.id rfl
@[simp] theorem GIt_true (A B : Prop) (t : Tok (And A B)) : GIt true A B t = A := GI_true A B
@[simp] theorem GIt_false (A B : Prop) (t : Tok (And A B)) : GIt false A B t = B := GI_false A B
theorem GIt_split {b : Bool} {A B : Prop} {t : Tok (And A B)} (h1 : b = true → A) (h2 : b = false → B) : GIt b A B t := ⟨h1, h2⟩
def onRt (x : Result Value) (k : Value → World → Prop) (_ : Tok k) : Prop := onR x k
@[simp ↓] theorem onR_tok (x : Result Value) (k : Value → World → Prop) : onR x k = onRt x k .mk := _root_.id rfl
@[simp] theorem onRt_ok (v : Value) (w : World) (k : Value → World → Prop) (t : Tok k) : onRt (.ok v w) k t = k v w := _root_.id rfl
def onUt (x : Result Unit) (k : World → Prop) (_ : Tok k) : Prop := onU x k
@[simp ↓] theorem onU_tok (x : Result Unit) (k : World → Prop) : onU x k = onUt x k .mk := _root_.id rfl
@[simp] theorem onUt_ok (u : Unit) (w : World) (k : World → Prop) (t : Tok k) : onUt (.ok u w) k t = k w := _root_.id rfl
def onBt (v : Value) (A B : Prop) (_ : Tok (And A B)) : Prop := onB v A B
@[simp ↓] theorem onB_tok (v : Value) (A B : Prop) : onB v A B = onBt v A B .mk := _root_.id rfl
@[simp] theorem onBt_bool (b : Bool) (A B : Prop) (t : Tok (And A B)) : onBt (.bool b) A B t = GIt b A B .mk := _root_.id rfl
def CVt (P : Program) (v : Value) (args : List Value) (w : World) (R : Ending → World → Prop) (_ : Tok R) : Prop := CV P v args w R
@[simp ↓] theorem CV_tok (P : Program) (v : Value) (args : List Value) (w : World) (R : Ending → World → Prop) : CV P v args w R = CVt P v args w R .mk := _root_.id rfl
def FNt (P : Program) (f : FuncId) (args : List Value) (w : World) (R : Ending → World → Prop) (_ : Tok R) : Prop := FN P f args w R
def YDt (P : Program) (l : Nat) (args : List Value) (w : World) (R : Ending → World → Prop) (_ : Tok R) : Prop := YD P l args w R
@[simp ↓] theorem FN_tok (P : Program) (f : FuncId) (args : List Value) (w : World) (R : Ending → World → Prop) : FN P f args w R = FNt P f args w R .mk := _root_.id rfl
@[simp ↓] theorem YD_tok (P : Program) (l : Nat) (args : List Value) (w : World) (R : Ending → World → Prop) : YD P l args w R = YDt P l args w R .mk := _root_.id rfl
@[simp] theorem CVt_func (P : Program) (f : FuncId) (first caps : Array Value) (args : List Value) (w : World) (R : Ending → World → Prop) (t : Tok R) :
    CVt P (.func (.func f) first caps) args w R t = FNt P f (first.toList ++ (args ++ caps.toList)) w R .mk := _root_.id rfl
@[simp] theorem CVt_yield (P : Program) (l : Nat) (first caps : Array Value) (args : List Value) (w : World) (R : Ending → World → Prop) (t : Tok R) :
    CVt P (.func (.yield l) first caps) args w R t = YDt P l (first.toList ++ args) w R .mk := _root_.id rfl

/-- How a call's end is taken up. -/
def RC (d : Option Tmp) (K : Cont) (Q : Post) (ρ : Env) (ds : List Deferred) : Ending → World → Prop
  | .returned v, w => K (put ρ d v) ds w
  | .panicked ch, w => Q (.panic ch) ρ ds w
  | .outgrown, _ => False
@[simp] theorem RC_returned (d : Option Tmp) (K : Cont) (Q : Post) (ρ : Env) (ds : List Deferred) (v : Value) (w : World) : RC d K Q ρ ds (.returned v) w = K (put ρ d v) ds w := _root_.id rfl
@[simp] theorem RC_panicked (d : Option Tmp) (K : Cont) (Q : Post) (ρ : Env) (ds : List Deferred) (ch : List PanicEntry) (w : World) : RC d K Q ρ ds (.panicked ch) w = Q (.panic ch) ρ ds w := _root_.id rfl

/-! ### The verification condition of an operation -/
def DF (v : Value) (args : List Value) (k : Deferred → Prop) : Prop :=
  match v with
  | .func fn first caps => k { target := .fn fn caps, args := (first.toList ++ args).toArray }
  | _ => False
@[simp] theorem DF_func (fn : Fn) (first caps : Array Value) (args : List Value) (k : Deferred → Prop) : DF (.func fn first caps) args k = k { target := .fn fn caps, args := (first.toList ++ args).toArray } := _root_.id rfl
def PN (v : Value) (k : List PanicEntry → Prop) : Prop :=
  match v with
  | .iface t x => k [{ v := .iface t x, recovered := false }]
  | _ => False
@[simp] theorem PN_iface (t : TypeId) (x : Value) (k : List PanicEntry → Prop) : PN (.iface t x) k = k [{ v := .iface t x, recovered := false }] := _root_.id rfl
def BV (b : Builtin) (argTypes : Array TypeId) (type : TypeId) (args : Array Value) : Sem Value :=
  match b with
  | .append => Builtin.append_ argTypes type args
  | .cap => Builtin.cap_ argTypes type args
  | .clear => Builtin.clear_ argTypes type args
  | .copy => Builtin.copy_ argTypes type args
  | .delete => Builtin.delete_ argTypes type args
  | .len => Builtin.len_ argTypes type args
  | .max => Builtin.max_ argTypes type args
  | .min => Builtin.min_ argTypes type args
  | _ => stuck "not here"

def VO (P : Program) (r : Option Nat) (o : Oper) (K : Cont) (Q : Post) (ρ : Env) (ds : List Deferred) (w : World) : Prop :=
  let kv : Value → World → Prop := fun v w' => K (put ρ o.dst v) ds w'
  let ku : World → Prop := fun w' => K (put ρ o.dst undef) ds w'
  match o.op with
  | .move x | .assign x => kv (ev ρ x) w
  | .pick c a b => onR ((do pure (if ← asBool (ev ρ c) then ev ρ a else ev ρ b) : Sem Value).run P w) kv
  | .alloc t => onR ((Instr.alloc t true (.tuple #[])).run P w) kv
  | .box t x => onR ((Instr.box t (ev ρ x)).run P w) kv
  | .build t parts => onR ((Instr.build t (parts.map fun (i, x) => (i, ev ρ x))).run P w) kv
  | .buildSlice t n parts => onR ((Instr.buildSlice t n (parts.map fun (i, x) => (i, ev ρ x))).run P w) kv
  | .load t a => onR ((Instr.loadAt t (ev ρ a)).run P w) kv
  | .store t a x => onU ((Instr.storeAt t (ev ρ a) (ev ρ x)).run P w) ku
  | .nilCheck x => onR ((match ev ρ x with | .pointer (some a) => pure (.pointer (some a)) | _ => stuck "nilCheck" : Sem Value).run P w) kv
  | .binOp op t x y _ => onR ((do eqGuard op t x y (ev ρ x) (ev ρ y); binOp op t (ev ρ x) (ev ρ y) : Sem Value).run P w) kv
  | .unOp op _ x => onR ((Op.unary op (ev ρ x)).run P w) kv
  | .convert s d x => onR ((convert s d (ev ρ x)).run P w) kv
  | .makeInterface t x => onR ((Instr.makeInterface t (ev ρ x)).run P w) kv
  | .makeFunc fn first caps => kv (.func fn (first.map (ev ρ)) (caps.map (ev ρ))) w
  | .makeMap t r => onR ((Instr.makeMap t (r.map (ev ρ))).run P w) kv
  | .makeSlice t l c => onR ((Instr.makeSlice t (ev ρ l) (ev ρ c)).run P w) kv
  | .slice t x lo hi mx => onR ((Instr.sliceAt t (ev ρ x) (lo.map (ev ρ)) (hi.map (ev ρ)) (mx.map (ev ρ))).run P w) kv
  | .fieldAddr s x f => onR ((Instr.fieldAt s (ev ρ x) f).run P w) kv
  | .field t x f => onR ((Instr.field t (ev ρ x) f).run P w) kv
  | .indexAddr t x i => onR ((Instr.indexAt t (ev ρ x) (ev ρ i)).run P w) kv
  | .index t x i => onR ((Instr.index t (ev ρ x) (ev ρ i)).run P w) kv
  | .lookup t x i ok => onR ((Instr.lookup t (ev ρ x) (ev ρ i) ok).run P w) kv
  | .mapUpdate t m k x | .insert t m k x => onU ((Instr.mapUpdate t (ev ρ m) (ev ρ k) (ev ρ x)).run P w) ku
  | .mapEntry t m k => onR ((Instr.mapEntry t (ev ρ m) (ev ρ k)).run P w) kv
  | .entryStore t m s x => onU ((Instr.entryStore t (ev ρ m) (ev ρ s) (ev ρ x)).run P w) ku
  | .range t x => onR ((Instr.range t (ev ρ x)).run P w) kv
  | .next it s => onR ((Instr.next (ev ρ it) s o.type).run P w) kv
  | .entry it => onR ((Instr.entry (ev ρ it)).run P w) kv
  | .typeAssert x t d ok => onR ((Instr.typeAssert (ev ρ x) t d ok).run P w) kv
  | .extract t i => onR ((Instr.extract (ev ρ t) i).run P w) kv
  | .call { callee := .value f, args, .. } => CV P (ev ρ f) (args.toList.map (ev ρ)) w (RC o.dst K Q ρ ds)
  | .call { callee := .builtin b, args, argTypes } => onR ((BV b argTypes o.type (args.map (ev ρ))).run P w) kv
  | .defer { callee := .value f, args, .. } => r = none ∧ DF (ev ρ f) (args.toList.map (ev ρ)) fun d => K (put ρ o.dst undef) (d :: ds) w
  | .panic x => PN (ev ρ x) fun ch => Q (.panic ch) ρ ds w
  | _ => False

theorem uponIn_of_onR {r : Option Nat} {P : Program} {o : Oper} {a : Act} {K : Act → World → Prop} {Q : Exit → Act → World → Prop} {s : Sem Value} {w : World} {k : Value → World → Prop}
    (h : onR (s.run P w) k) (hk : ∀ v w', k v w' → K (a.put o.dst v) w') : o.uponIn (FR r) 0 P a K Q ((do pure (Next.value (← s)) : Sem Next).run P w) := by
  simp only [Sem.run_bind]
  cases hs : s.run P w with
  | ok v w' => rw [hs] at h; exact hk _ _ h
  | halt e w' => rw [hs] at h; exact h.elim
theorem uponIn_of_onU {r : Option Nat} {P : Program} {o : Oper} {a : Act} {K : Act → World → Prop} {Q : Exit → Act → World → Prop} {s : Sem Unit} {w : World} {k : World → Prop}
    (h : onU (s.run P w) k) (hk : ∀ w', k w' → K (a.put o.dst undef) w') : o.uponIn (FR r) 0 P a K Q ((do s; pure Next.skip : Sem Next).run P w) := by
  simp only [Sem.run_bind]
  cases hs : s.run P w with
  | ok v w' => rw [hs] at h; exact hk _ h
  | halt e w' => rw [hs] at h; exact h.elim
theorem callsIn_FR {r : Option Nat} {P : Program} {f : FuncId} {args : Array Value} {w : World} {R : Ending → World → Prop} (h : Calls P f args w R) : CallsIn (FR r) 0 P f args w R := by
  have h' := callsIn_wide (n := 0).2 h
  exact h'

theorem arg_ok {n : Nat} {o : Oper} (hok : okOp n o = true) : ∀ x ∈ o.op.operands, okX n x = true := by
  intro x hx
  have := (Bool.and_eq_true_iff.1 (Bool.and_eq_true_iff.1 hok).2).1
  exact List.all_eq_true.1 this x (by simpa using hx)
theorem exec_eq {n : Nat} {tmps : Array Value} {ρ : Env} {ds : List Deferred} (h : Ag n tmps ρ) {o : Oper} (hok : okOp n o = true) :
    execOp (Act.mk tmps ds).eval o = execOp (ev ρ) o := by
  refine execOp_congr o ?_ fun x hx => eval_eq h (arg_ok hok x hx)
  intro cs b e
  have := (Bool.and_eq_true_iff.1 (Bool.and_eq_true_iff.1 hok).2).2
  rw [e] at this
  simp [notSel] at this

theorem uponIn_of_FN {r : Option Nat} {P : Program} {o : Oper} {a : Act} {K : Act → World → Prop} {Q : Exit → Act → World → Prop} {f : FuncId} {args : List Value} {w : World} {R : Ending → World → Prop}
    (h : FN P f args w R) (hR : ∀ e w', R e w' → (match e with | .returned v => K (a.put o.dst v) w' | .panicked ch => Q (.panic ch) a w' | .outgrown => False)) :
    o.uponIn (FR r) 0 P a K Q ((callFunc f args.toArray).run P w) := by
  unfold FN at h
  split at h
  · rename_i g as w' he
    rw [he]
    refine ⟨fun h => by simp [FR] at h, callsIn_FR (h.mono fun e w' hr => ?_)⟩
    have := hR e w' hr
    cases e <;> first | exact this | exact this.elim
  · rename_i v w' he
    rw [he]
    exact hR _ _ h
  · exact h.elim
theorem uponIn_of_CV {r : Option Nat} {P : Program} {o : Oper} {a : Act} {K : Act → World → Prop} {Q : Exit → Act → World → Prop} {v : Value} {args : List Value} {w : World} {R : Ending → World → Prop}
    (h : CV P v args w R) (hR : ∀ e w', R e w' → (match e with | .returned v => K (a.put o.dst v) w' | .panicked ch => Q (.panic ch) a w' | .outgrown => False)) :
    o.uponIn (FR r) 0 P a K Q ((do let d ← Deferred.ofValue v args.toArray; invoke d.target d.args : Sem Next).run P w) := by
  unfold CV at h
  split at h
  · rename_i f first caps
    have e : ((do let d ← Deferred.ofValue (.func (.func f) first caps) args.toArray; invoke d.target d.args : Sem Next).run P w) = (callFunc f (first.toList ++ (args ++ caps.toList)).toArray).run P w := by
      have e0 : first ++ (args.toArray ++ caps) = (first.toList ++ (args ++ caps.toList)).toArray := by apply Array.ext'; simp
      simp [Deferred.ofValue, invoke, e0]
    rw [e]
    exact uponIn_of_FN h hR
  · rename_i l first caps
    have e : ((do let d ← Deferred.ofValue (.func (.yield l) first caps) args.toArray; invoke d.target d.args : Sem Next).run P w) = (Instr.yield l (first.toList ++ args).toArray).run P w := by
      have e0 : first ++ args.toArray = (first.toList ++ args).toArray := by apply Array.ext'; simp
      simp [Deferred.ofValue, invoke, e0]
    rw [e]
    unfold YD at h
    split at h
    · rename_i l' f tmps as body w' he
      rw [he]
      refine ⟨fun h => by simp [FR] at h, ?_⟩
      have h' : RoundIn (FR r) 0 P l' f tmps as body w' R := h
      refine h'.mono fun e w' hr => ?_
      have := hR e w' hr
      cases e <;> first | exact this | exact this.elim
    · exact h.elim
  · exact h.elim

theorem VO_sound {P : Program} {n : Nat} {r : Option Nat} {o : Oper} {K : Cont} {Q : Post} {ρ : Env} {ds : List Deferred} {w : World} {tmps : Array Value} {K' : Act → World → Prop} {Q' : Exit → Act → World → Prop}
    (hAg : Ag n tmps ρ) (hok : okOp n o = true)
    (hK : ∀ (a' : Act) (ρ' : Env) (w' : World), Ag n a'.tmps ρ' → K ρ' a'.defers w' → K' a' w')
    (hQ : ∀ (e : Exit) (a' : Act) (ρ' : Env) (w' : World), Ag n a'.tmps ρ' → Q e ρ' a'.defers w' → Q' e a' w')
    (h : VO P r o K Q ρ ds w) : o.wpIn (FR r) 0 P ⟨tmps, ds⟩ w K' Q' := by
  refine ⟨fun _ _ => trivial, ?_⟩
  have hd : okD n o.dst = true := (Bool.and_eq_true_iff.1 hok).1
  have hpk : ∀ v w', K (put ρ o.dst v) ds w' → K' ((Act.mk tmps ds).put o.dst v) w' := fun v w' hk =>
    hK _ _ _ (hAg.put hd v) (by rw [put_defers]; exact hk)
  have hrc : ∀ e w', RC o.dst K Q ρ ds e w' → (match e with | .returned v => K' ((Act.mk tmps ds).put o.dst v) w' | .panicked ch => Q' (.panic ch) ⟨tmps, ds⟩ w' | .outgrown => False) := by
    intro e w' he
    cases e with
    | returned v => exact hpk _ _ he
    | panicked ch => exact hQ _ _ _ _ hAg he
    | outgrown => exact he
  have hex := exec_eq (ds := ds) hAg hok
  obtain ⟨dst, op, ty, pos, aft, gd⟩ := o
  by_cases hdf : ∃ c, op = .defer c
  · obtain ⟨c, rfl⟩ := hdf
    obtain ⟨callee, args, ats⟩ := c
    cases callee with
    | value f =>
      simp only [VO] at h
      obtain ⟨rfl, h⟩ := h
      have e1 : Oper.semAt (FR none).round (Act.mk tmps ds).eval { dst := dst, op := .defer ⟨.value f, args, ats⟩, type := ty, pos := pos, after := aft, guard := gd } = execOp (ev ρ) { dst := dst, op := .defer ⟨.value f, args, ats⟩, type := ty, pos := pos, after := aft, guard := gd } := by
        rw [← hex]; rfl
      rw [e1]
      simp only [execOp, resolve]
      unfold DF at h
      split at h
      · rename_i fn first caps he
        rw [he]
        have e2 : ((do pure (Next.defer (← Deferred.ofValue (.func fn first caps) (args.map (ev ρ)))) : Sem Next).run P w) = .ok (.defer { target := .fn fn caps, args := (first.toList ++ args.toList.map (ev ρ)).toArray }) w := by
          simp [Deferred.ofValue]
        rw [e2]
        exact hK _ _ _ (Ag.put (ds := _ :: ds) hAg hd undef) (by rw [put_defers]; exact h)
      · exact h.elim
    | _ => simp only [VO] at h
  · have e1 : Oper.semAt (FR r).round (Act.mk tmps ds).eval ⟨dst, op, ty, pos, aft, gd⟩ = execOp (ev ρ) ⟨dst, op, ty, pos, aft, gd⟩ := by
      rw [Oper.semAt_eq _ _ _ (fun c e => hdf ⟨c, e⟩)]; exact hex
    rw [e1]
    cases op with
    | move x => exact hpk _ _ h
    | assign x => exact hpk _ _ h
    | makeFunc fn first caps => exact hpk _ _ h
    | pick c a b =>
      have e : execOp (ev ρ) ⟨dst, .pick c a b, ty, pos, aft, gd⟩ = (do let x ← (do pure (if ← asBool (ev ρ c) then ev ρ a else ev ρ b) : Sem Value); pure (Next.value x) : Sem Next) := by
        simp only [execOp, bind_assoc, pure_bind]
      rw [e]
      exact uponIn_of_onR h hpk
    | alloc t => exact uponIn_of_onR h hpk
    | box t x =>
      have h' : onR ((Instr.box t (ev ρ x)).run P w) (fun v w' => K (put ρ dst v) ds w') := h
      exact uponIn_of_onR h' hpk
    | build t ps => exact uponIn_of_onR h hpk
    | buildSlice t k ps => exact uponIn_of_onR h hpk
    | load t x => exact uponIn_of_onR h hpk
    | store t x y => exact uponIn_of_onU h (fun w' => hpk _ w')
    | nilCheck x =>
      simp only [VO] at h
      simp only [execOp]
      cases hx : ev ρ x with
      | pointer p =>
        cases p with
        | none => rw [hx] at h; exact h.elim
        | some p => rw [hx] at h; exact hpk _ _ h
      | _ => rw [hx] at h; exact h.elim
    | binOp p t x y t' => exact uponIn_of_onR h hpk
    | unOp p t x => exact uponIn_of_onR h hpk
    | convert s d x => exact uponIn_of_onR h hpk
    | makeInterface t x => exact uponIn_of_onR h hpk
    | makeMap t x => exact uponIn_of_onR h hpk
    | makeSlice t l c => exact uponIn_of_onR h hpk
    | slice t x lo hi mx => exact uponIn_of_onR h hpk
    | fieldAddr s x f => exact uponIn_of_onR h hpk
    | field s x f => exact uponIn_of_onR h hpk
    | indexAddr s x f => exact uponIn_of_onR h hpk
    | index s x f => exact uponIn_of_onR h hpk
    | lookup s x f ok => exact uponIn_of_onR h hpk
    | mapUpdate t m k x => exact uponIn_of_onU h (fun w' => hpk _ w')
    | insert t m k x => exact uponIn_of_onU h (fun w' => hpk _ w')
    | mapEntry t m k => exact uponIn_of_onR h hpk
    | entryStore t m k x => exact uponIn_of_onU h (fun w' => hpk _ w')
    | range t x => exact uponIn_of_onR h hpk
    | next it s => exact uponIn_of_onR h hpk
    | entry it => exact uponIn_of_onR h hpk
    | typeAssert x t d ok => exact uponIn_of_onR h hpk
    | extract t i => exact uponIn_of_onR h hpk
    | panic x =>
      simp only [VO] at h
      unfold PN at h
      split at h
      · rename_i t v he
        simp only [execOp, he, Instr.panic, goPanic]
        exact hQ _ _ _ _ hAg h
      · exact h.elim
    | call c =>
      obtain ⟨callee, args, ats⟩ := c
      cases callee with
      | value f =>
        simp only [VO] at h
        have := uponIn_of_CV (r := r) (o := ⟨dst, .call ⟨.value f, args, ats⟩, ty, pos, aft, gd⟩) (a := ⟨tmps, ds⟩) (K := K') (Q := Q') h hrc
        have e : execOp (ev ρ) ⟨dst, .call ⟨.value f, args, ats⟩, ty, pos, aft, gd⟩ = (do let d ← Deferred.ofValue (ev ρ f) (args.toList.map (ev ρ)).toArray; invoke d.target d.args : Sem Next) := by
          have : (args.toList.map (ev ρ)).toArray = args.map (ev ρ) := by apply Array.ext'; simp
          rw [this]; rfl
        rw [e]; exact this
      | builtin b =>
        simp only [VO] at h
        have e : ∀ s : Sem Value, BV b ats ty (args.map (ev ρ)) = s → onR (s.run P w) (fun v w' => K (put ρ dst v) ds w') → execOp (ev ρ) ⟨dst, .call ⟨.builtin b, args, ats⟩, ty, pos, aft, gd⟩ = (do pure (Next.value (← s)) : Sem Next) := by
          intro s hs hh
          cases b <;> simp only [BV] at hs <;> subst hs <;> first | (exact hh.elim) | rfl
        rw [e _ rfl h]
        exact uponIn_of_onR h hpk
      | invoke x m => exact (show False from h).elim
    | defer c => exact (hdf ⟨c, rfl⟩).elim
    | _ => exact (show False from h).elim

/-! ### Lists of operations -/
def VL (P : Program) (r : Option Nat) (ops : Array Oper) (Q : Post) : List Oper → Env → List Deferred → World → Prop
  | [], ρ, ds, w => Q .normal ρ ds w
  | o :: rest, ρ, ds, w => GI (gw ops ρ o.guard) (VO P r o (VL P r ops Q rest) Q ρ ds w) (VL P r ops Q rest (put ρ o.dst undef) ds w)
theorem VL_sound {P : Program} {n : Nat} {r : Option Nat} {ops : Array Oper} {Q : Post} {Q' : Exit → Act → World → Prop} (hops : ops.toList.all (okOp n) = true)
    (hQ : ∀ (e : Exit) (a' : Act) (ρ' : Env) (w' : World), Ag n a'.tmps ρ' → Q e ρ' a'.defers w' → Q' e a' w') :
    ∀ (l : List Nat) (lo : List Oper), l.map (fun i => ops[i]?) = lo.map some → ∀ (a : Act) (ρ : Env) (w : World), Ag n a.tmps ρ → VL P r ops Q lo ρ a.defers w →
      wpOpsIn (FR r) 0 P ops Q' l a w := by
  intro l
  induction l with
  | nil =>
    intro lo hl a ρ w hAg h
    cases lo with
    | nil => exact hQ _ _ _ _ hAg h
    | cons o lo => simp at hl
  | cons i l ih =>
    intro lo hl a ρ w hAg h
    cases lo with
    | nil => simp at hl
    | cons o lo =>
      simp only [List.map_cons, List.cons.injEq] at hl
      obtain ⟨ho, hl⟩ := hl
      simp only [wpOpsIn, ho]
      have hok : okOp n o = true := List.all_eq_true.1 hops o (by simpa using Array.mem_of_getElem? ho)
      rw [gw_eq hAg hops o]
      unfold VL at h
      cases hg : gw ops ρ o.guard with
      | true =>
        rw [hg, GI_true] at h
        simp only [if_true]
        exact VO_sound hAg hok (fun a' ρ' w' hA hk => ih lo hl a' ρ' w' hA hk) hQ h
      | false =>
        rw [hg, GI_false] at h
        simp only [Bool.false_eq_true, if_false]
        refine ⟨fun _ _ => trivial, ih lo hl _ _ _ (hAg.put (ds := a.defers) ?_ undef) (by rw [put_defers]; exact h)⟩
        exact (Bool.and_eq_true_iff.1 hok).1
theorem range_map (ops : Array Oper) : (List.range ops.size).map (fun i => ops[i]?) = ops.toList.map some := by
  apply List.ext_getElem?
  intro i
  simp only [List.getElem?_map, Array.getElem?_toList]
  by_cases h : i < ops.size
  · simp [h]
  · simp [Nat.not_lt.1 h]
end Pk
