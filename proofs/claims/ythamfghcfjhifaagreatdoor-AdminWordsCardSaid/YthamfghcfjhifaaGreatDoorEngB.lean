/-
  The engine, part B: code, functions, loops, scopes, range over a function.
-/
import Derived.Test.YthamfghcfjhifaaGreatDoorEngA
namespace Pk
open Go

def WC (P : Program) (n : Nat) (r : Option Nat) (c : Code) (Q : Post) (ρ : Env) (ds : List Deferred) (w : World) : Prop :=
  okC n c = true → ∀ tmps, Ag n tmps ρ → c.wpIn (FR r) 0 P (fun e a w' => ∃ ρ', Ag n a.tmps ρ' ∧ Q e ρ' a.defers w') ⟨tmps, ds⟩ w
theorem WC.mono {P : Program} {n : Nat} {r : Option Nat} {c : Code} {Q Q' : Post} {ρ : Env} {ds : List Deferred} {w : World} (h : WC P n r c Q ρ ds w) (hQ : ∀ e ρ ds w, Q e ρ ds w → Q' e ρ ds w) :
    WC P n r c Q' ρ ds w := fun hok tmps hA => wpIn_mono (h hok tmps hA) fun _ _ _ ⟨ρ', hA', hq⟩ => ⟨ρ', hA', hQ _ _ _ _ hq⟩

/-- What stands behind the first of two codes. -/
def QS (K : Cont) (Q : Post) : Post
  | .normal => K
  | e => Q e
def QB (id : Nat) (Q : Post) : Post
  | .exit id', ρ, ds, w => if id' = id then Q .normal ρ ds w else Q (.exit id') ρ ds w
  | e, ρ, ds, w => Q e ρ ds w
section
variable (K : Cont) (Q : Post) (ρ : Env) (ds : List Deferred) (w : World)
@[simp ↓] theorem QS_normal : QS K Q .normal ρ ds w = K ρ ds w := _root_.id rfl
@[simp ↓] theorem QS_ret : QS K Q .ret ρ ds w = Q .ret ρ ds w := _root_.id rfl
@[simp ↓] theorem QS_exit (id : Nat) : QS K Q (.exit id) ρ ds w = Q (.exit id) ρ ds w := _root_.id rfl
@[simp ↓] theorem QS_goto (l : Nat) : QS K Q (.goto l) ρ ds w = Q (.goto l) ρ ds w := _root_.id rfl
@[simp ↓] theorem QS_panic (ch : List PanicEntry) : QS K Q (.panic ch) ρ ds w = Q (.panic ch) ρ ds w := _root_.id rfl
@[simp ↓] theorem QB_normal (id : Nat) : QB id Q .normal ρ ds w = Q .normal ρ ds w := _root_.id rfl
@[simp ↓] theorem QB_ret (id : Nat) : QB id Q .ret ρ ds w = Q .ret ρ ds w := _root_.id rfl
@[simp ↓] theorem QB_exit (id id' : Nat) : QB id Q (.exit id') ρ ds w = if id' = id then Q .normal ρ ds w else Q (.exit id') ρ ds w := _root_.id rfl
@[simp ↓] theorem QB_goto (id l : Nat) : QB id Q (.goto l) ρ ds w = Q (.goto l) ρ ds w := _root_.id rfl
@[simp ↓] theorem QB_panic (id : Nat) (ch : List PanicEntry) : QB id Q (.panic ch) ρ ds w = Q (.panic ch) ρ ds w := _root_.id rfl
end

def vc (P : Program) (n : Nat) (r : Option Nat) : Code → Post → Cont
  | .skip, Q => Q .normal
  | .label _, Q => Q .normal
  | .ret, Q => Q .ret
  | .exit id, Q => Q (.exit id)
  | .goto l, Q => Q (.goto l)
  | .seq a b, Q => vc P n r a (QS (vc P n r b Q) Q)
  | .block id c, Q => vc P n r c (QB id Q)
  | .cond c t e, Q => fun ρ ds w => onB (ev ρ c) (vc P n r t Q ρ ds w) (vc P n r e Q ρ ds w)
  | .region id ops draw, Q => fun ρ ds w => if draw = true then WC P n r (.region id ops true) Q ρ ds w else VL P r ops Q ops.toList ρ ds w
  | .loop c, Q => WC P n r (.loop c) Q
  | .scope c, Q => WC P n r (.scope c) Q
  | .rangeFunc f ps a b, Q => WC P n r (.rangeFunc f ps a b) Q
  | .refuse _, _ => fun _ _ _ => False

theorem WC_region {P : Program} {n : Nat} {r : Option Nat} {id : Nat} {ops : Array Oper} {Q : Post} {ρ : Env} {ds : List Deferred} {w : World} (h : VL P r ops Q ops.toList ρ ds w) :
    WC P n r (.region id ops false) Q ρ ds w := fun hok tmps hA =>
  wpIn_region (VL_sound (Q' := fun e a w' => ∃ ρ', Ag n a.tmps ρ' ∧ Q e ρ' a.defers w') hok (fun _ _ ρ' _ hA' hq => ⟨ρ', hA', hq⟩) (List.range ops.size) ops.toList (range_map ops) ⟨tmps, ds⟩ ρ w hA h)

theorem vc_sound {P : Program} {n : Nat} {r : Option Nat} : ∀ (c : Code) (Q : Post) (ρ : Env) (ds : List Deferred) (w : World), vc P n r c Q ρ ds w → WC P n r c Q ρ ds w := by
  intro c
  induction c with
  | skip => exact fun Q ρ ds w h _ tmps hA => wpIn_skip ⟨ρ, hA, h⟩
  | label l => exact fun Q ρ ds w h _ tmps hA => wpIn_label ⟨ρ, hA, h⟩
  | ret => exact fun Q ρ ds w h _ tmps hA => wpIn_ret ⟨ρ, hA, h⟩
  | exit id => exact fun Q ρ ds w h _ tmps hA => wpIn_exit ⟨ρ, hA, h⟩
  | goto l => exact fun Q ρ ds w h _ tmps hA => wpIn_goto ⟨ρ, hA, h⟩
  | seq a b iha ihb =>
    intro Q ρ ds w h hok tmps hA
    have hok' := Bool.and_eq_true_iff.1 hok
    refine wpIn_seq (wpIn_mono (iha _ ρ ds w h hok'.1 tmps hA) ?_)
    rintro e a' w' ⟨ρ', hA', hq⟩
    cases e with
    | normal => exact ihb _ _ _ _ hq hok'.2 _ hA'
    | _ => exact ⟨ρ', hA', hq⟩
  | block id c ih =>
    intro Q ρ ds w h hok tmps hA
    refine wpIn_block (wpIn_mono (ih _ ρ ds w h hok tmps hA) ?_)
    rintro e a' w' ⟨ρ', hA', hq⟩
    cases e with
    | exit id' =>
      simp only [QB] at hq
      simp only [Exit.inBlock]
      by_cases e : id' = id
      · rw [if_pos e] at hq ⊢; exact ⟨ρ', hA', hq⟩
      · rw [if_neg e] at hq ⊢; exact ⟨ρ', hA', hq⟩
    | _ => exact ⟨ρ', hA', hq⟩
  | cond c t e iht ihe =>
    intro Q ρ ds w h hok tmps hA
    have hok' := Bool.and_eq_true_iff.1 hok
    have hok'' := Bool.and_eq_true_iff.1 hok'.2
    simp only [vc] at h
    unfold onB at h
    split at h
    · rename_i b hb
      have hc : (Act.mk tmps ds).eval c = .bool b := (eval_eq hA hok'.1).trans hb
      cases b with
      | true => exact wpIn_cond hc (iht _ _ _ _ (by simpa using h) hok''.1 tmps hA)
      | false => exact wpIn_cond hc (ihe _ _ _ _ (by simpa using h) hok''.2 tmps hA)
    · exact h.elim
  | region id ops draw =>
    intro Q ρ ds w h
    simp only [vc] at h
    cases draw with
    | true => simpa using h
    | false => exact WC_region (by simpa using h)
  | loop c ih => exact fun Q ρ ds w h => h
  | scope c ih => exact fun Q ρ ds w h => h
  | rangeFunc f ps a b iha ihb => exact fun Q ρ ds w h => h
  | refuse s => exact fun Q ρ ds w h => h.elim

def vct (P : Program) (n : Nat) (r : Option Nat) (c : Code) (Q : Post) (_ : Tok (PProd.mk c Q)) (ρ : Env) (ds : List Deferred) (w : World) : Prop := vc P n r c Q ρ ds w
def WCt (P : Program) (n : Nat) (r : Option Nat) (c : Code) (Q : Post) (_ : Tok (PProd.mk c Q)) (ρ : Env) (ds : List Deferred) (w : World) : Prop := WC P n r c Q ρ ds w
def VLt (P : Program) (r : Option Nat) (ops : Array Oper) (Q : Post) (l : List Oper) (_ : Tok (PProd.mk ops (PProd.mk Q l))) (ρ : Env) (ds : List Deferred) (w : World) : Prop := VL P r ops Q l ρ ds w
section
variable (P : Program) (n : Nat) (r : Option Nat) (Q : Post) (ρ : Env) (ds : List Deferred) (w : World)
@[simp ↓] theorem vc_tok (c : Code) : vc P n r c Q ρ ds w = vct P n r c Q .mk ρ ds w := _root_.id rfl
@[simp ↓] theorem WC_tok (c : Code) : WC P n r c Q ρ ds w = WCt P n r c Q .mk ρ ds w := _root_.id rfl
@[simp ↓] theorem VL_tok (ops : Array Oper) (l : List Oper) : VL P r ops Q l ρ ds w = VLt P r ops Q l .mk ρ ds w := _root_.id rfl
@[simp] theorem vct_skip (t) : vct P n r .skip Q t ρ ds w = Q .normal ρ ds w := _root_.id rfl
@[simp] theorem vct_label (l : Nat) (t) : vct P n r (.label l) Q t ρ ds w = Q .normal ρ ds w := _root_.id rfl
@[simp] theorem vct_ret (t) : vct P n r .ret Q t ρ ds w = Q .ret ρ ds w := _root_.id rfl
@[simp] theorem vct_exit (id : Nat) (t) : vct P n r (.exit id) Q t ρ ds w = Q (.exit id) ρ ds w := _root_.id rfl
@[simp] theorem vct_goto (l : Nat) (t) : vct P n r (.goto l) Q t ρ ds w = Q (.goto l) ρ ds w := _root_.id rfl
@[simp] theorem vct_seq (a b : Code) (t) : vct P n r (.seq a b) Q t ρ ds w = vct P n r a (QS (vc P n r b Q) Q) .mk ρ ds w := _root_.id rfl
@[simp] theorem vct_block (id : Nat) (c : Code) (t) : vct P n r (.block id c) Q t ρ ds w = vct P n r c (QB id Q) .mk ρ ds w := _root_.id rfl
@[simp] theorem vct_cond (c : Operand) (x y : Code) (t) : vct P n r (.cond c x y) Q t ρ ds w = onBt (ev ρ c) (vc P n r x Q ρ ds w) (vc P n r y Q ρ ds w) .mk := _root_.id rfl
@[simp] theorem vct_region (id : Nat) (ops : List Oper) (t) : vct P n r (.region id ops.toArray false) Q t ρ ds w = VLt P r ops.toArray Q ops .mk ρ ds w := by unfold vct vc VLt; rfl
@[simp] theorem vct_draw (id : Nat) (ops : Array Oper) (t) : vct P n r (.region id ops true) Q t ρ ds w = WCt P n r (.region id ops true) Q .mk ρ ds w := by unfold vct vc WCt; rfl
@[simp] theorem vct_loop (c : Code) (t) : vct P n r (.loop c) Q t ρ ds w = WCt P n r (.loop c) Q .mk ρ ds w := _root_.id rfl
@[simp] theorem vct_scope (c : Code) (t) : vct P n r (.scope c) Q t ρ ds w = WCt P n r (.scope c) Q .mk ρ ds w := _root_.id rfl
@[simp] theorem vct_rangeFunc (f : Operand) (ps : Array Tmp) (a b : Code) (t) : vct P n r (.rangeFunc f ps a b) Q t ρ ds w = WCt P n r (.rangeFunc f ps a b) Q .mk ρ ds w := _root_.id rfl
@[simp] theorem VLt_nil (ops : Array Oper) (t) : VLt P r ops Q [] t ρ ds w = Q .normal ρ ds w := _root_.id rfl
@[simp] theorem VLt_cons (ops : Array Oper) (o : Oper) (rest : List Oper) (t) : VLt P r ops Q (o :: rest) t ρ ds w = GIt (gw ops ρ o.guard) (VO P r o (VL P r ops Q rest) Q ρ ds w) (VL P r ops Q rest (put ρ o.dst undef) ds w) .mk := _root_.id rfl
end
section
variable (P : Program) (r : Option Nat) (d : Option Tmp) (ty : TypeId) (pos : String) (af : Array Edge) (gd : Option (Nat × Bool)) (K : Cont) (Q : Post) (ρ : Env) (ds : List Deferred) (w : World)
@[simp ↓] theorem VO_move (x : Operand) : VO P r ⟨d, .move x, ty, pos, af, gd⟩ K Q ρ ds w = K (put ρ d (ev ρ x)) ds w := _root_.id rfl
@[simp ↓] theorem VO_assign (x : Operand) : VO P r ⟨d, .assign x, ty, pos, af, gd⟩ K Q ρ ds w = K (put ρ d (ev ρ x)) ds w := _root_.id rfl
@[simp ↓] theorem VO_pick (c a b : Operand) : VO P r ⟨d, .pick c a b, ty, pos, af, gd⟩ K Q ρ ds w = onR (((do pure (if ← asBool (ev ρ c) then ev ρ a else ev ρ b) : Sem Value)).run P w) fun v w' => K (put ρ d v) ds w' := _root_.id rfl
@[simp ↓] theorem VO_alloc (t : TypeId) : VO P r ⟨d, .alloc t, ty, pos, af, gd⟩ K Q ρ ds w = onR ((Instr.alloc t true (.tuple #[])).run P w) fun v w' => K (put ρ d v) ds w' := _root_.id rfl
@[simp ↓] theorem VO_box (t : TypeId) (x : Operand) : VO P r ⟨d, .box t x, ty, pos, af, gd⟩ K Q ρ ds w = onR ((Instr.box t (ev ρ x)).run P w) fun v w' => K (put ρ d v) ds w' := _root_.id rfl
@[simp ↓] theorem VO_build (t : TypeId) (ps : List (Nat × Operand)) : VO P r ⟨d, .build t ps.toArray, ty, pos, af, gd⟩ K Q ρ ds w = onR ((Instr.build t (ps.map fun p => (p.1, ev ρ p.2)).toArray).run P w) fun v w' => K (put ρ d v) ds w' := by simp [VO]
@[simp ↓] theorem VO_buildSlice (t : TypeId) (n : Nat) (ps : List (Nat × Operand)) : VO P r ⟨d, .buildSlice t n ps.toArray, ty, pos, af, gd⟩ K Q ρ ds w = onR ((Instr.buildSlice t n (ps.map fun p => (p.1, ev ρ p.2)).toArray).run P w) fun v w' => K (put ρ d v) ds w' := by simp [VO]
@[simp ↓] theorem VO_load (t : TypeId) (a : Operand) : VO P r ⟨d, .load t a, ty, pos, af, gd⟩ K Q ρ ds w = onR ((Instr.loadAt t (ev ρ a)).run P w) fun v w' => K (put ρ d v) ds w' := _root_.id rfl
@[simp ↓] theorem VO_store (t : TypeId) (a x : Operand) : VO P r ⟨d, .store t a x, ty, pos, af, gd⟩ K Q ρ ds w = onU ((Instr.storeAt t (ev ρ a) (ev ρ x)).run P w) fun w' => K (put ρ d undef) ds w' := _root_.id rfl
@[simp ↓] theorem VO_nilCheck (x : Operand) : VO P r ⟨d, .nilCheck x, ty, pos, af, gd⟩ K Q ρ ds w = onR (((match ev ρ x with | .pointer (some a) => pure (.pointer (some a)) | _ => stuck "nilCheck" : Sem Value)).run P w) fun v w' => K (put ρ d v) ds w' := _root_.id rfl
@[simp ↓] theorem VO_binOp (op : BinOp) (t t' : TypeId) (x y : Operand) : VO P r ⟨d, .binOp op t x y t', ty, pos, af, gd⟩ K Q ρ ds w = onR (((do eqGuard op t x y (ev ρ x) (ev ρ y); binOp op t (ev ρ x) (ev ρ y) : Sem Value)).run P w) fun v w' => K (put ρ d v) ds w' := _root_.id rfl
@[simp ↓] theorem VO_unOp (op : UnOp) (t : TypeId) (x : Operand) : VO P r ⟨d, .unOp op t x, ty, pos, af, gd⟩ K Q ρ ds w = onR ((Op.unary op (ev ρ x)).run P w) fun v w' => K (put ρ d v) ds w' := _root_.id rfl
@[simp ↓] theorem VO_convert (s t : TypeId) (x : Operand) : VO P r ⟨d, .convert s t x, ty, pos, af, gd⟩ K Q ρ ds w = onR ((convert s t (ev ρ x)).run P w) fun v w' => K (put ρ d v) ds w' := _root_.id rfl
@[simp ↓] theorem VO_makeInterface (t : TypeId) (x : Operand) : VO P r ⟨d, .makeInterface t x, ty, pos, af, gd⟩ K Q ρ ds w = onR ((Instr.makeInterface t (ev ρ x)).run P w) fun v w' => K (put ρ d v) ds w' := _root_.id rfl
@[simp ↓] theorem VO_makeFunc (fn : Fn) (first caps : List Operand) : VO P r ⟨d, .makeFunc fn first.toArray caps.toArray, ty, pos, af, gd⟩ K Q ρ ds w = K (put ρ d (.func fn (first.map (ev ρ)).toArray (caps.map (ev ρ)).toArray)) ds w := by simp [VO]
@[simp ↓] theorem VO_makeMap (t : TypeId) (x : Option Operand) : VO P r ⟨d, .makeMap t x, ty, pos, af, gd⟩ K Q ρ ds w = onR ((Instr.makeMap t (x.map (ev ρ))).run P w) fun v w' => K (put ρ d v) ds w' := _root_.id rfl
@[simp ↓] theorem VO_makeSlice (t : TypeId) (l c : Operand) : VO P r ⟨d, .makeSlice t l c, ty, pos, af, gd⟩ K Q ρ ds w = onR ((Instr.makeSlice t (ev ρ l) (ev ρ c)).run P w) fun v w' => K (put ρ d v) ds w' := _root_.id rfl
@[simp ↓] theorem VO_slice (t : TypeId) (x : Operand) (lo hi mx : Option Operand) : VO P r ⟨d, .slice t x lo hi mx, ty, pos, af, gd⟩ K Q ρ ds w = onR ((Instr.sliceAt t (ev ρ x) (lo.map (ev ρ)) (hi.map (ev ρ)) (mx.map (ev ρ))).run P w) fun v w' => K (put ρ d v) ds w' := _root_.id rfl
@[simp ↓] theorem VO_fieldAddr (s : TypeId) (x : Operand) (f : Nat) : VO P r ⟨d, .fieldAddr s x f, ty, pos, af, gd⟩ K Q ρ ds w = onR ((Instr.fieldAt s (ev ρ x) f).run P w) fun v w' => K (put ρ d v) ds w' := _root_.id rfl
@[simp ↓] theorem VO_field (s : TypeId) (x : Operand) (f : Nat) : VO P r ⟨d, .field s x f, ty, pos, af, gd⟩ K Q ρ ds w = onR ((Instr.field s (ev ρ x) f).run P w) fun v w' => K (put ρ d v) ds w' := _root_.id rfl
@[simp ↓] theorem VO_indexAddr (s : TypeId) (x i : Operand) : VO P r ⟨d, .indexAddr s x i, ty, pos, af, gd⟩ K Q ρ ds w = onR ((Instr.indexAt s (ev ρ x) (ev ρ i)).run P w) fun v w' => K (put ρ d v) ds w' := _root_.id rfl
@[simp ↓] theorem VO_index (s : TypeId) (x i : Operand) : VO P r ⟨d, .index s x i, ty, pos, af, gd⟩ K Q ρ ds w = onR ((Instr.index s (ev ρ x) (ev ρ i)).run P w) fun v w' => K (put ρ d v) ds w' := _root_.id rfl
@[simp ↓] theorem VO_lookup (s : TypeId) (x i : Operand) (ok : Bool) : VO P r ⟨d, .lookup s x i ok, ty, pos, af, gd⟩ K Q ρ ds w = onR ((Instr.lookup s (ev ρ x) (ev ρ i) ok).run P w) fun v w' => K (put ρ d v) ds w' := _root_.id rfl
@[simp ↓] theorem VO_mapUpdate (t : TypeId) (m k x : Operand) : VO P r ⟨d, .mapUpdate t m k x, ty, pos, af, gd⟩ K Q ρ ds w = onU ((Instr.mapUpdate t (ev ρ m) (ev ρ k) (ev ρ x)).run P w) fun w' => K (put ρ d undef) ds w' := _root_.id rfl
@[simp ↓] theorem VO_insert (t : TypeId) (m k x : Operand) : VO P r ⟨d, .insert t m k x, ty, pos, af, gd⟩ K Q ρ ds w = onU ((Instr.mapUpdate t (ev ρ m) (ev ρ k) (ev ρ x)).run P w) fun w' => K (put ρ d undef) ds w' := _root_.id rfl
@[simp ↓] theorem VO_mapEntry (t : TypeId) (m k : Operand) : VO P r ⟨d, .mapEntry t m k, ty, pos, af, gd⟩ K Q ρ ds w = onR ((Instr.mapEntry t (ev ρ m) (ev ρ k)).run P w) fun v w' => K (put ρ d v) ds w' := _root_.id rfl
@[simp ↓] theorem VO_entryStore (t : TypeId) (m s x : Operand) : VO P r ⟨d, .entryStore t m s x, ty, pos, af, gd⟩ K Q ρ ds w = onU ((Instr.entryStore t (ev ρ m) (ev ρ s) (ev ρ x)).run P w) fun w' => K (put ρ d undef) ds w' := _root_.id rfl
@[simp ↓] theorem VO_range (t : TypeId) (x : Operand) : VO P r ⟨d, .range t x, ty, pos, af, gd⟩ K Q ρ ds w = onR ((Instr.range t (ev ρ x)).run P w) fun v w' => K (put ρ d v) ds w' := _root_.id rfl
@[simp ↓] theorem VO_next (it : Operand) (s : Bool) : VO P r ⟨d, .next it s, ty, pos, af, gd⟩ K Q ρ ds w = onR ((Instr.next (ev ρ it) s ty).run P w) fun v w' => K (put ρ d v) ds w' := _root_.id rfl
@[simp ↓] theorem VO_entry (it : Operand) : VO P r ⟨d, .entry it, ty, pos, af, gd⟩ K Q ρ ds w = onR ((Instr.entry (ev ρ it)).run P w) fun v w' => K (put ρ d v) ds w' := _root_.id rfl
@[simp ↓] theorem VO_typeAssert (x : Operand) (s t : TypeId) (ok : Bool) : VO P r ⟨d, .typeAssert x s t ok, ty, pos, af, gd⟩ K Q ρ ds w = onR ((Instr.typeAssert (ev ρ x) s t ok).run P w) fun v w' => K (put ρ d v) ds w' := _root_.id rfl
@[simp ↓] theorem VO_extract (t : Operand) (i : Nat) : VO P r ⟨d, .extract t i, ty, pos, af, gd⟩ K Q ρ ds w = onR ((Instr.extract (ev ρ t) i).run P w) fun v w' => K (put ρ d v) ds w' := _root_.id rfl
@[simp ↓] theorem VO_call (f : Operand) (args : List Operand) (ats : Array TypeId) : VO P r ⟨d, .call ⟨.value f, args.toArray, ats⟩, ty, pos, af, gd⟩ K Q ρ ds w = CV P (ev ρ f) (args.map (ev ρ)) w (RC d K Q ρ ds) := by simp [VO]
@[simp ↓] theorem VO_builtin (b : Builtin) (args : List Operand) (ats : Array TypeId) : VO P r ⟨d, .call ⟨.builtin b, args.toArray, ats⟩, ty, pos, af, gd⟩ K Q ρ ds w = onR ((BV b ats ty (args.map (ev ρ)).toArray).run P w) fun v w' => K (put ρ d v) ds w' := by simp [VO]
@[simp ↓] theorem VO_defer (f : Operand) (args : List Operand) (ats : Array TypeId) : VO P r ⟨d, .defer ⟨.value f, args.toArray, ats⟩, ty, pos, af, gd⟩ K Q ρ ds w = (r = none ∧ DF (ev ρ f) (args.map (ev ρ)) fun x => K (put ρ d undef) (x :: ds) w) := by simp [VO]
@[simp ↓] theorem VO_panic (x : Operand) : VO P r ⟨d, .panic x, ty, pos, af, gd⟩ K Q ρ ds w = PN (ev ρ x) fun ch => Q (.panic ch) ρ ds w := _root_.id rfl
end


/-! ### Guards, for simp -/
def dstAt : List Oper → Nat → Option Tmp
  | [], _ => none
  | o :: _, 0 => o.dst
  | _ :: l, j + 1 => dstAt l j
def gdv (v : Value) (b : Bool) : Bool := match v with | .bool x => x == b | _ => false
def gd (ρ : Env) (d : Option Tmp) (b : Bool) : Bool := match d with | some d => gdv (ρ d) b | none => false
@[simp ↓] theorem dstAt_zero (d : Option Tmp) (op : Op) (ty : TypeId) (pos : String) (af : Array Edge) (g : Option (Nat × Bool)) (l : List Oper) : dstAt (⟨d, op, ty, pos, af, g⟩ :: l) 0 = d := _root_.id rfl
@[simp ↓] theorem dstAt_succ (o : Oper) (l : List Oper) (j : Nat) : dstAt (o :: l) (j + 1) = dstAt l j := _root_.id rfl
@[simp] theorem gdv_bool (x b : Bool) : gdv (.bool x) b = (x == b) := _root_.id rfl
@[simp] theorem gd_some (ρ : Env) (d : Tmp) (b : Bool) : gd ρ (some d) b = gdv (ρ d) b := _root_.id rfl
theorem dstAt_eq (l : List Oper) : ∀ j, (l[j]?).bind (·.dst) = dstAt l j := by
  induction l with
  | nil => intro j; simp [dstAt]
  | cons o l ih => intro j; cases j with
    | zero => rfl
    | succ j => simp [ih]
@[simp ↓] theorem gw_some (l : List Oper) (ρ : Env) (j : Nat) (b : Bool) : gw l.toArray ρ (some (j, b)) = gd ρ (dstAt l j) b := by
  have e : gw l.toArray ρ (some (j, b)) = (gv l.toArray ρ j == some b) := rfl
  rw [e]
  have e2 : gv l.toArray ρ j = (match dstAt l j with | some d => (match ρ d with | .bool b => some b | _ => none) | none => none) := by
    unfold gv; rw [List.getElem?_toArray, dstAt_eq]; cases dstAt l j <;> rfl
  rw [e2]
  cases dstAt l j with
  | none => rfl
  | some d =>
    dsimp only [gd, gdv]
    generalize ρ d = v
    cases v with
    | bool x => cases x <;> cases b <;> rfl
    | _ => rfl

/-! ### Loops -/
def QL (I : Nat → Cont) (m : Nat) (Q : Post) : Post
  | .normal, ρ, ds, w => ∃ m', m' < m ∧ I m' ρ ds w
  | e, ρ, ds, w => Q e ρ ds w
section
variable (I : Nat → Cont) (m : Nat) (Q : Post) (ρ : Env) (ds : List Deferred) (w : World)
@[simp ↓] theorem QL_normal : QL I m Q .normal ρ ds w = ∃ m', m' < m ∧ I m' ρ ds w := _root_.id rfl
@[simp ↓] theorem QL_ret : QL I m Q .ret ρ ds w = Q .ret ρ ds w := _root_.id rfl
@[simp ↓] theorem QL_exit (id : Nat) : QL I m Q (.exit id) ρ ds w = Q (.exit id) ρ ds w := _root_.id rfl
@[simp ↓] theorem QL_goto (l : Nat) : QL I m Q (.goto l) ρ ds w = Q (.goto l) ρ ds w := _root_.id rfl
@[simp ↓] theorem QL_panic (ch : List PanicEntry) : QL I m Q (.panic ch) ρ ds w = Q (.panic ch) ρ ds w := _root_.id rfl
end
theorem exists_least {p : Nat → Prop} (h : ∃ n, p n) : ∃ n, p n ∧ ∀ m, p m → n ≤ m := by
  obtain ⟨n, hn⟩ := h
  induction n using Nat.strongRecOn with
  | _ n ih =>
    by_cases hx : ∃ m, m < n ∧ p m
    · obtain ⟨m, hm, hp⟩ := hx; exact ih m hm hp
    · exact ⟨n, hn, fun m hm => Nat.le_of_not_lt fun hlt => hx ⟨m, hlt, hm⟩⟩
theorem wpIn_loop_ghost {F : Fence} {n : Nat} {P : Program} {Q : Exit → Act → World → Prop} {a : Act} {w : World} {c : Code} (I : Nat → Act → World → Prop) (m₀ : Nat) (h₀ : I m₀ a w)
    (round : ∀ m a w, I m a w → c.wpIn F n P (Exit.then (fun a' w' => ∃ m', m' < m ∧ I m' a' w') Q) a w) : (Code.loop c).wpIn F n P Q a w := by
  classical
  let J : Act → World → Prop := fun a w => ∃ m, I m a w
  let least : Act → World → Nat := fun a w => if h : ∃ m, I m a w then Classical.choose (exists_least h) else 0
  refine wpIn_loop J least ⟨m₀, h₀⟩ fun a w hJ => ?_
  have hf := Classical.choose_spec (exists_least hJ)
  have hl : least a w = Classical.choose (exists_least hJ) := dif_pos hJ
  refine wpIn_mono (round _ a w hf.1) ?_
  intro e a' w' hq
  cases e with
  | normal =>
    obtain ⟨m', hm', hI'⟩ := hq
    refine ⟨⟨m', hI'⟩, ?_⟩
    have hJ' : ∃ m, I m a' w' := ⟨m', hI'⟩
    have hl' : least a' w' = Classical.choose (exists_least hJ') := dif_pos hJ'
    rw [hl, hl']
    exact Nat.lt_of_le_of_lt ((Classical.choose_spec (exists_least hJ')).2 _ hI') hm'
  | _ => exact hq
theorem WC_loop {P : Program} {n : Nat} {r : Option Nat} {c : Code} {Q : Post} {ρ : Env} {ds : List Deferred} {w : World} (I : Nat → Cont) (m₀ : Nat) (h₀ : I m₀ ρ ds w)
    (round : ∀ m ρ' ds' w', I m ρ' ds' w' → vc P n r c (QL I m Q) ρ' ds' w') : WC P n r (.loop c) Q ρ ds w := by
  intro hok tmps hA
  refine wpIn_loop_ghost (fun m a w => ∃ ρ', Ag n a.tmps ρ' ∧ I m ρ' a.defers w) m₀ ⟨ρ, hA, h₀⟩ ?_
  rintro m a w' ⟨ρ', hA', hI⟩
  refine wpIn_mono (vc_sound c _ _ _ _ (round m ρ' a.defers w' hI) hok a.tmps hA') ?_
  rintro e a' w'' ⟨ρ'', hA'', hq⟩
  cases e with
  | normal => obtain ⟨m', hm', hI'⟩ := hq; exact ⟨m', hm', ρ'', hA'', hI'⟩
  | _ => exact ⟨ρ'', hA'', hq⟩

/-! ### Scopes: a jump ahead -/
def QG (l : Nat) (K : Cont) (Q : Post) : Post
  | .goto l', ρ, ds, w => l' = l ∧ K ρ ds w
  | e, ρ, ds, w => Q e ρ ds w
def QN (Q : Post) : Post
  | .goto _, _, _, _ => False
  | e, ρ, ds, w => Q e ρ ds w
section
variable (l : Nat) (K : Cont) (Q : Post) (ρ : Env) (ds : List Deferred) (w : World)
@[simp ↓] theorem QG_normal : QG l K Q .normal ρ ds w = Q .normal ρ ds w := _root_.id rfl
@[simp ↓] theorem QG_ret : QG l K Q .ret ρ ds w = Q .ret ρ ds w := _root_.id rfl
@[simp ↓] theorem QG_exit (id : Nat) : QG l K Q (.exit id) ρ ds w = Q (.exit id) ρ ds w := _root_.id rfl
@[simp ↓] theorem QG_goto (l' : Nat) : QG l K Q (.goto l') ρ ds w = (l' = l ∧ K ρ ds w) := _root_.id rfl
@[simp ↓] theorem QG_panic (ch : List PanicEntry) : QG l K Q (.panic ch) ρ ds w = Q (.panic ch) ρ ds w := _root_.id rfl
@[simp ↓] theorem QN_normal : QN Q .normal ρ ds w = Q .normal ρ ds w := _root_.id rfl
@[simp ↓] theorem QN_ret : QN Q .ret ρ ds w = Q .ret ρ ds w := _root_.id rfl
@[simp ↓] theorem QN_exit (id : Nat) : QN Q (.exit id) ρ ds w = Q (.exit id) ρ ds w := _root_.id rfl
@[simp ↓] theorem QN_goto (l' : Nat) : QN Q (.goto l') ρ ds w = False := _root_.id rfl
@[simp ↓] theorem QN_panic (ch : List PanicEntry) : QN Q (.panic ch) ρ ds w = Q (.panic ch) ρ ds w := _root_.id rfl
end
theorem stepR_scope {P : Program} {b : Frame} {a : Act} {k : List Item} {cs : List Frame} {w : World} {c : Code} :
    step P (lone (b.atR a (.code (.scope c) :: k)) cs w) = .next (lone (b.atR a (.code c :: .inScope c :: k)) cs w) :=
  step_lone_go (by simp [stepG, stepG.exec, Frame.atR])
theorem stepR_inScope {P : Program} {b : Frame} {a : Act} {k : List Item} {cs : List Frame} {w : World} {c : Code} :
    step P (lone (b.atR a (.inScope c :: k)) cs w) = .next (lone (b.atR a k) cs w) :=
  step_lone_go (by simp [stepG, stepG.exec, Frame.atR])
theorem findLabel_ok {n : Nat} {l : Nat} : ∀ {c rest : Code}, findLabel c l = some rest → okC n c = true → okC n rest = true := by
  intro c
  induction c with
  | seq a b iha ihb =>
    intro rest h hok
    have hok' := Bool.and_eq_true_iff.1 hok
    simp only [findLabel] at h
    split at h
    · rename_i r hr
      cases h
      exact Bool.and_eq_true_iff.2 ⟨iha hr hok'.1, hok'.2⟩
    · exact ihb h hok'.2
  | label l' =>
    intro rest h _
    simp only [findLabel] at h
    split at h
    · cases h; rfl
    · cases h
  | _ => intro rest h; simp [findLabel] at h
theorem wpIn_scope {F : Fence} {n : Nat} {P : Program} {Q : Exit → Act → World → Prop} {a : Act} {w : World} {c : Code} {l : Nat} {rest : Code} (hf : findLabel c l = some rest) (hl : ∀ e a w, Q e a w → ∀ l', e ≠ .goto l')
    (h : c.wpIn F n P (fun e a w => match e with | .goto l' => l' = l ∧ rest.wpIn F n P Q a w | e => Q e a w) a w) : (Code.scope c).wpIn F n P Q a w := by
  intro b k cs hro hb hr
  have h0 : (lone (b.atR a (.code (.scope c) :: k)) cs w).fenced P F := fenced_calm hb hr rfl
  have fin : ∀ (m : Machine) e a₁ w₁, Q e a₁ w₁ → ArrivesIn (Machine.fenced P F) P m b (.inScope c :: k) cs e a₁ w₁ → ∃ e a' w', Q e a' w' ∧ ArrivesIn (Machine.fenced P F) P m b k cs e a' w' := by
    intro m e a₁ w₁ hq harr
    cases e with
    | normal => exact ⟨.normal, a₁, w₁, hq, StepsIn.trans harr (.one (fenced_calm hb hr rfl) stepR_inScope)⟩
    | exit id =>
      have hx : exitTo id (.inScope c :: k) = exitTo id k := rfl
      exact ⟨.exit id, a₁, w₁, hq, fun k' hk => harr.1 k' (by rw [hx]; exact hk), fun hr' hk => harr.2 hr' (by rw [hx]; exact hk)⟩
    | goto l' => exact ((hl _ _ _ hq l') rfl).elim
    | ret => exact ⟨_, a₁, w₁, hq, harr⟩
    | panic ch => exact ⟨_, a₁, w₁, hq, harr⟩
    | outgrown => exact ⟨_, a₁, w₁, hq, harr⟩
  obtain ⟨e, a₁, w₁, hq, harr⟩ := h b (.inScope c :: k) cs hro hb hr
  have stp : StepsIn (Machine.fenced P F) P (lone (b.atR a (.code (.scope c) :: k)) cs w) (lone (b.atR a (.code c :: .inScope c :: k)) cs w) := .one h0 stepR_scope
  by_cases hg : ∃ l', e = .goto l'
  · obtain ⟨l', rfl⟩ := hg
    obtain ⟨rfl, hrest⟩ := hq
    have hgo : gotoIn l' (.inScope c :: k) = some (.code rest :: .inScope c :: k) := by simp [gotoIn, hf]
    obtain ⟨e₂, a₂, w₂, hq₂, harr₂⟩ := hrest b (.inScope c :: k) cs hro hb hr
    have := harr.1 _ hgo
    obtain ⟨e', a', w', hq', harr'⟩ := fin _ e₂ a₂ w₂ hq₂ (.of_steps (StepsIn.trans stp this) harr₂)
    exact ⟨e', a', w', hq', harr'⟩
  · have hq' : Q e a₁ w₁ := by cases e <;> first | exact hq | exact (hg ⟨_, rfl⟩).elim
    obtain ⟨e', a', w', hq', harr'⟩ := fin _ e a₁ w₁ hq' (.of_steps stp harr)
    exact ⟨e', a', w', hq', harr'⟩
/-- A scope with one label, to which one jumps from ahead. -/
theorem WC_scope {P : Program} {n : Nat} {r : Option Nat} {c : Code} {Q : Post} {ρ : Env} {ds : List Deferred} {w : World} (l : Nat) (rest : Code) (hf : findLabel c l = some rest)
    (h : vc P n r c (QG l (vc P n r rest (QN Q)) (QN Q)) ρ ds w) : WC P n r (.scope c) Q ρ ds w := by
  intro hok tmps hA
  refine wpIn_mono (wpIn_scope (Q := fun e a w' => ∃ ρ', Ag n a.tmps ρ' ∧ QN Q e ρ' a.defers w') hf ?_ (wpIn_mono (vc_sound c _ _ _ _ h hok tmps hA) ?_)) ?_
  · rintro e a w ⟨ρ', _, hq⟩ l' rfl
    exact hq
  · rintro e a' w' ⟨ρ', hA', hq⟩
    cases e with
    | goto l' => exact ⟨hq.1, vc_sound rest _ _ _ _ hq.2 (findLabel_ok hf hok) _ hA'⟩
    | _ => exact ⟨ρ', hA', hq⟩
  · rintro e a' w' ⟨ρ', hA', hq⟩
    refine ⟨ρ', hA', ?_⟩
    cases e <;> first | exact hq | exact hq.elim

/-! ### A function -/
def envOf (args : List Value) : Env := fun t => args.getD t undef
@[simp] theorem envOf_cons_zero (v : Value) (l : List Value) : envOf (v :: l) 0 = v := rfl
@[simp] theorem envOf_cons_succ (v : Value) (l : List Value) (t : Nat) : envOf (v :: l) (t + 1) = envOf l t := rfl
@[simp] theorem envOf_nil (t : Nat) : envOf [] t = undef := rfl
def resE (ρ : Env) : ResultVar → Sem Value
  | .tmp t => pure (ρ t)
  | .cell a t => do loadVar t (← asAddr (ρ a))
def packE (vs : Array Value) : Value := if h : vs.size = 1 then vs[0] else .tuple vs
def resultsE (rs : Array ResultVar) (ρ : Env) : Sem Value := do
  let vs ← rs.mapM (resE ρ)
  pure (packE vs)
def okR (n : Nat) : ResultVar → Bool
  | .tmp t => decide (t < n)
  | .cell a _ => decide (a < n)
theorem mapM_congr {α β : Type} (xs : Array α) {f g : α → Sem β} (h : ∀ x ∈ xs, f x = g x) : xs.mapM f = xs.mapM g := by
  obtain ⟨xs⟩ := xs
  simp only [List.mapM_toArray]
  congr 1
  induction xs with
  | nil => rfl
  | cons x xs ih =>
    simp only [List.mapM_cons]
    rw [h x (by simp), ih (fun y hy => h y (by simp at hy ⊢; exact .inr hy))]
theorem results_eq {fn : Func} {tmps : Array Value} {ρ : Env} {n : Nat} (h : Ag n tmps ρ) (hok : fn.results.toList.all (okR n) = true) : results fn tmps = resultsE fn.results ρ := by
  unfold results resultsE packE
  congr 1
  refine mapM_congr _ fun x hx => ?_
  have hx' := List.all_eq_true.1 hok x (by simpa using hx)
  cases x with
  | tmp t => simp only [resE]; rw [h.2 t (by simpa [okR] using hx')]
  | cell a t => simp only [resE]; rw [h.2 a (by simpa [okR] using hx')]
/-- How a function is left: the deferred calls, and what is handed back. -/
def LV (P : Program) (rs : Array ResultVar) (R : Ending → World → Prop) (ρ : Env) : List Deferred → FrameMode → World → Prop
  | [], .returning, w => onR ((resultsE rs ρ).run P w) fun v w' => w' = w ∧ R (.returned v) w
  | [], .panicking chain, w => R (.panicked chain) w
  | [], .run, _ => False
  | d :: ds, u, w => u ≠ .run ∧
      ((∃ r w', d.target = .collected r ∧ (Instr.takeDeferred r).run P w = .ok [] w' ∧ LV P rs R ρ ds u w') ∨
       (∃ fv cap f args, d.target = .fn fv cap ∧ (invoke d.target d.args).run P w = .ok (.enter f args) w ∧
        CallsDIn (FR none) 0 P f args u w fun
          | .returned _, u', w' => LV P rs R ρ ds (settle u') w'
          | .panicked chain, u', w' => LV P rs R ρ ds (raised u' chain) w'
          | .outgrown, _, _ => False))
def QF (P : Program) (rs : Array ResultVar) (R : Ending → World → Prop) : Post
  | .normal, ρ, ds, w | .ret, ρ, ds, w => LV P rs R ρ ds .returning w
  | .panic chain, ρ, ds, w => LV P rs R ρ ds (.panicking chain) w
  | _, _, _, _ => False
section
variable (P : Program) (rs : Array ResultVar) (R : Ending → World → Prop) (ρ : Env) (ds : List Deferred) (w : World)
@[simp] theorem QF_normal : QF P rs R .normal ρ ds w = LV P rs R ρ ds .returning w := _root_.id rfl
@[simp] theorem QF_ret : QF P rs R .ret ρ ds w = LV P rs R ρ ds .returning w := _root_.id rfl
@[simp] theorem QF_panic (ch : List PanicEntry) : QF P rs R (.panic ch) ρ ds w = LV P rs R ρ ds (.panicking ch) w := _root_.id rfl
@[simp] theorem LV_nil : LV P rs R ρ [] .returning w = onR ((resultsE rs ρ).run P w) fun v w' => w' = w ∧ R (.returned v) w := _root_.id rfl
@[simp] theorem LV_nil_panic (ch : List PanicEntry) : LV P rs R ρ [] (.panicking ch) w = R (.panicked ch) w := _root_.id rfl
end
theorem LV_sound {P : Program} {fn : Func} {R : Ending → World → Prop} {tmps : Array Value} {ρ : Env} {n : Nat} (hA : Ag n tmps ρ) (hok : fn.results.toList.all (okR n) = true) :
    ∀ (ds : List Deferred) (u : FrameMode) (w : World), LV P fn.results R ρ ds u w → LeavesInM (FR none) 0 P fn tmps R ds u w := by
  intro ds
  induction ds with
  | nil =>
    intro u w h
    cases u with
    | run => exact h.elim
    | returning =>
      simp only [LV] at h
      cases hr : (resultsE fn.results ρ).run P w with
      | ok v w' =>
        rw [hr] at h
        obtain ⟨rfl, hR⟩ := h
        exact ⟨v, by rw [results_eq hA hok]; exact hr, hR⟩
      | halt e w' => rw [hr] at h; exact h.elim
    | panicking ch => exact h
  | cons d ds ih =>
    intro u w h
    refine ⟨h.1, ?_⟩
    rcases h.2 with ⟨r, w', h1, h2, h3⟩ | ⟨fv, cap, f, args, h1, h2, h3⟩
    · exact .inl ⟨r, w', h1, h2, ih _ _ h3⟩
    · refine .inr ⟨fun h => by simp [FR] at h, fv, cap, f, args, h1, h2, fun _ _ => trivial, h3.mono fun e u' w' hh => ?_⟩
      cases e with
      | returned v => exact ih _ _ hh
      | panicked ch => exact ih _ _ hh
      | outgrown => exact hh.elim
theorem calls_enter {P : Program} {f : FuncId} {fn : Func} {c : Code} {args : List Value} {w : World} {R : Ending → World → Prop} (hf : P.funcs[f]? = some fn) (hb : fn.body = some c)
    (hok : (okC fn.ntmps c && (fn.results.toList.all (okR fn.ntmps) && decide (args.length ≤ fn.ntmps))) = true) (h : vc P fn.ntmps none c (QF P fn.results R) (envOf args) [] w) :
    Calls P f args.toArray w R := by
  have hok1 := Bool.and_eq_true_iff.1 hok
  have hok2 := Bool.and_eq_true_iff.1 hok1.2
  have hlen : args.length ≤ fn.ntmps := by simpa using hok2.2
  refine callsIn_wide.1 (callsIn_of_wp_marks (n := 0) (F := FR none) hf hb trivial ?_)
  have hA : Ag fn.ntmps (args.toArray ++ Array.replicate (fn.ntmps - args.toArray.size) undef) (envOf args) := by
    refine ⟨by simp; omega, fun t ht => ?_⟩
    simp only [envOf, Array.getD_eq_getD_getElem?, List.getD_eq_getElem?_getD, Array.getElem?_append, List.size_toArray, List.getElem?_toArray]
    by_cases h1 : t < args.length
    · rw [if_pos h1]
    · rw [if_neg h1]
      have : args[t]? = none := List.getElem?_eq_none (by omega)
      rw [this, Array.getElem?_replicate]
      split <;> rfl
  refine wpIn_mono (vc_sound c _ _ _ _ h hok1.1 _ hA) ?_
  rintro e a w' ⟨ρ', hA', hq⟩
  cases e with
  | normal => exact LV_sound hA' hok2.1 _ _ _ hq
  | ret => exact LV_sound hA' hok2.1 _ _ _ hq
  | panic ch => exact LV_sound hA' hok2.1 _ _ _ hq
  | _ => exact hq.elim
theorem callFunc_enter {P : Program} {f : FuncId} {fn : Func} (hf : P.funcs[f]? = some fn) (hb : fn.body.isSome = true) (hn : (fn.name == "runtime.NumGoroutine") = false) (args : Array Value) (w : World) :
    (callFunc f args).run P w = .ok (.enter f args) w := by
  have h1 : fn.body ≠ none := by cases h : fn.body <;> simp_all
  have h2 : fn.name ≠ "runtime.NumGoroutine" := by simpa using hn
  simp [callFunc, program, Sem.run, hf, h1, h2]
theorem FN_of_calls {P : Program} {f : FuncId} {fn : Func} {args : List Value} {w : World} {R : Ending → World → Prop} (hf : P.funcs[f]? = some fn) (hb : fn.body.isSome = true) (hn : (fn.name == "runtime.NumGoroutine") = false)
    (h : Calls P f args.toArray w R) : FN P f args w R := by
  unfold FN; rw [callFunc_enter hf hb hn]; exact h
theorem calls_of_FN {P : Program} {f : FuncId} {fn : Func} {args : List Value} {w : World} {R : Ending → World → Prop} (hf : P.funcs[f]? = some fn) (hb : fn.body.isSome = true) (hn : (fn.name == "runtime.NumGoroutine") = false)
    (h : FN P f args w R) : Calls P f args.toArray w R := by
  unfold FN at h; rw [callFunc_enter hf hb hn] at h; exact h
theorem FN_enter {P : Program} {f : FuncId} {fn : Func} {c : Code} {args : List Value} {w : World} {R : Ending → World → Prop} (hf : P.funcs[f]? = some fn) (hb : fn.body = some c) (hn : (fn.name == "runtime.NumGoroutine") = false)
    (hok : (okC fn.ntmps c && (fn.results.toList.all (okR fn.ntmps) && decide (args.length ≤ fn.ntmps))) = true) (h : vc P fn.ntmps none c (QF P fn.results R) (envOf args) [] w) :
    FN P f args w R := FN_of_calls hf (by rw [hb]; rfl) hn (calls_enter hf hb hok h)
end Pk
