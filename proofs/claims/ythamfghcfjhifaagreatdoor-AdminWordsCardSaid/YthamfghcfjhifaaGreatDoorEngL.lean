/-
  The engine, part L: a statement whose order is open and that stores: what the stores' places need may come behind the first store, what is loaded comes ahead of it.
-/
import Derived.Test.YthamfghcfjhifaaGreatDoorEngK
namespace Pk
open Go

def isIntV : Value → Bool | .int _ _ => true | _ => false
@[simp] theorem isIntV_int (k : IntKind) (n : Int) : isIntV (.int k n) = true := rfl
def iV (σ : Env) (o : Oper) : Bool := match o.op with
  | .binOp _ _ x y _ => isIntV (ev σ x) && isIntV (ev σ y)
  | _ => true
section
variable (σ : Env) (d : Option Tmp) (ty : TypeId) (pos : String) (af : Array Edge) (gd : Option (Nat × Bool))
@[simp ↓] theorem iV_move (x : Operand) : iV σ ⟨d, .move x, ty, pos, af, gd⟩ = true := _root_.id rfl
@[simp ↓] theorem iV_assign (x : Operand) : iV σ ⟨d, .assign x, ty, pos, af, gd⟩ = true := _root_.id rfl
@[simp ↓] theorem iV_load (t : TypeId) (x : Operand) : iV σ ⟨d, .load t x, ty, pos, af, gd⟩ = true := _root_.id rfl
@[simp ↓] theorem iV_indexAddr (t : TypeId) (x y : Operand) : iV σ ⟨d, .indexAddr t x y, ty, pos, af, gd⟩ = true := _root_.id rfl
@[simp ↓] theorem iV_nilCheck (x : Operand) : iV σ ⟨d, .nilCheck x, ty, pos, af, gd⟩ = true := _root_.id rfl
@[simp ↓] theorem iV_binOp (p : BinOp) (t t' : TypeId) (x y : Operand) : iV σ ⟨d, .binOp p t x y t', ty, pos, af, gd⟩ = (isIntV (ev σ x) && isIntV (ev σ y)) := _root_.id rfl
end
def free : Op → Bool
  | .move _ | .assign _ | .indexAddr _ _ _ => true
  | .binOp p _ _ _ _ => match p with | .add | .sub | .mul => true | _ => false
  | _ => false

/-- What asks nothing of the world and leaves it. -/
def Calm {α : Type} (s : Sem α) : Prop := ∀ P w v w', s.run P w = .ok v w' → ∀ W, s.run P W = .ok v W
def Never {α : Type} (s : Sem α) : Prop := ∀ P w v w', s.run P w = .ok v w' → False
theorem Never.calm {α : Type} {s : Sem α} (h : Never s) : Calm s := fun P w v w' e => (h P w v w' e).elim
theorem calm_pure {α : Type} (a : α) : Calm (pure a : Sem α) := fun P w v w' e W => by
  rw [Sem.run_pure] at e ⊢; cases e; rfl
theorem calm_bind {α β : Type} {s : Sem α} {f : α → Sem β} (hs : Calm s) (hf : ∀ a, Calm (f a)) : Calm (s >>= f) := fun P w v w' e W => by
  rw [Sem.run_bind] at e ⊢
  cases h : s.run P w with
  | ok a w1 => rw [h] at e; rw [hs P w a w1 h W]; exact hf a P w1 v w' e W
  | halt x w1 => rw [h] at e; cases e
theorem never_bind {α β : Type} {s : Sem α} {f : α → Sem β} (hf : ∀ a, Never (f a)) : Never (s >>= f) := fun P w v w' e => by
  rw [Sem.run_bind] at e
  cases h : s.run P w with
  | ok a w1 => rw [h] at e; exact hf a P w1 v w' e
  | halt x w1 => rw [h] at e; cases e
theorem never_stuck {α : Type} (m : String) : Never (stuck m : Sem α) := fun P w v w' e => by cases e
theorem never_unsupported {α : Type} (m) : Never (unsupported m : Sem α) := fun P w v w' e => by cases e
theorem never_rt {α : Type} (x y : Int) (s : Bool) (c : BoundsCode) : Never (runtimePanic (.bounds x y s c) : Sem α) := fun P w v w' e => by cases e
theorem never_bounds {α : Type} (k : IntKind) (x y : Int) (c : BoundsCode) : Never (boundsPanic k x y c : Sem α) := by
  unfold boundsPanic
  dsimp only
  split
  · exact never_bind fun s => never_rt _ _ _ _
  · exact never_bind fun s => never_rt _ _ _ _
theorem calm_und (t : TypeId) : Calm (underlying t) := fun P w v w' e W => by
  cases h : P.underlying t with
  | none => simp [underlying, program, Sem.run, h] at e
  | some d => rw [run_und h] at e ⊢; cases e; rfl
theorem calm_info (t : TypeId) : Calm (typeInfo t) := fun P w v w' e W => by
  cases h : P.info? t with
  | none => simp [typeInfo, program, Sem.run, h] at e
  | some d => simp [typeInfo, program, Sem.run, h] at e ⊢; exact e.1
theorem calm_size (t : TypeId) : Calm (Go.sizeOf t) := calm_bind (calm_info t) fun _ => calm_pure _
theorem calm_asInt (v : Value) : Calm (asIntOf v) := by
  unfold asIntOf
  split
  · exact calm_pure _
  · exact (never_unsupported _).calm
  · exact (never_stuck _).calm
theorem calm_addr (v : Value) : Calm (Instr.sureAddr v) := by
  unfold Instr.sureAddr
  split
  · exact calm_pure _
  · exact (never_stuck _).calm
theorem calm_index (t : TypeId) (x i : Value) : Calm (Instr.indexAt t x i) := by
  unfold Instr.indexAt
  refine calm_bind (calm_asInt i) fun kn => ?_
  obtain ⟨k, n⟩ := kn
  refine calm_bind (calm_und t) fun u => ?_
  dsimp only
  have hj : ∀ (b : Option Addr) (l : Nat) (e : TypeId), Calm (do
      let __do_lift ← underlying t
      have tiny : Bool := decide (l ≤ 1) && match __do_lift with | TypeDesc.array len elem => true | x => false
      match b with
        | some a =>
          if 0 ≤ n ∧ n < ↑l then do
            let __do_lift ← Go.sizeOf e
            pure (Value.pointer (some (a.add (n.toNat * __do_lift))))
          else
            if tiny = true then unsupported (Unsupported.noEntry "op/indexAddr.an index out of range at an array of length 0 or 1 (ledger 616)")
            else boundsPanic k n (↑l) BoundsCode.index
        | none => boundsPanic k n 0 BoundsCode.index : Sem Value) := by
    intro b l e
    refine calm_bind (calm_und t) fun u' => ?_
    dsimp only
    cases b with
    | none => exact (never_bounds _ _ _ _).calm
    | some a =>
      dsimp only
      by_cases h : 0 ≤ n ∧ n < ↑l
      · rw [if_pos h]; exact calm_bind (calm_size _) fun _ => calm_pure _
      · rw [if_neg h]
        split <;> split <;> first | exact (never_unsupported _).calm | exact (never_bounds _ _ _ _).calm
  split
  · exact calm_bind (calm_addr _) fun a => calm_bind (calm_pure _) fun q => hj q.1 q.2.1 q.2.2
  · exact calm_bind (calm_pure _) fun q => hj q.1 q.2.1 q.2.2
  · exact calm_bind (never_stuck _).calm fun q => hj q.1 q.2.1 q.2.2
theorem calm_arith {p : BinOp} (hp : free (.binOp p 0 (.const undef) (.const undef) 0) = true) (t : TypeId) (k k' : IntKind) (a b : Int) : Calm (binOp p t (.int k a) (.int k' b)) := by
  cases p <;> first | (cases hp; done) | skip
  all_goals
    unfold binOp
    simp only
    split
    · exact (never_stuck _).calm
    · exact calm_pure _
theorem calm_guard {p : BinOp} (hp : free (.binOp p 0 (.const undef) (.const undef) 0) = true) (t : TypeId) (x y : Operand) (a b : Value) : Calm (eqGuard p t x y a b) := by
  cases p <;> first | (cases hp; done) | exact calm_pure _
theorem calm_onR {P : Program} {s : Sem Value} (hs : Calm s) {w : World} {k k' : Value → World → Prop} (h : onR (s.run P w) k) (W : World) (hk : ∀ v w', k v w' → k' v W) : onR (s.run P W) k' := by
  cases e : s.run P w with
  | ok v w' =>
    rw [e] at h
    rw [hs P w v w' e W]
    exact hk _ _ h
  | halt x w' => rw [e] at h; exact h.elim
/-- What is free runs alike in every world. -/
theorem VO_calm {P : Program} {r : Option Nat} {o : Oper} {k : Value → List Deferred → Prop} {ρ : Env} {ds : List Deferred} {w : World} (hf : free o.op = true) (hi : iV ρ o = true) (hd : o.dst.isSome = true)
    (h : VO P r o (fun ρ'' ds'' _ => k (dv ρ'' o.dst) ds'') (fun _ _ _ _ => False) ρ ds w) (W : World) : VO P r o (fun ρ'' ds'' w'' => w'' = W ∧ k (dv ρ'' o.dst) ds'') (fun _ _ _ _ => False) ρ ds W := by
  obtain ⟨dst, op, ty, pos, aft, gd⟩ := o
  cases op with
  | move x => exact ⟨rfl, h⟩
  | assign x => exact ⟨rfl, h⟩
  | indexAddr t x i => exact calm_onR (calm_index t _ _) (k := fun v w' => k (dv (put ρ dst v) dst) ds) h W fun v w' h' => ⟨rfl, h'⟩
  | binOp p t x y t' =>
    have hi' := Bool.and_eq_true_iff.1 hi
    have hfp : free (.binOp p 0 (.const undef) (.const undef) 0) = true := hf
    have hc : Calm (do eqGuard p t x y (ev ρ x) (ev ρ y); binOp p t (ev ρ x) (ev ρ y)) := by
      refine calm_bind (calm_guard hfp _ _ _ _ _) fun _ => ?_
      cases hx : ev ρ x with
      | int k1 a =>
        cases hy : ev ρ y with
        | int k2 b => exact calm_arith hfp _ _ _ _ _
        | _ => rw [hy] at hi'; cases hi'.2
      | _ => rw [hx] at hi'; cases hi'.1
    exact calm_onR hc (k := fun v w' => k (dv (put ρ dst v) dst) ds) h W fun v w' h' => ⟨rfl, h'⟩
  | _ => cases hf
/-- The head, in the text's order: it changes nothing, and what may come behind the store is free. -/
def PS (P : Program) (r : Option Nat) (ds : List Deferred) (ops : Array Oper) (w1 : World) (T : Env → Prop) : List Oper → Env → Prop
  | [], σ => T σ
  | o :: os, σ => GI (gw ops σ o.guard) (iV σ o = true ∧ VO P r o (fun ρ'' ds'' w'' => (ds'' = ds ∧ w'' = w1) ∧ PS P r ds ops w1 T os ρ'') (fun _ _ _ _ => False) σ ds w1) (PS P r ds ops w1 T os (put σ o.dst undef))
def PSt (P : Program) (r : Option Nat) (ds : List Deferred) (ops : Array Oper) (w1 : World) (T : Env → Prop) (l : List Oper) (_ : Tok (PProd.mk ops (PProd.mk T l))) (σ : Env) : Prop := PS P r ds ops w1 T l σ
@[simp ↓] theorem PS_tok (P : Program) (r : Option Nat) (ds : List Deferred) (ops : Array Oper) (w1 : World) (T : Env → Prop) (l : List Oper) (σ : Env) : PS P r ds ops w1 T l σ = PSt P r ds ops w1 T l .mk σ := _root_.id rfl
@[simp] theorem PSt_nil (P : Program) (r : Option Nat) (ds : List Deferred) (ops : Array Oper) (w1 : World) (T : Env → Prop) (t) (σ : Env) : PSt P r ds ops w1 T [] t σ = T σ := _root_.id rfl
@[simp] theorem PSt_cons (P : Program) (r : Option Nat) (ds : List Deferred) (ops : Array Oper) (w1 : World) (T : Env → Prop) (o : Oper) (os : List Oper) (t) (σ : Env) :
    PSt P r ds ops w1 T (o :: os) t σ = GIt (gw ops σ o.guard) (iV σ o = true ∧ VO P r o (fun ρ'' ds'' w'' => (ds'' = ds ∧ w'' = w1) ∧ PS P r ds ops w1 T os ρ'') (fun _ _ _ _ => False) σ ds w1) (PS P r ds ops w1 T os (put σ o.dst undef)) .mk := _root_.id rfl
@[simp] theorem PSt_take (P : Program) (r : Option Nat) (ds : List Deferred) (ops : Array Oper) (w1 : World) (T : Env → Prop) (k : Nat) (o : Oper) (l : List Oper) (t) (σ : Env) :
    PSt P r ds ops w1 T ((o :: l).take (k + 1)) t σ = PSt P r ds ops w1 T (o :: l.take k) .mk σ := _root_.id rfl
@[simp] theorem PSt_take0 (P : Program) (r : Option Nat) (ds : List Deferred) (ops : Array Oper) (w1 : World) (T : Env → Prop) (l : List Oper) (t) (σ : Env) :
    PSt P r ds ops w1 T (l.take 0) t σ = T σ := _root_.id rfl
def SCs (P : Program) (r : Option Nat) (ds : List Deferred) (ops : Array Oper) (w1 : World) (T : Env → Prop) : List Oper → List Value → Env → Prop
  | o :: os, c :: cs, σ => GI (gw ops σ o.guard) (iV σ o = true ∧ VO P r o (fun ρ'' ds'' w'' => ds'' = ds ∧ w'' = w1 ∧ dv ρ'' o.dst = c) (fun _ _ _ _ => False) σ ds w1) (c = undef) ∧ SCs P r ds ops w1 T os cs (put σ o.dst c)
  | [], [], σ => T σ
  | _, _, _ => False
section
variable {P : Program} {r : Option Nat} {ds : List Deferred} {ops : List Oper} {w1 : World} {T : Env → Prop} {m : Nat} {bs : List (List Nat)}
theorem SCs_length : ∀ {l : List Oper} {cs : List Value} {σ : Env}, SCs P r ds ops.toArray w1 T l cs σ → cs.length = l.length
  | [], [], _, _ => rfl
  | [], _ :: _, _, h => h.elim
  | _ :: _, [], _, h => h.elim
  | _ :: _, _ :: _, _, h => congrArg (· + 1) (SCs_length h.2)
/-- The head's values, and the environment at its end. -/
theorem PS_SCs : ∀ (l : List Oper) (σ : Env), (∀ o ∈ l, plain o.op = true ∧ o.dst.isSome = true) → PS P r ds ops.toArray w1 T l σ → ∃ cs σ', T σ' ∧ SCs P r ds ops.toArray w1 (fun e => e = σ') l cs σ
  | [], σ, _, h => ⟨[], σ, h, rfl⟩
  | o :: l, σ, hp, h => by
    obtain ⟨d, hd⟩ := Option.isSome_iff_exists.1 (hp o (by simp)).2
    unfold PS at h
    cases hg : gw ops.toArray σ o.guard with
    | true =>
      rw [hg, GI_true] at h
      obtain ⟨hi, h⟩ := h
      obtain ⟨v, w', ⟨⟨h1, h2⟩, h3⟩, h4⟩ := VO_det (hp o (by simp)).1 h
      obtain ⟨cs, σ', hT, hcs⟩ := PS_SCs l _ (fun o ho => hp o (by simp [ho])) h3
      refine ⟨v :: cs, σ', hT, ?_, hcs⟩
      rw [hg, GI_true]
      refine ⟨hi, h4 _ _ ⟨rfl, h2, ?_⟩⟩
      rw [hd]; simp
    | false =>
      rw [hg, GI_false] at h
      obtain ⟨cs, σ', hT, hcs⟩ := PS_SCs l _ (fun o ho => hp o (by simp [ho])) h
      refine ⟨undef :: cs, σ', hT, ?_, hcs⟩
      rw [hg, GI_false]
theorem iV_env {o : Oper} {ρ ρ' : Env} (h : ∀ t ∈ tmpsOf o, ρ t = ρ' t) : iV ρ o = iV ρ' o := by
  obtain ⟨dst, op, ty, pos, aft, gd⟩ := o
  cases op with
  | binOp p t x y t' =>
    have hx : ∀ z ∈ (Op.binOp p t x y t').operands, ev ρ z = ev ρ' z := by
      intro z hz
      cases z with
      | tmp t => exact h t (List.mem_filterMap.2 ⟨.tmp t, Array.mem_toList_iff.2 hz, rfl⟩)
      | _ => rfl
    simp only [iV]
    rw [hx x (by simp [Op.operands]), hx y (by simp [Op.operands])]
  | _ => rfl
/-- The order's test: the head is plain, its own store is the last of the first m + 1, and what need not lie ahead of the store is free. -/
def storeOk (ops : List Oper) (m : Nat) (bs : List (List Nat)) : Bool :=
  (ops.take m).all (fun o => plain o.op && o.dst.isSome) && (List.range m).all (fun i => (bsAt bs m).contains i || ((ops[i]?).map fun o => free o.op).getD false) &&
  (match ops[m]? with | some o => plain o.op && (o.dst.isNone && o.guard.isNone) | none => false)
theorem SCs_VA (hb : befsOk ops (m + 1) bs = true) (hfree : ∀ i, i < m → i ∈ bsAt bs m ∨ ∃ o, ops[i]? = some o ∧ free o.op = true) {st : Oper} (hst : ops[m]? = some st) (hsd : st.dst = none) (hsg : st.guard = none) (hsp : plain st.op = true)
    {W1 : World} {σ' : Env} {U : Env → World → Prop} (hU : U σ' W1) (hrun : VO P r st (fun _ ds'' w'' => ds'' = ds ∧ w'' = W1) (fun _ _ _ _ => False) σ' ds w1) : ∀ (l : List Oper) (cs : List Value) (i : Nat) (bs' : List (List Nat)) (acc : List (Nat × (World → Prop))) (ρ σ : Env),
    (∀ o ∈ l, plain o.op = true ∧ o.dst.isSome = true) → (∀ k, k < l.length → l[k]? = ops[i + k]?) → i + l.length = m → bs'.length = l.length + 1 → (∀ k, k < l.length + 1 → bs'[k]? = bs[i + k]?) →
    SCs P r ds ops.toArray w1 (fun e => e = σ') l cs σ →
    (∀ j, j < i → ∀ d, dstAt ops j = some d → ∃ p ∈ acc, p.1 = j ∧ ∀ w', p.2 w' → ρ d = σ d) →
    (∀ t, (∀ j, j < i → dstAt ops j ≠ some t) → ρ t = σ t) →
    VA P r ds (fun _ _ => True) (fun S W => W = if S m then W1 else w1) bs w1 ops.toArray U (l ++ [st]) (cs.map (fun c v _ => v = c) ++ [fun _ _ => True]) bs' i acc ρ
  | [], [], i, [b], acc, ρ, σ, _, _, hm, _, hbs, h, ha, hr => by
    simp at hm
    subst hm
    have hσ : σ = σ' := h
    subst hσ
    have hbi : bsAt bs i = b := by
      have := hbs 0 (by simp)
      simp at this
      unfold bsAt; rw [List.getD_eq_getElem?_getD, ← this]; rfl
    obtain ⟨o', ho', -, hb3, hb4, hb5, hb6⟩ := befsOk_head hb (Nat.lt_succ_self i)
    rw [hst] at ho'; cases ho'
    refine ⟨?_, ?_⟩
    · intro S w' _ hG hn hacc
      have hSm : S i = false := hn.1
      simp only [hSm, Bool.false_eq_true, if_false] at hG
      subst hG
      rw [hsg, gw_none, GI_true]
      have hslot : ∀ t ∈ tmpsOf st, σ t = ρ t := by
        intro t ht
        by_cases hx : ∃ j, j < i ∧ dstAt ops j = some t
        · obtain ⟨j, hj, hdj⟩ := hx
          obtain ⟨p, hp, h1, h2⟩ := ha j hj t hdj
          rcases hb4 t ht j (by omega) hdj with h3 | h3
          · exact (h2 _ (hacc p hp (by rw [h1, ← hbi]; exact h3))).symm
          · obtain ⟨oj, _, _, hbj, _⟩ := befsOk_head hb (show j < i + 1 by omega)
            have := (hbj i h3).1
            omega
        · exact (hr t fun j hj hdj => hx ⟨j, hj, hdj⟩).symm
      have := VO_env (k := fun _ ds'' w'' => ds'' = ds ∧ w'' = W1) (ρ' := ρ) hslot hrun
      obtain ⟨v, w2, h1, h2⟩ := VO_det hsp this
      exact h2 _ _ ⟨h1.1.1, trivial, trivial, by simp [h1.1.2]⟩
    · intro v S w' _ hG hS hacc
      have hSm : S i = true := hS i (by omega)
      simp only [hSm, if_true] at hG
      subst hG
      have : put ρ st.dst v = σ := by
        rw [hsd, put_none]
        funext t
        by_cases ht : ∃ j, j < i ∧ dstAt ops j = some t
        · obtain ⟨j, hj, hd⟩ := ht
          obtain ⟨p, hp, _, h2⟩ := ha j hj t hd
          exact h2 _ (hacc p (List.mem_append_left _ hp))
        · exact hr t fun j hj hd => ht ⟨j, hj, hd⟩
      rw [this]; exact hU
  | [], _ :: _, _, _, _, _, _, _, _, _, _, _, h, _, _ => h.elim
  | [], [], _, [], _, _, _, _, _, _, h, _, _, _, _ => by simp at h
  | [], [], _, _ :: _ :: _, _, _, _, _, _, _, h, _, _, _, _ => by simp at h
  | _ :: _, [], _, _, _, _, _, _, _, _, _, _, h, _, _ => h.elim
  | _ :: _, _ :: _, _, [], _, _, _, _, _, _, h, _, _, _, _ => by simp at h
  | o :: l, c :: cs, i, b :: bs', acc, ρ, σ, hp, hl, hm, hbl, hbs, h, ha, hr => by
    have hi : i < m := by simp at hm; omega
    have ho : ops[i]? = some o := by have := hl 0 (by simp); simpa using this.symm
    have hbi : bsAt bs i = b := by
      have := hbs 0 (by simp)
      simp at this
      unfold bsAt; rw [List.getD_eq_getElem?_getD, ← this]; rfl
    obtain ⟨o', ho', -, hb3, hb4, hb5, hb6⟩ := befsOk_head hb (show i < m + 1 by omega)
    rw [ho] at ho'; cases ho'
    obtain ⟨d, hd⟩ := Option.isSome_iff_exists.1 (hp o (by simp)).2
    have hdi : dstAt ops i = some d := by rw [dstAt_get, ho]; exact hd
    refine ⟨?_, ?_⟩
    · intro S w' _ hG hn hacc
      have hslot : ∀ t, (∀ j, j < m + 1 → dstAt ops j = some t → j ∈ bsAt bs i ∨ i ∈ bsAt bs j) → σ t = ρ t := by
        intro t ht
        by_cases hx : ∃ j, j < i ∧ dstAt ops j = some t
        · obtain ⟨j, hj, hdj⟩ := hx
          obtain ⟨p, hp, h1, h2⟩ := ha j hj t hdj
          rcases ht j (by omega) hdj with h3 | h3
          · exact (h2 _ (hacc p hp (by rw [h1, ← hbi]; exact h3))).symm
          · obtain ⟨oj, _, _, hbj, _⟩ := befsOk_head hb (show j < m + 1 by omega)
            have := (hbj i h3).1
            omega
        · exact (hr t fun j hj hdj => hx ⟨j, hj, hdj⟩).symm
      have hgw : gw ops.toArray σ o.guard = gw ops.toArray ρ o.guard := by
        refine gw_env fun j b' hg dj hdj => hslot dj fun k hkm hk2 => ?_
        have hj1 := hb5 j b' hg
        have hj2 := (hb3 j hj1).1
        have := head_uniq hb hkm (by omega) hk2 hdj
        subst this
        exact .inl hj1
      have hop : ∀ t ∈ tmpsOf o, σ t = ρ t := fun t ht => hslot t fun j hj hdj => hb4 t ht j hj hdj
      have hG' : ∀ w'', w'' = w' → w'' = if upd S i m then W1 else w1 := by
        rintro _ rfl
        have : decide (m = i) = false := by simp; omega
        simp only [upd_at, this, Bool.false_or]
        exact hG
      have hs := h.1
      rw [← hgw]
      cases hg : gw ops.toArray σ o.guard with
      | true =>
        rw [hg, GI_true] at hs
        rw [GI_true]
        obtain ⟨hiv, hs⟩ := hs
        rw [iV_env hop] at hiv
        cases hSm : S m with
        | false =>
          simp only [hSm, Bool.false_eq_true, if_false] at hG
          subst hG
          have := VO_env (k := fun v ds'' w'' => ds'' = ds ∧ w'' = w' ∧ v = c) (ρ' := ρ) hop hs
          obtain ⟨v, w2, h1, h2⟩ := VO_det (hp o (by simp)).1 this
          exact h2 _ _ ⟨h1.1.1, trivial, h1.1.2.2, hG' _ h1.1.2.1⟩
        | true =>
          have hfr : free o.op = true := by
            rcases hfree i hi with h1 | ⟨o2, h1, h2⟩
            · have := hn.2.2 m h1
              rw [hSm] at this; cases this
            · rw [ho] at h1; cases h1; exact h2
          have := VO_env (k := fun v ds'' w'' => ds'' = ds ∧ w'' = w1 ∧ v = c) (ρ' := ρ) hop hs
          have h3 : VO P r o (fun ρ'' ds'' _ => ds'' = ds ∧ dv ρ'' o.dst = c) (fun _ _ _ _ => False) ρ ds w1 := by
            obtain ⟨v, w2, h1, h2⟩ := VO_det (hp o (by simp)).1 this
            exact h2 _ _ ⟨h1.1.1, h1.1.2.2⟩
          have h4 := VO_calm (k := fun v ds'' => ds'' = ds ∧ v = c) hfr hiv (hp o (by simp)).2 h3 w'
          obtain ⟨v, w2, h1, h2⟩ := VO_det (hp o (by simp)).1 h4
          exact h2 _ _ ⟨h1.2.1, trivial, h1.2.2, hG' _ h1.1⟩
      | false =>
        rw [hg, GI_false] at hs
        rw [GI_false]
        exact ⟨hs.symm, hG' _ rfl⟩
    · intro v
      refine SCs_VA hb hfree hst hsd hsg hsp hU hrun l cs (i + 1) bs' _ (put ρ o.dst v) (put σ o.dst c) (fun o ho => hp o (by simp [ho])) ?_ (by simp at hm; omega) (by simpa using hbl) ?_ h.2 ?_ ?_
      · intro k hk
        have := hl (k + 1) (by simpa using hk)
        rw [List.getElem?_cons_succ] at this
        rw [this]; congr 1; omega
      · intro k hk
        have := hbs (k + 1) (by simpa using hk)
        rw [List.getElem?_cons_succ] at this
        rw [this]; congr 1; omega
      · intro j hj d' hd'
        rw [hd]
        by_cases hji : j = i
        · subst hji
          rw [hdi] at hd'; cases hd'
          exact ⟨_, List.mem_append_right _ (List.mem_singleton.2 rfl), rfl, fun w' h' => by simpa using h'⟩
        · have hne : d' ≠ d := by
            rintro rfl
            exact hji (head_uniq hb (by omega) (by omega) hd' hdi)
          obtain ⟨p, hp, h1, h2⟩ := ha j (by omega) d' hd'
          exact ⟨p, List.mem_append_left _ hp, h1, fun w' h' => by simpa [hne] using h2 w' h'⟩
      · intro t ht
        have hne : t ≠ d := by
          rintro rfl
          exact ht i (by omega) hdi
        rw [hd]
        simpa [hne] using hr t fun j hj => ht j (by omega)
/-- A STATEMENT WHOSE ORDER IS OPEN, WITH A STORE: m: the store's place; what stands behind it comes behind all. -/
theorem WC_drawS {n : Nat} {id : Nat} {Q : Post} {ρ : Env} {w : World} (m : Nat) (hm : P.follows .mixedOrders = true) (hb : (befsOk ops (m + 1) (befs ops (m + 1)) && storeOk ops m (befs ops (m + 1))) = true)
    (h : PS P r ds ops.toArray w.drew (fun ρ' => VL P r ops.toArray Q (ops.drop m) ρ' ds w.drew) (ops.take m) ρ) : WC P n r (.region id ops.toArray true) Q ρ ds w := by
  rw [Bool.and_eq_true] at hb
  obtain ⟨hb, hs⟩ := hb
  obtain ⟨hbl, hml⟩ := befsOk_bs hb
  unfold storeOk at hs
  rw [Bool.and_eq_true, Bool.and_eq_true] at hs
  obtain ⟨⟨hs1, hs2⟩, hs3⟩ := hs
  have hp : ∀ o ∈ ops.take m, plain o.op = true ∧ o.dst.isSome = true := fun o ho => Bool.and_eq_true_iff.1 (List.all_eq_true.1 hs1 o ho)
  have hst : ∃ st, ops[m]? = some st ∧ plain st.op = true ∧ st.dst = none ∧ st.guard = none := by
    cases ho : ops[m]? with
    | none => rw [ho] at hs3; cases hs3
    | some o =>
      rw [ho] at hs3
      simp only [Bool.and_eq_true, Option.isNone_iff_eq_none] at hs3
      exact ⟨o, rfl, hs3.1, hs3.2.1, hs3.2.2⟩
  obtain ⟨st, ho, hsp, hsd, hsg⟩ := hst
  have hfree : ∀ i, i < m → i ∈ bsAt (befs ops (m + 1)) m ∨ ∃ o, ops[i]? = some o ∧ free o.op = true := by
    intro i hi
    have := List.all_eq_true.1 hs2 i (by simpa using hi)
    rw [Bool.or_eq_true] at this
    rcases this with h1 | h1
    · exact .inl (by simpa using h1)
    · right
      cases ho : ops[i]? with
      | none => rw [ho] at h1; cases h1
      | some o => rw [ho] at h1; exact ⟨o, rfl, h1⟩
  have hmlt : m < ops.length := by omega
  have hdrop : ops.drop m = st :: ops.drop (m + 1) := by
    rw [List.drop_eq_getElem_cons hmlt]
    congr 1
    rw [List.getElem?_eq_getElem hmlt] at ho
    exact Option.some.inj ho
  obtain ⟨cs, σ', hT, hcs⟩ := PS_SCs (ops.take m) ρ hp h
  rw [hdrop] at hT
  unfold VL at hT
  rw [hsg, gw_none, GI_true] at hT
  obtain ⟨v, W1, hU, hrun⟩ := VO_det hsp hT
  rw [hsd, put_none] at hU
  have hlen := SCs_length hcs
  have htk : ops.take (m + 1) = ops.take m ++ [st] := by rw [List.take_add_one, ho]; rfl
  refine WC_draw (m + 1) (befs ops (m + 1)) (cs.map (fun c v _ => v = c) ++ [fun _ _ => True]) (fun _ _ => True) hm hb (by simp [hlen]; omega) (G := fun S W => W = if S m then W1 else w.drew) (w0 := w.drew) trivial (fun _ => trivial) (fun a b c _ _ => trivial) ?_ (by simp) ?_
  · intro A hA v a b h1 _
    rcases List.mem_append.1 hA with hA | hA
    · obtain ⟨c, _, rfl⟩ := List.mem_map.1 hA
      exact h1
    · rw [List.mem_singleton] at hA; subst hA; trivial
  · rw [htk]
    exact SCs_VA (U := fun ρ' w' => VL P r ops.toArray Q (ops.drop (m + 1)) ρ' ds w') hb hfree ho hsd hsg hsp hU (hrun _ _ ⟨rfl, rfl⟩) (ops.take m) cs 0 (befs ops (m + 1)) [] ρ ρ hp
      (fun k hk => by rw [List.getElem?_take, if_pos (by simp at hk; omega)]; simp) (by simp; omega) (by rw [hbl]; simp; omega) (fun k hk => by simp) hcs (fun j hj => by omega) (fun t _ => rfl)
end
end Pk
