/-
  The engine, part G: a statement whose order is open.
-/
import Derived.Test.YthamfghcfjhifaaGreatDoorEngF
namespace Pk
open Go

def dv (ρ : Env) (d : Option Tmp) : Value := match d with | some d => ρ d | none => undef
@[simp] theorem dv_some (ρ : Env) (d : Tmp) : dv ρ (some d) = ρ d := rfl
@[simp] theorem dv_none (ρ : Env) : dv ρ none = undef := rfl
theorem dv_put (ρ ρ' : Env) (d : Option Tmp) (v : Value) : dv (put ρ d v) d = dv (put ρ' d v) d := by cases d <;> simp
def tmpsOf (o : Oper) : List Tmp := o.op.operands.toList.filterMap fun | .tmp t => some t | _ => none
def bsAt (bs : List (List Nat)) (i : Nat) : List Nat := bs.getD i []
/-- The order: bs says of each of the first operations what surely lies ahead of it. -/
def befsOk (ops : List Oper) (m : Nat) (bs : List (List Nat)) : Bool :=
  decide (bs.length = m) && decide (m ≤ ops.length) &&
  (List.range m).all (fun i => match ops[i]? with
    | none => false
    | some o => (bsAt bs i).all (fun j => decide (j < i) && o.after.toList.any (fun e => Region.binds .any e && (e.on == j || (bsAt bs e.on).contains j))) &&
      (tmpsOf o).all (fun t => (List.range m).all fun j => (dstAt ops j != some t) || (bsAt bs i).contains j || (bsAt bs j).contains i) &&
      (match o.guard with | none => true | some (j, _) => (bsAt bs i).contains j) &&
      (List.range i).all fun j => o.dst.isNone || dstAt ops j != o.dst) &&
  (List.range ops.length).all (fun i => match ops[i]? with | none => false | some o => o.after.toList.all fun e => !Region.binds .any e || decide (e.on < i)) &&
  (List.range ops.length).all (fun i => decide (i < m) || (match ops[i]? with
    | none => false
    | some o => (List.range i).all fun k => o.after.toList.any fun e => Region.binds .any e && (e.on == k || (decide (e.on < m) && (bsAt bs e.on).contains k) || (decide (m ≤ e.on) && decide (k < e.on)))))

/-- Which operations have been done; what the order says of the i-th when its turn comes. -/
def upd (S : Nat → Bool) (i : Nat) : Nat → Bool := fun j => decide (j = i) || S j
@[simp] theorem upd_at (S : Nat → Bool) (i j : Nat) : upd S i j = (decide (j = i) || S j) := rfl
def nok (bs0 : List (List Nat)) (S : Nat → Bool) (i : Nat) : Prop := S i = false ∧ (∀ j ∈ bsAt bs0 i, S j = true) ∧ ∀ k, i ∈ bsAt bs0 k → S k = false
def VA (P : Program) (r : Option Nat) (ds : List Deferred) (Kp : World → World → Prop) (G : (Nat → Bool) → World → Prop) (bs0 : List (List Nat)) (w0 : World) (ops : Array Oper) (T : Env → World → Prop) :
    List Oper → List (Value → World → Prop) → List (List Nat) → Nat → List (Nat × (World → Prop)) → Env → Prop
  | o :: os, A :: As, b :: bs, i, acc, ρ =>
    (∀ S w', Kp w0 w' → G S w' → nok bs0 S i → (∀ p ∈ acc, p.1 ∈ b → p.2 w') →
      GI (gw ops ρ o.guard) (VO P r o (fun ρ'' ds'' w'' => ds'' = ds ∧ Kp w' w'' ∧ A (dv ρ'' o.dst) w'' ∧ G (upd S i) w'') (fun _ _ _ _ => False) ρ ds w') (A undef w' ∧ G (upd S i) w')) ∧
    ∀ v, VA P r ds Kp G bs0 w0 ops T os As bs (i + 1) (acc ++ [(i, A v)]) (put ρ o.dst v)
  | _, _, _, i, acc, ρ => ∀ S w', Kp w0 w' → G S w' → (∀ j, j < i → S j = true) → (∀ p ∈ acc, p.2 w') → T ρ w'

/-- The environment in the order of the text. -/
def lexEnv (ρ : Env) : List Oper → (Nat → Value) → Nat → Env
  | [], _, _ => ρ
  | o :: os, vs, i => lexEnv (put ρ o.dst (vs i)) os vs (i + 1)
theorem lexEnv_append (ρ : Env) (vs : Nat → Value) : ∀ (a b : List Oper) (i : Nat), lexEnv ρ (a ++ b) vs i = lexEnv (lexEnv ρ a vs i) b vs (i + a.length)
  | [], b, i => by simp [lexEnv]
  | o :: a, b, i => by
    simp only [List.cons_append, lexEnv, List.length_cons]
    have : i + (a.length + 1) = i + 1 + a.length := by omega
    rw [this]
    exact lexEnv_append' _ vs a b (i + 1)
where lexEnv_append' (ρ : Env) (vs : Nat → Value) : ∀ (a b : List Oper) (i : Nat), lexEnv ρ (a ++ b) vs i = lexEnv (lexEnv ρ a vs i) b vs (i + a.length)
  | [], b, i => by simp [lexEnv]
  | o :: a, b, i => by
    simp only [List.cons_append, lexEnv, List.length_cons]
    have : i + (a.length + 1) = i + 1 + a.length := by omega
    rw [this]
    exact lexEnv_append' _ vs a b (i + 1)
theorem lexEnv_other (vs : Nat → Value) (t : Nat) : ∀ (l : List Oper) (ρ : Env) (i : Nat), (∀ j, dstAt l j ≠ some t) → lexEnv ρ l vs i t = ρ t
  | [], _, _, _ => rfl
  | o :: l, ρ, i, h => by
    have h0 := h 0
    rw [lexEnv, lexEnv_other vs t l _ _ (fun j => h (j + 1))]
    cases hd : o.dst with
    | none => rfl
    | some d =>
      have : t ≠ d := by rintro rfl; exact h0 hd
      simp [this]
theorem lexEnv_at (vs : Nat → Value) (t : Nat) : ∀ (l : List Oper) (ρ : Env) (i j : Nat), dstAt l j = some t → (∀ k, dstAt l k = some t → k = j) → lexEnv ρ l vs i t = vs (i + j)
  | [], _, _, _, h, _ => by simp [dstAt] at h
  | o :: l, ρ, i, 0, h, hu => by
    have h' : o.dst = some t := h
    rw [lexEnv, lexEnv_other]
    · simp [h']
    · intro j hj
      have := hu (j + 1) hj
      omega
  | o :: l, ρ, i, j + 1, h, hu => by
    rw [lexEnv, lexEnv_at vs t l _ (i + 1) j h]
    · congr 1; omega
    · intro k hk
      have := hu (k + 1) hk
      omega

/-- Of the environment an operation asks its operands alone. -/
theorem VO_env {P : Program} {r : Option Nat} {o : Oper} {k : Value → List Deferred → World → Prop} {ρ ρ' : Env} {ds : List Deferred} {w : World}
    (h : ∀ t ∈ tmpsOf o, ρ t = ρ' t) (hv : VO P r o (fun ρ'' ds'' w'' => k (dv ρ'' o.dst) ds'' w'') (fun _ _ _ _ => False) ρ ds w) :
    VO P r o (fun ρ'' ds'' w'' => k (dv ρ'' o.dst) ds'' w'' ∧ ∃ v, ρ'' = put ρ' o.dst v) (fun _ _ _ _ => False) ρ' ds w := by
  have hx : ∀ x ∈ o.op.operands, ev ρ x = ev ρ' x := by
    intro x hx
    cases x with
    | tmp t => exact h t (List.mem_filterMap.2 ⟨.tmp t, by simpa using hx, rfl⟩)
    | _ => rfl
  obtain ⟨dst, op, ty, pos, aft, gd⟩ := o
  have cv : ∀ v w', k (dv (put ρ dst v) dst) ds w' → (k (dv (put ρ' dst v) dst) ds w' ∧ ∃ u, put ρ' dst v = put ρ' dst u) := fun v w' hk => ⟨by rw [← dv_put ρ ρ']; exact hk, v, rfl⟩
  have onRm : ∀ {x : Result Value} {a b : Value → World → Prop}, (∀ v w', a v w' → b v w') → onR x a → onR x b := by
    intro x a b hab hx
    cases x with
    | ok v w' => exact hab _ _ hx
    | halt e w' => exact hx
  have onUm : ∀ {x : Result Unit} {a b : World → Prop}, (∀ w', a w' → b w') → onU x a → onU x b := by
    intro x a b hab hx
    cases x with
    | ok v w' => exact hab _ hx
    | halt e w' => exact hx
  cases op with
  | move x => rw [VO_move] at hv ⊢; rw [← hx x (by simp [Op.operands])]; exact cv _ _ hv
  | assign x => rw [VO_assign] at hv ⊢; rw [← hx x (by simp [Op.operands])]; exact cv _ _ hv
  | pick c a b => rw [VO_pick] at hv ⊢; rw [← hx c (by simp [Op.operands]), ← hx a (by simp [Op.operands]), ← hx b (by simp [Op.operands])]; exact onRm cv hv
  | alloc t => exact onRm cv hv
  | box t x => rw [VO_box] at hv ⊢; rw [← hx x (by simp [Op.operands])]; exact onRm cv hv
  | build t ps =>
    have e : ps.map (fun (i, x) => (i, ev ρ x)) = ps.map (fun (i, x) => (i, ev ρ' x)) := Array.map_congr_left fun p hp => by obtain ⟨i, x⟩ := p; simp only; rw [hx x (by simp [Op.operands]; exact ⟨i, hp⟩)]
    have hv' : onR ((Instr.build t (ps.map fun (i, x) => (i, ev ρ x))).run P w) (fun v w' => k (dv (put ρ dst v) dst) ds w') := hv
    rw [e] at hv'
    exact onRm cv hv'
  | buildSlice t n ps =>
    have e : ps.map (fun (i, x) => (i, ev ρ x)) = ps.map (fun (i, x) => (i, ev ρ' x)) := Array.map_congr_left fun p hp => by obtain ⟨i, x⟩ := p; simp only; rw [hx x (by simp [Op.operands]; exact ⟨i, hp⟩)]
    have hv' : onR ((Instr.buildSlice t n (ps.map fun (i, x) => (i, ev ρ x))).run P w) (fun v w' => k (dv (put ρ dst v) dst) ds w') := hv
    rw [e] at hv'
    exact onRm cv hv'
  | load t x => rw [VO_load] at hv ⊢; rw [← hx x (by simp [Op.operands])]; exact onRm cv hv
  | store t x y => rw [VO_store] at hv ⊢; rw [← hx x (by simp [Op.operands]), ← hx y (by simp [Op.operands])]; exact onUm (fun w' => cv _ w') hv
  | nilCheck x => rw [VO_nilCheck] at hv ⊢; rw [← hx x (by simp [Op.operands])]; exact onRm cv hv
  | binOp p t x y t' =>
    have ex := hx x (by simp [Op.operands]); have ey := hx y (by simp [Op.operands])
    rw [VO_binOp] at hv ⊢; rw [← ex, ← ey]; exact onRm cv hv
  | unOp p t x => rw [VO_unOp] at hv ⊢; rw [← hx x (by simp [Op.operands])]; exact onRm cv hv
  | convert s t x => rw [VO_convert] at hv ⊢; rw [← hx x (by simp [Op.operands])]; exact onRm cv hv
  | makeInterface t x => rw [VO_makeInterface] at hv ⊢; rw [← hx x (by simp [Op.operands])]; exact onRm cv hv
  | makeFunc fn first caps =>
    have e1' : first.map (ev ρ) = first.map (ev ρ') := Array.map_congr_left fun x hm => hx x (by simp [Op.operands, hm])
    have e2' : caps.map (ev ρ) = caps.map (ev ρ') := Array.map_congr_left fun x hm => hx x (by simp [Op.operands, hm])
    have hv' : k (dv (put ρ dst (.func fn (first.map (ev ρ)) (caps.map (ev ρ)))) dst) ds w := hv
    rw [e1', e2'] at hv'
    exact cv _ _ hv'
  | makeMap t x => 
    cases x with
    | none => rw [VO_makeMap] at hv ⊢; exact onRm cv hv
    | some x => rw [VO_makeMap] at hv ⊢; simp only [Option.map_some] at hv ⊢; rw [← hx x (by simp [Op.operands])]; exact onRm cv hv
  | makeSlice t x y => rw [VO_makeSlice] at hv ⊢; rw [← hx x (by simp [Op.operands]), ← hx y (by simp [Op.operands])]; exact onRm cv hv
  | slice t x lo hi mx =>
    have ex := hx x (by simp [Op.operands])
    have el : lo.map (ev ρ) = lo.map (ev ρ') := by cases lo with | none => rfl | some a => simp [hx a (by simp [Op.operands])]
    have eh : hi.map (ev ρ) = hi.map (ev ρ') := by cases hi with | none => rfl | some a => simp [hx a (by simp [Op.operands])]
    have em : mx.map (ev ρ) = mx.map (ev ρ') := by cases mx with | none => rfl | some a => simp [hx a (by simp [Op.operands])]
    rw [VO_slice] at hv ⊢; rw [← ex, ← el, ← eh, ← em]; exact onRm cv hv
  | fieldAddr s x f => rw [VO_fieldAddr] at hv ⊢; rw [← hx x (by simp [Op.operands])]; exact onRm cv hv
  | field s x f => rw [VO_field] at hv ⊢; rw [← hx x (by simp [Op.operands])]; exact onRm cv hv
  | indexAddr t x y => rw [VO_indexAddr] at hv ⊢; rw [← hx x (by simp [Op.operands]), ← hx y (by simp [Op.operands])]; exact onRm cv hv
  | index t x y => rw [VO_index] at hv ⊢; rw [← hx x (by simp [Op.operands]), ← hx y (by simp [Op.operands])]; exact onRm cv hv
  | lookup t x y ok => rw [VO_lookup] at hv ⊢; rw [← hx x (by simp [Op.operands]), ← hx y (by simp [Op.operands])]; exact onRm cv hv
  | mapUpdate t x y z => rw [VO_mapUpdate] at hv ⊢; rw [← hx x (by simp [Op.operands]), ← hx y (by simp [Op.operands]), ← hx z (by simp [Op.operands])]; exact onUm (fun w' => cv _ w') hv
  | insert t x y z => rw [VO_insert] at hv ⊢; rw [← hx x (by simp [Op.operands]), ← hx y (by simp [Op.operands]), ← hx z (by simp [Op.operands])]; exact onUm (fun w' => cv _ w') hv
  | mapEntry t x y => rw [VO_mapEntry] at hv ⊢; rw [← hx x (by simp [Op.operands]), ← hx y (by simp [Op.operands])]; exact onRm cv hv
  | entryStore t x y z => rw [VO_entryStore] at hv ⊢; rw [← hx x (by simp [Op.operands]), ← hx y (by simp [Op.operands]), ← hx z (by simp [Op.operands])]; exact onUm (fun w' => cv _ w') hv
  | range t x => rw [VO_range] at hv ⊢; rw [← hx x (by simp [Op.operands])]; exact onRm cv hv
  | next x s => rw [VO_next] at hv ⊢; rw [← hx x (by simp [Op.operands])]; exact onRm cv hv
  | entry x => rw [VO_entry] at hv ⊢; rw [← hx x (by simp [Op.operands])]; exact onRm cv hv
  | typeAssert x s t ok => rw [VO_typeAssert] at hv ⊢; rw [← hx x (by simp [Op.operands])]; exact onRm cv hv
  | extract x i => rw [VO_extract] at hv ⊢; rw [← hx x (by simp [Op.operands])]; exact onRm cv hv
  | call c =>
    obtain ⟨callee, args, ats⟩ := c
    cases callee with
    | value f =>
      have ea : args.toList.map (ev ρ) = args.toList.map (ev ρ') := List.map_congr_left fun x hm => hx x (by simp [Op.operands, Call.operands]; exact .inr (by simpa using hm))
      have ef := hx f (by simp [Op.operands, Call.operands])
      have hv' : CV P (ev ρ f) (args.toList.map (ev ρ)) w _ := hv
      show CV P (ev ρ' f) (args.toList.map (ev ρ')) w _
      rw [← ea, ← ef]
      refine hv'.mono fun e w' hr => ?_
      cases e with
      | returned v => exact cv _ _ hr
      | panicked ch => exact hr
      | outgrown => exact hr
    | builtin b =>
      have ea : args.map (ev ρ) = args.map (ev ρ') := Array.map_congr_left fun x hm => hx x (by simp [Op.operands, Call.operands, hm])
      have hv' : onR ((BV b ats ty (args.map (ev ρ))).run P w) (fun v w' => k (dv (put ρ dst v) dst) ds w') := hv
      rw [ea] at hv'
      exact onRm cv hv'
    | invoke x m => exact (show False from hv).elim
  | defer c =>
    obtain ⟨callee, args, ats⟩ := c
    cases callee with
    | value f =>
      have ea : args.toList.map (ev ρ) = args.toList.map (ev ρ') := List.map_congr_left fun x hm => hx x (by simp [Op.operands, Call.operands]; exact .inr (by simpa using hm))
      have ef := hx f (by simp [Op.operands, Call.operands])
      have hv' : r = none ∧ DF (ev ρ f) (args.toList.map (ev ρ)) (fun x => k (dv (put ρ dst undef) dst) (x :: ds) w) := hv
      refine ⟨hv'.1, ?_⟩
      have h2 := hv'.2
      show DF (ev ρ' f) (args.toList.map (ev ρ')) _
      rw [← ea, ← ef]
      unfold DF at h2 ⊢
      split at h2
      · exact ⟨by rw [← dv_put ρ ρ']; exact h2, _, rfl⟩
      · exact h2.elim
    | _ => exact (show False from hv).elim
  | panic x =>
    have hv' : PN (ev ρ x) (fun _ => False) := hv
    unfold PN at hv'
    split at hv' <;> exact hv'.elim
  | _ => exact (show False from hv).elim

theorem gw_env {ops : List Oper} {ρ ρ' : Env} {g : Option (Nat × Bool)} (h : ∀ j b, g = some (j, b) → ∀ d, dstAt ops j = some d → ρ d = ρ' d) : gw ops.toArray ρ g = gw ops.toArray ρ' g := by
  cases g with
  | none => rfl
  | some g =>
    obtain ⟨j, b⟩ := g
    rw [gw_some, gw_some]
    unfold gd
    cases hd : dstAt ops j with
    | none => rfl
    | some d => simp only [h j b rfl d hd]

section draw
variable {P : Program} {n : Nat} {r : Option Nat} {id : Nat} {ops : List Oper} {m : Nat} {bs : List (List Nat)} {As : List (Value → World → Prop)} {Kp : World → World → Prop} {ds : List Deferred} {G : (Nat → Bool) → World → Prop} {bs0 : List (List Nat)} {w0 : World} {T : Env → World → Prop} {ρ : Env}

theorem dstAt_get (l : List Oper) (j : Nat) : dstAt l j = (l[j]?).bind (·.dst) := (dstAt_eq l j).symm
/-- What VA gives of the i-th operation, whatever the values of those ahead. -/
theorem VA_get (vs : Nat → Value) : ∀ (l : List Oper) (As' : List (Value → World → Prop)) (bs' : List (List Nat)) (i : Nat) (acc : List (Nat × (World → Prop))) (ρ : Env), l.length = As'.length → l.length = bs'.length →
    VA P r ds Kp G bs0 w0 ops.toArray T l As' bs' i acc ρ → ∀ k o A b, l[k]? = some o → As'[k]? = some A → bs'[k]? = some b →
      ∀ S w', Kp w0 w' → G S w' → nok bs0 S (i + k) → (∀ p ∈ acc, p.1 ∈ b → p.2 w') → (∀ (j : Nat) (A' : Value → World → Prop), j < k → As'[j]? = some A' → i + j ∈ b → A' (vs (i + j)) w') →
        GI (gw ops.toArray (lexEnv ρ (l.take k) vs i) o.guard) (VO P r o (fun ρ'' ds'' w'' => ds'' = ds ∧ Kp w' w'' ∧ A (dv ρ'' o.dst) w'' ∧ G (upd S (i + k)) w'') (fun _ _ _ _ => False) (lexEnv ρ (l.take k) vs i) ds w') (A undef w' ∧ G (upd S (i + k)) w')
  | [], _, _, _, _, _, _, _, _, k, _, _, _, h, _, _ => by simp at h
  | o :: l, [], _, _, _, _, h, _, _, _, _, _, _, _, _, _ => by simp at h
  | o :: l, A :: As', [], _, _, _, _, h, _, _, _, _, _, _, _, _ => by simp at h
  | o :: l, A :: As', b :: bs', i, acc, ρ, h1, h2, h, k, o', A', b', ho, hA, hb => by
    intro S w' hk hG hnok hacc hpre
    cases k with
    | zero =>
      simp only [List.getElem?_cons_zero, Option.some.injEq] at ho hA hb
      subst ho; subst hA; subst hb
      exact h.1 S w' hk hG hnok hacc
    | succ k =>
      simp only [List.getElem?_cons_succ] at ho hA hb
      simp only [List.take_succ_cons, lexEnv]
      have e0 : i + (k + 1) = i + 1 + k := by omega
      rw [e0] at hnok ⊢
      refine VA_get vs l As' bs' (i + 1) (acc ++ [(i, A (vs i))]) (put ρ o.dst (vs i)) (by simpa using h1) (by simpa using h2) (h.2 (vs i)) k o' A' b' ho hA hb S w' hk hG hnok ?_ ?_
      · intro p hp hpb
        rcases List.mem_append.1 hp with hp | hp
        · exact hacc p hp hpb
        · simp at hp; subst hp
          have := hpre 0 A (by omega) (by simp) (by simpa using hpb)
          simpa using this
      · intro j A'' hj hA'' hjb
        have e : i + (j + 1) = i + 1 + j := by omega
        have := hpre (j + 1) A'' (by omega) (by simpa using hA'') (by rw [e]; exact hjb)
        rw [e] at this
        exact this
theorem VA_end (vs : Nat → Value) : ∀ (l : List Oper) (As' : List (Value → World → Prop)) (bs' : List (List Nat)) (i : Nat) (acc : List (Nat × (World → Prop))) (ρ : Env), l.length = As'.length → l.length = bs'.length →
    VA P r ds Kp G bs0 w0 ops.toArray T l As' bs' i acc ρ → ∀ S w', Kp w0 w' → G S w' → (∀ j, j < i + l.length → S j = true) → (∀ p ∈ acc, p.2 w') → (∀ (j : Nat) (A' : Value → World → Prop), As'[j]? = some A' → A' (vs (i + j)) w') → T (lexEnv ρ l vs i) w'
  | [], [], [], _, _, _, _, _, h => fun S w' hk hG hS hacc _ => h S w' hk hG (by simpa using hS) hacc
  | [], _ :: _, _, _, _, _, h, _, _ => by simp at h
  | [], [], _ :: _, _, _, _, _, h, _ => by simp at h
  | o :: l, [], _, _, _, _, h, _, _ => by simp at h
  | o :: l, A :: As', [], _, _, _, _, h, _ => by simp at h
  | o :: l, A :: As', b :: bs', i, acc, ρ, h1, h2, h => by
    intro S w' hk hG hS hacc hpre
    simp only [lexEnv]
    refine VA_end vs l As' bs' (i + 1) _ _ (by simpa using h1) (by simpa using h2) (h.2 (vs i)) S w' hk hG (fun j hj => hS j (by simp only [List.length_cons]; omega)) ?_ ?_
    · intro p hp
      rcases List.mem_append.1 hp with hp | hp
      · exact hacc p hp
      · simp at hp; subst hp
        have := hpre 0 A (by simp)
        simpa using this
    · intro j A'' hA''
      have e : i + (j + 1) = i + 1 + j := by omega
      have := hpre (j + 1) A'' (by simpa using hA'')
      rw [e] at this
      exact this

theorem listed_set {listed : Array Bool} {i j : Nat} (hi : i < listed.size) : (listed.setIfInBounds i true).getD j false = (decide (j = i) || listed.getD j false) := by
  by_cases h : j = i
  · subst h; simp [hi]
  · simp only [Array.getD_eq_getD_getElem?]
    rw [Array.getElem?_setIfInBounds_ne (Ne.symm h)]
    simp [h]
theorem all_listed {listed : Array Bool} (h : listed.size ≤ listed.toList.count true) (i : Nat) (hi : i < listed.size) : listed.getD i false = true := by
  have h1 : listed.toList.count true = listed.toList.length := by
    have := List.count_le_length (a := true) (l := listed.toList)
    have hl : listed.toList.length = listed.size := Array.length_toList
    omega
  have h2 := List.count_eq_length.1 h1 listed[i] (by simp)
  simp [hi, ← h2]
theorem count_listed {listed : Array Bool} {i : Nat} (hi : i < listed.size) (h : listed.getD i false = false) : (listed.setIfInBounds i true).toList.count true = listed.toList.count true + 1 := by
  have h' : listed[i] = false := by simpa [hi] using h
  have hc : ∀ (l : List Bool) (i : Nat), l[i]? = some false → (l.set i true).count true = l.count true + 1 := by
    intro l
    induction l with
    | nil => intro i h; simp at h
    | cons a l ih =>
      intro i h
      cases i with
      | zero => simp at h; subst h; simp
      | succ i =>
        simp only [List.getElem?_cons_succ] at h
        simp only [List.set_cons_succ, List.count_cons, ih i h]
        omega
  rw [Array.toList_setIfInBounds]
  exact hc _ _ (by simp [hi, h'])

theorem befsOk_bs (h : befsOk ops m bs = true) : bs.length = m ∧ m ≤ ops.length := by
  unfold befsOk at h
  simp only [Bool.and_eq_true, decide_eq_true_eq] at h
  exact ⟨h.1.1.1.1, h.1.1.1.2⟩
theorem befsOk_head (h : befsOk ops m bs = true) {i : Nat} (hi : i < m) : ∃ o, ops[i]? = some o ∧ True ∧
    (∀ j ∈ bsAt bs i, j < i ∧ ∃ e ∈ o.after, Region.binds .any e = true ∧ (e.on = j ∨ j ∈ bsAt bs e.on)) ∧
    (∀ t ∈ tmpsOf o, ∀ j, j < m → dstAt ops j = some t → j ∈ bsAt bs i ∨ i ∈ bsAt bs j) ∧
    (∀ j b, o.guard = some (j, b) → j ∈ bsAt bs i) ∧ (∀ j, j < i → ∀ t, o.dst = some t → dstAt ops j ≠ some t) := by
  unfold befsOk at h
  simp only [Bool.and_eq_true, decide_eq_true_eq] at h
  have h1 := List.all_eq_true.1 h.1.1.2 i (by simpa using hi)
  cases ho : ops[i]? with
  | none => rw [ho] at h1; cases h1
  | some o =>
    rw [ho] at h1
    simp only [Bool.and_eq_true] at h1
    refine ⟨o, rfl, trivial, ?_, ?_, ?_, ?_⟩
    · intro j hj
      have := List.all_eq_true.1 h1.1.1.1 j hj
      simp only [Bool.and_eq_true, decide_eq_true_eq, List.any_eq_true, Array.mem_toList_iff, Bool.or_eq_true, beq_iff_eq, List.contains_iff_mem] at this
      exact this
    · intro t ht j hj hd
      have := List.all_eq_true.1 (List.all_eq_true.1 h1.1.1.2 t ht) j (by simpa using hj)
      simp only [Bool.or_eq_true, bne_iff_ne, ne_eq, List.contains_iff_mem] at this
      rcases this with (h | h) | h
      · exact (h hd).elim
      · exact .inl h
      · exact .inr h
    · intro j b hg
      have := h1.1.2
      rw [hg] at this
      simpa using this
    · intro j hj t ht
      have := List.all_eq_true.1 h1.2 j (by simpa using hj)
      rw [ht] at this
      simpa using this
theorem befsOk_edge (h : befsOk ops m bs = true) {i : Nat} {o : Oper} (ho : ops[i]? = some o) : ∀ e ∈ o.after, Region.binds .any e = true → e.on < i := by
  unfold befsOk at h
  simp only [Bool.and_eq_true, decide_eq_true_eq] at h
  have h1 := List.all_eq_true.1 h.1.2 i (by simpa using (List.getElem?_eq_some_iff.1 ho).1)
  rw [ho] at h1
  intro e he hb
  have := List.all_eq_true.1 h1 e (by simpa using he)
  simpa [hb] using this
theorem befsOk_tail (h : befsOk ops m bs = true) {i : Nat} {o : Oper} (ho : ops[i]? = some o) (hi : m ≤ i) : ∀ k, k < i → ∃ e ∈ o.after, Region.binds .any e = true ∧ (e.on = k ∨ (e.on < m ∧ k ∈ bsAt bs e.on) ∨ (m ≤ e.on ∧ k < e.on)) := by
  unfold befsOk at h
  simp only [Bool.and_eq_true, decide_eq_true_eq] at h
  have h1 := List.all_eq_true.1 h.2 i (by simpa using (List.getElem?_eq_some_iff.1 ho).1)
  rw [ho] at h1
  simp only [Bool.or_eq_true, decide_eq_true_eq] at h1
  intro k hk
  have := List.all_eq_true.1 (h1.resolve_left (by omega)) k (by simpa using hk)
  simp only [List.any_eq_true, Array.mem_toList_iff, Bool.and_eq_true, Bool.or_eq_true, beq_iff_eq, decide_eq_true_eq, List.contains_iff_mem] at this
  obtain ⟨e, he, hb, hk⟩ := this
  exact ⟨e, he, hb, by rcases hk with (hk | hk) | hk <;> simp [hk]⟩
theorem lexEnv_take (ρ : Env) (vs : Nat → Value) (t k : Nat) (hu : ∀ i j, i < k → j < k → dstAt ops i = some t → dstAt ops j = some t → i = j) :
    lexEnv ρ (ops.take k) vs 0 t = (match (List.range k).find? (fun j => dstAt ops j == some t) with | some j => vs j | none => ρ t) := by
  have htk : ∀ j, dstAt (ops.take k) j = if j < k then dstAt ops j else none := by
    intro j
    rw [dstAt_get, dstAt_get, List.getElem?_take]
    split <;> rfl
  cases hf : (List.range k).find? (fun j => dstAt ops j == some t) with
  | none =>
    rw [List.find?_eq_none] at hf
    refine lexEnv_other vs t _ _ _ ?_
    intro j
    rw [htk]
    split
    · rename_i hj
      have := hf j (by simpa using hj)
      simpa using this
    · simp
  | some j =>
    have h1 := List.find?_some hf
    have h2 := List.mem_of_find?_eq_some hf
    have hj : j < k := by simpa using h2
    have hd : dstAt ops j = some t := by simpa using h1
    rw [lexEnv_at vs t _ _ 0 j]
    · simp
    · rw [htk, if_pos hj]; exact hd
    · intro i hi
      rw [htk] at hi
      split at hi
      · rename_i hik; exact hu i j hik hj hi hd
      · cases hi

/-- The rest, one behind the other. -/
theorem any_tail {Q : Post} (hb : befsOk ops m bs = true) (hok : ops.all (okOp n) = true) : ∀ (fuel q : Nat) (listed : Array Bool) (a : Act) (ρ' : Env) (w' : World), m ≤ q → q ≤ ops.length → ops.length ≤ fuel + q → listed.size = ops.length →
    (∀ i, listed.getD i false = decide (i < q)) → Ag n a.tmps ρ' → VL P r ops.toArray Q (ops.drop q) ρ' a.defers w' →
    wpAnyIn (FR r) 0 P .any ops.toArray (fun e a w' => ∃ ρ', Ag n a.tmps ρ' ∧ Q e ρ' a.defers w') fuel listed a w' := by
  intro fuel
  induction fuel with
  | zero =>
    intro q listed a ρ' w' hm hq hf hs hl hA h
    have e : q = ops.length := by omega
    subst e
    simp only [List.drop_length] at h
    refine ⟨?_, ρ', hA, h⟩
    rw [List.eq_nil_iff_forall_not_mem]
    intro j hj
    obtain ⟨hj1, o, ho, _⟩ := mem_ready.1 hj
    have hjl : j < ops.length := by
      have := (Array.getElem?_eq_some_iff.1 ho).1; simpa using this
    have := hl j
    rw [decide_eq_true hjl] at this
    have hjs : j < listed.size := by omega
    simp [hjs] at hj1 this
    rw [hj1] at this; cases this
  | succ fuel ih =>
    intro q listed a ρ' w' hm hq hf hs hl hA h
    refine ⟨?_, ?_⟩
    · intro hr
      by_cases e : q = ops.length
      · subst e
        simp only [List.drop_length] at h
        exact ⟨ρ', hA, h⟩
      · exfalso
        have hql : q < ops.length := by omega
        have : q ∈ Region.ready .any ops.toArray listed := by
          refine mem_ready.2 ⟨?_, ops[q], by simp [hql], ?_⟩
          · have := hl q
            have hqs : q < listed.size := by omega
            simp [hqs] at this ⊢
            exact this
          · intro e he hbe
            rw [hl]
            exact decide_eq_true (befsOk_edge hb (List.getElem?_eq_getElem hql) e he hbe)
        rw [hr] at this; cases this
    · intro i hi
      obtain ⟨hi1, o, ho, hi2⟩ := mem_ready.1 hi
      have hil : i < ops.length := by
        have := (Array.getElem?_eq_some_iff.1 ho).1; simpa using this
      have his : i < listed.size := by omega
      have ho' : ops[i]? = some o := by simpa using ho
      have hiq : q ≤ i := by
        have := hl i
        simp [his] at hi1 this
        rw [hi1] at this
        have := this.symm
        simpa using this
      have e : i = q := by
        by_cases h' : i = q
        · exact h'
        · exfalso
          obtain ⟨e, he, hbe, hk⟩ := befsOk_tail hb ho' (by omega) q (by omega)
          have h1 := hi2 e he hbe
          rw [hl] at h1
          have h1 : e.on < q := by simpa using h1
          rcases hk with hk | ⟨hk1, hk2⟩ | ⟨hk1, hk2⟩
          · omega
          · have := ((befsOk_head hb hk1).choose_spec.2.2.1 q hk2).1
            omega
          · omega
      subst e
      have hdrop : ops.drop i = o :: ops.drop (i + 1) := by
        rw [List.drop_eq_getElem_cons hil]
        congr 1
        have := List.getElem?_eq_getElem hil
        rw [ho'] at this; exact (Option.some.inj this).symm
      rw [hdrop] at h
      unfold VL at h
      unfold wpOpIn
      simp only [ho]
      have hok' : ops.toArray.toList.all (okOp n) = true := by simpa using hok
      have hoko : okOp n o = true := List.all_eq_true.1 hok o (List.mem_of_getElem? ho')
      have hnl : ∀ j, (listed.setIfInBounds i true).getD j false = decide (j < i + 1) := by
        intro j
        rw [listed_set his, hl]
        by_cases h1 : j = i
        · subst h1; simp
        · have : (j < i + 1) ↔ (j < i) := by omega
          simp [h1, this]
      have ha : a = ⟨a.tmps, a.defers⟩ := rfl
      rw [gw_eq hA hok' o]
      cases hg : gw ops.toArray ρ' o.guard with
      | true =>
        rw [hg] at h
        rw [GI_true] at h
        simp only [if_true]
        rw [ha]
        exact VO_sound hA hoko (fun a' ρ'' w'' hA' hk => ih (i + 1) _ a' ρ'' w'' (by omega) (by omega) (by omega) (by simpa using hs) hnl hA' hk) (fun e a' ρ'' w'' hA' hq' => ⟨ρ'', hA', hq'⟩) h
      | false =>
        rw [hg] at h
        rw [GI_false] at h
        simp only [Bool.false_eq_true, if_false]
        refine ⟨fun _ _ => trivial, ih (i + 1) _ _ _ w' (by omega) (by omega) (by omega) (by simpa using hs) hnl (hA.put (ds := a.defers) (Bool.and_eq_true_iff.1 hoko).1 undef) (by rw [put_defers]; exact h)⟩


theorem bs_listed (hb : befsOk ops m bs = true) {listed : Array Bool}
    (hcl : ∀ i, i < ops.length → listed.getD i false = true → ∀ o, ops[i]? = some o → ∀ e ∈ o.after, Region.binds .any e = true → listed.getD e.on false = true) :
    ∀ (i : Nat) (o : Oper), i < m → ops[i]? = some o → (∀ e ∈ o.after, Region.binds .any e = true → listed.getD e.on false = true) → ∀ j ∈ bsAt bs i, listed.getD j false = true := by
  intro i
  induction i using Nat.strongRecOn with
  | _ i ih =>
    intro o hi ho ha j hj
    obtain ⟨o', ho', _, h1, _⟩ := befsOk_head hb hi
    rw [ho] at ho'; cases ho'
    obtain ⟨hji, e, he, hbe, hk⟩ := h1 j hj
    rcases hk with hk | hk
    · rw [← hk]; exact ha e he hbe
    · have hlt := befsOk_edge hb ho e he hbe
      have hel : e.on < ops.length := by have := (befsOk_bs hb).2; omega
      have hle := ha e he hbe
      exact ih e.on hlt ops[e.on] (by omega) (List.getElem?_eq_getElem hel) (hcl e.on hel hle _ (List.getElem?_eq_getElem hel)) j hk
theorem head_uniq (hb : befsOk ops m bs = true) {i j : Nat} {t : Nat} (hi : i < m) (hj : j < m) (h1 : dstAt ops i = some t) (h2 : dstAt ops j = some t) : i = j := by
  rcases Nat.lt_trichotomy i j with h | h | h
  · obtain ⟨o, ho, _, _, _, _, h6⟩ := befsOk_head hb hj
    have e : dstAt ops j = o.dst := by rw [dstAt_get, ho]; rfl
    exact (h6 i h t (by rw [← e, h2]) h1).elim
  · exact h
  · obtain ⟨o, ho, _, _, _, _, h6⟩ := befsOk_head hb hi
    have e : dstAt ops i = o.dst := by rw [dstAt_get, ho]; rfl
    exact (h6 j h t (by rw [← e, h1]) h2).elim
theorem lex_all (hb : befsOk ops m bs = true) {ρ' : Env} (hfr : ∀ t, (∀ i, i < m → dstAt ops i ≠ some t) → ρ' t = ρ t) : lexEnv ρ (ops.take m) (fun j => dv ρ' (dstAt ops j)) 0 = ρ' := by
  funext t
  rw [lexEnv_take ρ _ t m (fun i j hi hj h1 h2 => head_uniq hb hi hj h1 h2)]
  cases hf : (List.range m).find? (fun j => dstAt ops j == some t) with
  | none =>
    rw [List.find?_eq_none] at hf
    refine (hfr t fun i hi e => ?_).symm
    have := hf i (by simpa using hi)
    simp [e] at this
  | some j =>
    have h1 : dstAt ops j = some t := by simpa using List.find?_some hf
    simp only [h1, dv_some]

/-- A STATEMENT WHOSE ORDER IS OPEN: the first m operations in whatever order, each by what is known of those surely ahead of it; then the rest. -/
theorem WC_draw {Q : Post} {w : World} (m : Nat) (bs : List (List Nat)) (As : List (Value → World → Prop)) (Kp : World → World → Prop) (hm : P.follows .mixedOrders = true) (hb : befsOk ops m bs = true) (hAl : As.length = m)
    (hrefl : Kp w0 w.drew) (hrefl' : ∀ a, Kp a a) (htrans : ∀ a b c, Kp a b → Kp b c → Kp a c) (hstab : ∀ A ∈ As, ∀ v a b, A v a → Kp a b → A v b) (hG0 : G (fun _ => false) w.drew)
    (h : VA P r ds Kp G bs w0 ops.toArray (fun ρ' w' => VL P r ops.toArray Q (ops.drop m) ρ' ds w') (ops.take m) As bs 0 [] ρ) : WC P n r (.region id ops.toArray true) Q ρ ds w := by
  intro hok tmps hAg
  have hok' : ops.all (okOp n) = true := by simpa [okC] using hok
  obtain ⟨hbl, hml⟩ := befsOk_bs hb
  refine wpIn_region_any hm ?_
  have key : ∀ (fuel : Nat) (listed : Array Bool) (a : Act) (ρ' : Env) (w' : World), a.defers = ds → listed.size = ops.length → Ag n a.tmps ρ' → Kp w0 w' → G (fun j => listed.getD j false) w' →
      (∀ i, i < ops.length → listed.getD i false = true → ∀ o, ops[i]? = some o → ∀ e ∈ o.after, Region.binds .any e = true → listed.getD e.on false = true) →
      (∀ j, m ≤ j → listed.getD j false = false) →
      (∀ i A, i < m → listed.getD i false = true → As[i]? = some A → A (dv ρ' (dstAt ops i)) w') →
      (∀ t, (∀ i, i < m → listed.getD i false = true → dstAt ops i ≠ some t) → ρ' t = ρ t) →
      ops.length ≤ fuel + listed.toList.count true →
      wpAnyIn (FR r) 0 P .any ops.toArray (fun e a w' => ∃ ρ', Ag n a.tmps ρ' ∧ Q e ρ' a.defers w') fuel listed a w' := by
    intro fuel
    induction fuel with
    | zero =>
      intro listed a ρ' w' hds hs hA hk hG hcl hhd hAs hfr hf
      have hall := all_listed (listed := listed) (by omega)
      have hml' : m = ops.length := by
        rcases Nat.lt_or_ge m ops.length with h1 | h1
        · have := hhd m (Nat.le_refl _)
          rw [hall m (by omega)] at this; cases this
        · omega
      refine any_tail hb hok' 0 m listed a ρ' w' (Nat.le_refl _) hml (by omega) hs ?_ hA ?_
      · intro i
        by_cases h1 : i < ops.length
        · rw [hall i (by omega)]; simp; omega
        · have : decide (i < m) = false := by simp; omega
          rw [this]; simp [hs, h1]
      · have hlex := lex_all (ρ := ρ) (ρ' := ρ') hb (fun t ht => hfr t (fun i hi _ => ht i hi))
        have hT := VA_end (fun j => dv ρ' (dstAt ops j)) (ops.take m) As bs 0 [] ρ (by simp [hAl]; omega) (by simp [hbl]; omega) h _ w' hk hG (fun j hj => hall j (by simp at hj; omega)) (by simp) (fun j A hjA => by
          have hjm : j < m := by rw [← hAl]; exact (List.getElem?_eq_some_iff.1 hjA).1
          have hjl : j < ops.length := by omega
          simp only [Nat.zero_add]
          exact hAs j A hjm (hall j (by omega)) hjA)
        rw [hlex] at hT
        rw [hds]; exact hT
    | succ fuel ih =>
      intro listed a ρ' w' hds hs hA hk hG hcl hhd hAs hfr hf
      by_cases hfull : ∀ i, i < m → listed.getD i false = true
      · refine any_tail hb hok' (fuel + 1) m listed a ρ' w' (Nat.le_refl _) hml ?_ hs ?_ hA ?_
        · have hc : listed.toList.count true ≤ m := by
            have hcc : ∀ (l : List Bool) (k : Nat), (∀ j, k ≤ j → l[j]?.getD false = false) → l.count true ≤ k := by
              intro l
              induction l with
              | nil => intro k _; simp
              | cons b l ihl =>
                intro k hkk
                cases k with
                | zero =>
                  have h0 := hkk 0 (Nat.le_refl _)
                  simp at h0; subst h0
                  have := ihl 0 (fun j hj => by have := hkk (j + 1) (by omega); simpa using this)
                  simp at this ⊢; exact this
                | succ k =>
                  have := ihl k (fun j hj => by have := hkk (j + 1) (by omega); simpa using this)
                  rw [List.count_cons]; split <;> omega
            refine hcc _ _ fun j hj => ?_
            have := hhd j hj
            simpa [Array.getD_eq_getD_getElem?] using this
          omega
        · intro i
          by_cases h1 : i < m
          · rw [hfull i h1]; simp [h1]
          · rw [hhd i (by omega)]; simp [h1]
        · have hlex := lex_all (ρ := ρ) (ρ' := ρ') hb (fun t ht => hfr t (fun i hi _ => ht i hi))
          have hT := VA_end (fun j => dv ρ' (dstAt ops j)) (ops.take m) As bs 0 [] ρ (by simp [hAl]; omega) (by simp [hbl]; omega) h _ w' hk hG (fun j hj => hfull j (by simp at hj; omega)) (by simp) (fun j A hjA => by
            have hjm : j < m := by rw [← hAl]; exact (List.getElem?_eq_some_iff.1 hjA).1
            simp only [Nat.zero_add]
            exact hAs j A hjm (hfull j hjm) hjA)
          rw [hlex] at hT
          rw [hds]; exact hT
      · refine ⟨?_, ?_⟩
        · intro hr
          exfalso
          obtain ⟨i, hi, hmin⟩ := exists_least (p := fun i => i < m ∧ listed.getD i false = false) (by
            simp only [Classical.not_forall] at hfull
            obtain ⟨i, h1, h2⟩ := hfull
            exact ⟨i, h1, by simpa using h2⟩)
          have hil : i < ops.length := by omega
          have : i ∈ Region.ready .any ops.toArray listed := by
            refine mem_ready.2 ⟨?_, ops[i], by simp [hil], ?_⟩
            · have := hi.2
              have his : i < listed.size := by omega
              simpa [his] using this
            · intro e he hbe
              have hlt := befsOk_edge hb (List.getElem?_eq_getElem hil) e he hbe
              cases hx : listed.getD e.on false with
              | true => rfl
              | false => have := hmin e.on ⟨by omega, hx⟩; omega
          rw [hr] at this; cases this
        · intro i hi
          obtain ⟨hi1, o, ho, hi2⟩ := mem_ready.1 hi
          have hil : i < ops.length := by
            have := (Array.getElem?_eq_some_iff.1 ho).1; simpa using this
          have his : i < listed.size := by omega
          have ho' : ops[i]? = some o := by simpa using ho
          have hif : listed.getD i false = false := by simpa [his] using hi1
          have him : i < m := by
            rcases Nat.lt_or_ge i m with h1 | h1
            · exact h1
            · exfalso
              refine hfull fun k hk => ?_
              obtain ⟨e, he, hbe, hke⟩ := befsOk_tail hb ho' h1 k (by omega)
              have h2 := hi2 e he hbe
              rcases hke with hke | ⟨hke1, hke2⟩ | ⟨hke1, hke2⟩
              · rw [← hke]; exact h2
              · have hel : e.on < ops.length := by omega
                exact bs_listed hb hcl e.on ops[e.on] hke1 (List.getElem?_eq_getElem hel) (hcl e.on hel h2 _ (List.getElem?_eq_getElem hel)) k hke2
              · rw [hhd e.on hke1] at h2; cases h2
          have hbsl := bs_listed hb hcl i o him ho' hi2
          obtain ⟨o'', ho'', hsome, hb3, hb4, hb5, hb6⟩ := befsOk_head hb him
          rw [ho'] at ho''; cases ho''
          have hdi : dstAt ops i = o.dst := by rw [dstAt_get, ho']; rfl
          obtain ⟨A, hAi⟩ : ∃ A, As[i]? = some A := ⟨As[i], List.getElem?_eq_getElem (by omega)⟩
          obtain ⟨b, hbi⟩ : ∃ b, bs[i]? = some b := ⟨bs[i], List.getElem?_eq_getElem (by omega)⟩
          have hbb : bsAt bs i = b := by unfold bsAt; rw [List.getD_eq_getElem?_getD, hbi]; rfl
          let vs : Nat → Value := fun j => dv ρ' (dstAt ops j)
          have hnok : nok bs (fun j => listed.getD j false) (0 + i) := by
            rw [Nat.zero_add]
            refine ⟨hif, hbsl, fun k hk' => ?_⟩
            cases hx : listed.getD k false with
            | false => exact hx
            | true =>
              exfalso
              have hkm : k < m := by
                rcases Nat.lt_or_ge k m with h1 | h1
                · exact h1
                · rw [hhd k h1] at hx; cases hx
              have hkl : k < ops.length := by omega
              have := bs_listed hb hcl k ops[k] hkm (List.getElem?_eq_getElem hkl) (hcl k hkl hx _ (List.getElem?_eq_getElem hkl)) i hk'
              rw [hif] at this; cases this
          have hupd : upd (fun j => listed.getD j false) (0 + i) = fun j => (listed.setIfInBounds i true).getD j false := by
            funext j
            rw [listed_set his, upd_at, Nat.zero_add]
          have hstep := VA_get vs (ops.take m) As bs 0 [] ρ (by simp [hAl]; omega) (by simp [hbl]; omega) h i o A b (by rw [List.getElem?_take, if_pos him]; exact ho') hAi hbi (fun j => listed.getD j false) w' hk hG hnok (by simp) (by
            intro j A' hj hA' hjb
            simp only [Nat.zero_add] at hjb ⊢
            have hjm : j < m := by omega
            exact hAs j A' hjm (hbsl j (by rw [hbb]; exact hjb)) hA')
          rw [List.take_take, Nat.min_eq_left (Nat.le_of_lt him), hupd] at hstep
          -- of its operands the text's order says what is
          have hslot : ∀ t, (∀ j, j < m → dstAt ops j = some t → j ∈ bsAt bs i ∨ i ∈ bsAt bs j) → lexEnv ρ (ops.take i) vs 0 t = ρ' t := by
            intro t ht
            rw [lexEnv_take ρ vs t i (fun a b ha hb' h1 h2 => head_uniq hb (by omega) (by omega) h1 h2)]
            cases hf : (List.range i).find? (fun j => dstAt ops j == some t) with
            | none =>
              rw [List.find?_eq_none] at hf
              refine (hfr t fun j hj hlj e => ?_).symm
              rcases Nat.lt_trichotomy j i with hji | hji | hji
              · have := hf j (by simpa using hji)
                simp [e] at this
              · subst hji; rw [hif] at hlj; cases hlj
              · rcases ht j hj e with h1 | h1
                · have := (hb3 j h1).1; omega
                · have hjl : j < ops.length := by omega
                  have := bs_listed hb hcl j ops[j] hj (List.getElem?_eq_getElem hjl) (hcl j hjl hlj _ (List.getElem?_eq_getElem hjl)) i h1
                  rw [hif] at this; cases this
            | some j =>
              have h1 : dstAt ops j = some t := by simpa using List.find?_some hf
              simp only [vs, h1, dv_some]
          have hgw : gw ops.toArray (lexEnv ρ (ops.take i) vs 0) o.guard = gw ops.toArray ρ' o.guard := by
            refine gw_env fun j b' hg dj hdj => hslot dj fun k hkm hk2 => ?_
            have hj1 := hb5 j b' hg
            have hj2 := (hb3 j hj1).1
            have := head_uniq hb hkm (by omega) hk2 hdj
            subst this
            exact .inl hj1
          have hokA : ops.toArray.toList.all (okOp n) = true := by simpa using hok'
          have hoko : okOp n o = true := List.all_eq_true.1 hok' o (List.mem_of_getElem? ho')
          have hcl' : ∀ k, k < ops.length → (listed.setIfInBounds i true).getD k false = true → ∀ ok, ops[k]? = some ok → ∀ e ∈ ok.after, Region.binds .any e = true → (listed.setIfInBounds i true).getD e.on false = true := by
            intro k hkl hkt ok hok2 e he hbe
            rw [listed_set his] at hkt ⊢
            by_cases hki : k = i
            · subst hki
              rw [ho'] at hok2; cases hok2
              rw [hi2 e he hbe]; simp
            · have : listed.getD k false = true := by simpa [hki] using hkt
              rw [hcl k hkl this ok hok2 e he hbe]; simp
          have hhd' : ∀ j, m ≤ j → (listed.setIfInBounds i true).getD j false = false := by
            intro j hj
            rw [listed_set his, hhd j hj]
            simp; omega
          have hcnt := count_listed his hif
          have next : ∀ (a' : Act) (v : Value) (w'' : World), a'.defers = ds → Ag n a'.tmps (put ρ' o.dst v) → Kp w' w'' → A (dv (put ρ' o.dst v) o.dst) w'' → G (fun j => (listed.setIfInBounds i true).getD j false) w'' →
              wpAnyIn (FR r) 0 P .any ops.toArray (fun e a w' => ∃ ρ', Ag n a.tmps ρ' ∧ Q e ρ' a.defers w') fuel (listed.setIfInBounds i true) a' w'' := by
            intro a' v w'' hds' hA' hkw hAv hGv
            refine ih _ a' (put ρ' o.dst v) w'' hds' (by simpa using hs) hA' (htrans _ _ _ hk hkw) hGv hcl' hhd' ?_ ?_ (by rw [hcnt]; omega)
            · intro k A' hkm hkt hA'k
              rw [listed_set his] at hkt
              by_cases hki : k = i
              · subst hki
                rw [hAi] at hA'k; cases hA'k
                rw [hdi]
                exact hAv
              · have hkl : listed.getD k false = true := by simpa [hki] using hkt
                have : dv (put ρ' o.dst v) (dstAt ops k) = dv ρ' (dstAt ops k) := by
                  cases hdk : dstAt ops k with
                  | none => rfl
                  | some dk =>
                    cases hod : o.dst with
                    | none => rfl
                    | some d =>
                      have hne : dk ≠ d := by
                        rintro rfl
                        exact hki (head_uniq hb hkm him hdk (by rw [hdi, hod]))
                      simp [hne]
                rw [this]
                exact hstab A' (List.mem_of_getElem? hA'k) _ _ _ (hAs k A' hkm hkl hA'k) hkw
            · intro t ht
              have : (put ρ' o.dst v) t = ρ' t := by
                cases hod : o.dst with
                | none => rfl
                | some d =>
                  have hti : t ≠ d := by
                    rintro rfl
                    exact ht i him (by rw [listed_set his]; simp) (by rw [hdi, hod])
                  simp [hti]
              rw [this]
              exact hfr t fun k hkm hkl => ht k hkm (by rw [listed_set his, hkl]; simp)
          unfold wpOpIn
          simp only [ho]
          have ha : a = ⟨a.tmps, ds⟩ := by cases a; simp_all
          rw [gw_eq hA hokA o, ← hgw]
          cases hg : gw ops.toArray (lexEnv ρ (ops.take i) vs 0) o.guard with
          | true =>
            rw [hg, GI_true] at hstep
            simp only [if_true]
            have hv := VO_env (k := fun v ds'' w'' => ds'' = ds ∧ Kp w' w'' ∧ A v w'' ∧ G (fun j => (listed.setIfInBounds i true).getD j false) w'') (ρ' := ρ') (fun t ht => hslot t fun j hj hdj => hb4 t ht j hj hdj) hstep
            rw [ha]
            refine VO_sound (K := fun ρ'' ds'' w'' => (ds'' = ds ∧ Kp w' w'' ∧ A (dv ρ'' o.dst) w'' ∧ G (fun j => (listed.setIfInBounds i true).getD j false) w'') ∧ ∃ v, ρ'' = put ρ' o.dst v) (Q := fun _ _ _ _ => False) hA hoko ?_ (fun _ _ _ _ _ h => h.elim) hv
            rintro a' ρ'' w'' hA' ⟨⟨hds', hkw, hAv, hGv⟩, v, rfl⟩
            exact next a' v w'' hds' hA' hkw hAv hGv
          | false =>
            rw [hg, GI_false] at hstep
            simp only [Bool.false_eq_true, if_false]
            refine ⟨fun _ _ => trivial, next _ undef w' (by rw [put_defers]; exact hds) (hA.put (ds := a.defers) (Bool.and_eq_true_iff.1 hoko).1 undef) ?_ ?_ hstep.2⟩
            · exact hrefl' w'
            · cases hod : o.dst with
              | none => exact hstep.1
              | some d => simpa using hstep.1
  refine key ops.toArray.size (Array.replicate ops.toArray.size false) ⟨tmps, ds⟩ ρ w.drew rfl (by simp) hAg hrefl ?hG ?_ ?_ ?_ ?_ (by simp)
  case hG =>
    have e : (fun j => (Array.replicate ops.toArray.size false).getD j false) = fun _ => false := by
      funext j
      by_cases h1 : j < ops.length <;> simp [h1]
    rw [e]; exact hG0
  · intro i hi h1; simp [hi] at h1
  · intro j hj
    by_cases h1 : j < ops.length <;> simp [h1]
  · intro i A hi h1; simp [Nat.lt_of_lt_of_le hi hml] at h1
  · intro t _; rfl
end draw
end Pk
