/-
  The engine, part P: a statement whose order is open, and that lays new blocks, calls or appends.
-/
import Derived.Test.YthamfghcfjhifaaGreatDoorEngO
namespace Pk
open Go
abbrev Fact := Value → World → Prop
/-- What is alike, in the text's order; what is not is left out. -/
def PA (P : Program) (X : Nat → Bool) (r : Option Nat) (ds : List Deferred) (ops : Array Oper) (w1 : World) (R : Env → Prop) : List Oper → List (Option Fact) → Env → Prop
  | o :: os, none :: gs, σ => GI (gw ops σ o.guard) (xV P X σ w1 o = true ∧ VO P r o (fun ρ'' ds'' w'' => (ds'' = ds ∧ w'' = w1) ∧ PA P X r ds ops w1 R os gs ρ'') (fun _ _ _ _ => False) σ ds w1) (PA P X r ds ops w1 R os gs (put σ o.dst undef))
  | o :: os, some _ :: gs, σ => PA P X r ds ops w1 R os gs (put σ o.dst undef)
  | _, _, σ => R σ
/-- What is not alike, one after the other: what is asked of each, and what it gives. -/
def GO (P : Program) (r : Option Nat) (ds : List Deferred) (ops : Array Oper) (w1 : World) (Kp Ks : World → World → Prop) (bs : List (List Nat)) (st : Nat) (Gs : World → Prop) (T : Env → World → Prop) : List Oper → List (Option Fact) → Nat → List (Nat × (World → Prop)) → Env → Prop
  | _ :: os, none :: gs, i, acc, σ => GO P r ds ops w1 Kp Ks bs st Gs T os gs (i + 1) acc σ
  | o :: os, some A :: gs, i, acc, σ =>
    (∀ W, Ks w1 W → (∀ p ∈ acc, (bsAt bs i).contains p.1 = true → p.2 W) →
      GI (gw ops σ o.guard) (VO P r o (fun ρ'' ds'' w'' => ds'' = ds ∧ (if i = st then Kp W w'' ∧ Gs w'' else Ks W w'') ∧ A (dv ρ'' o.dst) w'') (fun _ _ _ _ => False) σ ds W) (A undef W)) ∧
    ∀ u, GO P r ds ops w1 Kp Ks bs st Gs T os gs (i + 1) ((i, A u) :: acc) (put σ o.dst u)
  | _, _, _, acc, σ => ∀ W, Kp w1 W → Gs W → (∀ p ∈ acc, p.2 W) → T σ W
def PAt (P : Program) (X : Nat → Bool) (r : Option Nat) (ds : List Deferred) (ops : Array Oper) (w1 : World) (R : Env → Prop) (l : List Oper) (gs : List (Option Fact)) (_ : Tok (PProd.mk ops (PProd.mk R (PProd.mk l gs)))) (σ : Env) : Prop := PA P X r ds ops w1 R l gs σ
def GOt (P : Program) (r : Option Nat) (ds : List Deferred) (ops : Array Oper) (w1 : World) (Kp Ks : World → World → Prop) (bs : List (List Nat)) (st : Nat) (Gs : World → Prop) (T : Env → World → Prop) (l : List Oper) (gs : List (Option Fact)) (i : Nat) (acc : List (Nat × (World → Prop)))
  (_ : Tok (PProd.mk ops (PProd.mk bs (PProd.mk T (PProd.mk l (PProd.mk gs (PProd.mk i acc))))))) (σ : Env) : Prop := GO P r ds ops w1 Kp Ks bs st Gs T l gs i acc σ
section
variable (P : Program) (X : Nat → Bool) (r : Option Nat) (ds : List Deferred) (ops : Array Oper) (w1 : World) (R : Env → Prop) (Kp Ks : World → World → Prop) (bs : List (List Nat)) (st : Nat) (Gs : World → Prop) (T : Env → World → Prop) (o : Oper) (os : List Oper) (A : Fact) (gs : List (Option Fact)) (i : Nat) (acc : List (Nat × (World → Prop))) (σ : Env)
@[simp ↓] theorem PA_tok (l : List Oper) : PA P X r ds ops w1 R l gs σ = PAt P X r ds ops w1 R l gs .mk σ := _root_.id rfl
@[simp] theorem PAt_none (t) : PAt P X r ds ops w1 R (o :: os) (none :: gs) t σ = GIt (gw ops σ o.guard) (xV P X σ w1 o = true ∧ VO P r o (fun ρ'' ds'' w'' => (ds'' = ds ∧ w'' = w1) ∧ PA P X r ds ops w1 R os gs ρ'') (fun _ _ _ _ => False) σ ds w1) (PA P X r ds ops w1 R os gs (put σ o.dst undef)) .mk := _root_.id rfl
@[simp] theorem PAt_some (t) : PAt P X r ds ops w1 R (o :: os) (some A :: gs) t σ = PAt P X r ds ops w1 R os gs .mk (put σ o.dst undef) := _root_.id rfl
@[simp] theorem PAt_nil (t) : PAt P X r ds ops w1 R [] gs t σ = R σ := by unfold PAt PA; rfl
@[simp] theorem PAt_nil' (l : List Oper) (t) : PAt P X r ds ops w1 R l [] t σ = R σ := by unfold PAt; cases l <;> rfl
@[simp] theorem PAt_take (k : Nat) (t) : PAt P X r ds ops w1 R ((o :: os).take (k + 1)) gs t σ = PAt P X r ds ops w1 R (o :: os.take k) gs .mk σ := _root_.id rfl
@[simp] theorem PAt_take0 (l : List Oper) (t) : PAt P X r ds ops w1 R (l.take 0) gs t σ = R σ := by unfold PAt PA; rfl
@[simp ↓] theorem GO_tok (l : List Oper) : GO P r ds ops w1 Kp Ks bs st Gs T l gs i acc σ = GOt P r ds ops w1 Kp Ks bs st Gs T l gs i acc .mk σ := _root_.id rfl
@[simp] theorem GOt_none (t) : GOt P r ds ops w1 Kp Ks bs st Gs T (o :: os) (none :: gs) i acc t σ = GOt P r ds ops w1 Kp Ks bs st Gs T os gs (i + 1) acc .mk σ := _root_.id rfl
@[simp] theorem GOt_take (k : Nat) (t) : GOt P r ds ops w1 Kp Ks bs st Gs T ((o :: os).take (k + 1)) gs i acc t σ = GOt P r ds ops w1 Kp Ks bs st Gs T (o :: os.take k) gs i acc .mk σ := _root_.id rfl
end
section
variable {P : Program} {X : Nat → Bool} {r : Option Nat} {ds : List Deferred} {ops : Array Oper} {w1 : World} {R : Env → Prop} {Kp Ks : World → World → Prop} {bs : List (List Nat)} {st : Nat} {Gs : World → Prop} {T : Env → World → Prop} {o : Oper} {os : List Oper} {A : Fact} {gs : List (Option Fact)} {i : Nat} {acc : List (Nat × (World → Prop))} {σ : Env}
theorem GO_some {t} (h1 : ∀ W, Ks w1 W → (∀ p ∈ acc, (bsAt bs i).contains p.1 = true → p.2 W) → GI (gw ops σ o.guard) (VO P r o (fun ρ'' ds'' w'' => ds'' = ds ∧ (if i = st then Kp W w'' ∧ Gs w'' else Ks W w'') ∧ A (dv ρ'' o.dst) w'') (fun _ _ _ _ => False) σ ds W) (A undef W))
    (h2 : ∀ u, GO P r ds ops w1 Kp Ks bs st Gs T os gs (i + 1) ((i, A u) :: acc) (put σ o.dst u)) : GOt P r ds ops w1 Kp Ks bs st Gs T (o :: os) (some A :: gs) i acc t σ := ⟨h1, h2⟩
theorem GO_end {t} (h : ∀ W, Kp w1 W → Gs W → (∀ p ∈ acc, p.2 W) → T σ W) : GOt P r ds ops w1 Kp Ks bs st Gs T [] [] i acc t σ := h
theorem GO_fin (h : ∀ W, Kp w1 W → Gs W → (∀ p ∈ acc, p.2 W) → T σ W) : GO P r ds ops w1 Kp Ks bs st Gs T os [] i acc σ := by cases os <;> exact h
theorem GO_end0 {l : List Oper} {t} (h : ∀ W, Kp w1 W → Gs W → (∀ p ∈ acc, p.2 W) → T σ W) : GOt P r ds ops w1 Kp Ks bs st Gs T (l.take 0) [] i acc t σ := h
end
/-- A fact out of those that came. -/
theorem fact {acc : List (Nat × (World → Prop))} {W : World} {f : Nat → Bool} (hp : ∀ p ∈ acc, f p.1 = true → p.2 W) (k : Nat) {p : World → Prop} (hf : acc.find? (fun p => p.1 == k) = some (k, p)) (hc : f k = true) : p W :=
  hp (k, p) (List.mem_of_find?_eq_some hf) hc
theorem fact' {acc : List (Nat × (World → Prop))} {W : World} (hp : ∀ p ∈ acc, p.2 W) (k : Nat) {p : World → Prop} (hf : acc.find? (fun p => p.1 == k) = some (k, p)) : p W :=
  hp (k, p) (List.mem_of_find?_eq_some hf)
theorem VO_mono {P : Program} {r : Option Nat} {o : Oper} {K K' : Cont} {ρ : Env} {ds : List Deferred} {w : World} (hK : ∀ v ds' w', K (put ρ o.dst v) ds' w' → K' (put ρ o.dst v) ds' w')
    (h : VO P r o K (fun _ _ _ _ => False) ρ ds w) : VO P r o K' (fun _ _ _ _ => False) ρ ds w := by
  obtain ⟨dst, op, ty, pos, aft, gd⟩ := o
  have onRm : ∀ {x : Result Value}, onR x (fun v w' => K (put ρ dst v) ds w') → onR x (fun v w' => K' (put ρ dst v) ds w') := by
    intro x hx
    cases x with
    | ok v w' => exact hK _ _ _ hx
    | halt e w' => exact hx
  have onUm : ∀ {x : Result Unit}, onU x (fun w' => K (put ρ dst undef) ds w') → onU x (fun w' => K' (put ρ dst undef) ds w') := by
    intro x hx
    cases x with
    | ok v w' => exact hK _ _ _ hx
    | halt e w' => exact hx
  cases op with
  | call c =>
    obtain ⟨callee, args, ats⟩ := c
    cases callee with
    | value f =>
      have hv' : CV P (ev ρ f) (args.toList.map (ev ρ)) w _ := h
      refine hv'.mono fun e w' hr => ?_
      cases e with
      | returned v => exact hK _ _ _ hr
      | panicked ch => exact hr
      | outgrown => exact hr
    | builtin b => exact onRm h
    | invoke x m => exact (show False from h).elim
  | defer c =>
    obtain ⟨callee, args, ats⟩ := c
    cases callee with
    | value f =>
      have hv' : r = none ∧ DF (ev ρ f) (args.toList.map (ev ρ)) (fun x => K (put ρ dst undef) (x :: ds) w) := h
      refine ⟨hv'.1, ?_⟩
      have h2 := hv'.2
      show DF (ev ρ f) (args.toList.map (ev ρ)) _
      unfold DF at h2 ⊢
      split at h2
      · exact hK _ _ _ h2
      · exact h2.elim
    | _ => exact (show False from h).elim
  | panic x =>
    have hv' : PN (ev ρ x) (fun _ => False) := h
    unfold PN at hv'
    split at hv' <;> exact hv'.elim
  | move x => exact hK _ _ _ h
  | assign x => exact hK _ _ _ h
  | makeFunc fn first caps => exact hK _ _ _ h
  | box t x => exact onRm (x := (Instr.box t (ev ρ x)).run P w) h
  | _ => first | exact onRm h | exact onUm h | exact (show False from h).elim

section
variable {P : Program} {X : Nat → Bool} {r : Option Nat} {ds : List Deferred} {ops : List Oper} {w1 : World} {R : Env → Prop} {Kp Ks : World → World → Prop} {m : Nat} {bs : List (List Nat)} {st : Nat} {Gs : World → Prop} {T : Env → World → Prop}
def PAf (P : Program) (X : Nat → Bool) (r : Option Nat) (ds : List Deferred) (ops : Array Oper) (w1 : World) (σf : Env) : List Oper → List (Option Fact) → Env → Prop
  | o :: os, none :: gs, σ => ∃ c, GI (gw ops σ o.guard) (xV P X σ w1 o = true ∧ VO P r o (fun ρ'' ds'' _ => ds'' = ds ∧ dv ρ'' o.dst = c) (fun _ _ _ _ => False) σ ds w1) (c = undef) ∧ PAf P X r ds ops w1 σf os gs (put σ o.dst c)
  | o :: os, some _ :: gs, σ => PAf P X r ds ops w1 σf os gs (put σ o.dst undef)
  | _, _, σ => σ = σf
theorem PA_PAf : ∀ (l : List Oper) (gs : List (Option Fact)) (σ : Env), (∀ (k : Nat) (o : Oper), l[k]? = some o → gs[k]? = some none → plain o.op = true ∧ o.dst.isSome = true) → PA P X r ds ops.toArray w1 R l gs σ → ∃ σf, R σf ∧ PAf P X r ds ops.toArray w1 σf l gs σ
  | [], _, σ, _, h => ⟨σ, by unfold PA at h; exact h, by unfold PAf; rfl⟩
  | _ :: _, [], σ, _, h => ⟨σ, by unfold PA at h; exact h, by unfold PAf; rfl⟩
  | o :: l, some A :: gs, σ, hp, h => by
    unfold PA at h
    obtain ⟨σf, h1, h2⟩ := PA_PAf l gs _ (fun k o' ho hg => hp (k + 1) o' ho hg) h
    exact ⟨σf, h1, h2⟩
  | o :: l, none :: gs, σ, hp, h => by
    obtain ⟨hpl, hds⟩ := hp 0 o rfl rfl
    obtain ⟨d, hd⟩ := Option.isSome_iff_exists.1 hds
    unfold PA at h
    cases hg : gw ops.toArray σ o.guard with
    | true =>
      rw [hg, GI_true] at h
      obtain ⟨hx, h⟩ := h
      obtain ⟨v, w', ⟨⟨h1, h2⟩, h3⟩, h4⟩ := VO_det hpl h
      obtain ⟨σf, hR, hf⟩ := PA_PAf l gs _ (fun k o' ho hg => hp (k + 1) o' ho hg) h3
      refine ⟨σf, hR, v, ?_, hf⟩
      rw [hg, GI_true]
      refine ⟨hx, h4 _ _ ⟨rfl, ?_⟩⟩
      rw [hd]; simp
    | false =>
      rw [hg, GI_false] at h
      obtain ⟨σf, hR, hf⟩ := PA_PAf l gs _ (fun k o' ho hg => hp (k + 1) o' ho hg) h
      refine ⟨σf, hR, undef, ?_, hf⟩
      rw [hg, GI_false]
theorem PAf_other {σf : Env} : ∀ (l : List Oper) (gs : List (Option Fact)) (σ : Env), PAf P X r ds ops.toArray w1 σf l gs σ → ∀ t, (∀ o ∈ l, o.dst ≠ some t) → σf t = σ t
  | [], _, σ, h, t, _ => by unfold PAf at h; rw [h]
  | _ :: _, [], σ, h, t, _ => by unfold PAf at h; rw [h]
  | o :: l, some A :: gs, σ, h, t, ht => by
    unfold PAf at h
    rw [PAf_other l gs _ h t fun o' ho => ht o' (by simp [ho])]
    cases hd : o.dst with
    | none => rfl
    | some d =>
      have : d ≠ t := fun e => ht o (by simp) (by rw [hd, e])
      simp [Ne.symm this]
  | o :: l, none :: gs, σ, h, t, ht => by
    obtain ⟨c, _, h⟩ := h
    rw [PAf_other l gs _ h t fun o' ho => ht o' (by simp [ho])]
    cases hd : o.dst with
    | none => rfl
    | some d =>
      have : d ≠ t := fun e => ht o (by simp) (by rw [hd, e])
      simp [Ne.symm this]
theorem xV_env {o : Oper} {ρ ρ' : Env} {w : World} (h : ∀ t ∈ tmpsOf o, ρ t = ρ' t) : xV P X ρ w o = xV P X ρ' w o := by
  obtain ⟨dst, op, ty, pos, aft, gd⟩ := o
  have hx : ∀ z ∈ op.operands, ev ρ z = ev ρ' z := by
    intro z hz
    cases z with
    | tmp t => exact h t (List.mem_filterMap.2 ⟨.tmp t, Array.mem_toList_iff.2 hz, rfl⟩)
    | _ => rfl
  cases op with
  | binOp p t x y t' =>
    simp only [xV]
    rw [hx x (by simp [Op.operands]), hx y (by simp [Op.operands])]
  | load t x =>
    simp only [xV]
    rw [hx x (by simp [Op.operands])]
  | convert s t x =>
    simp only [xV]
    rw [hx x (by simp [Op.operands])]
  | call c => exact cV_env fun z hz => hx z hz
  | _ => rfl
/-- What is asked of the marks: what is alike hangs on what is alike; what is not alike comes behind what its operands hang on. -/
def marksOk (P : Program) (ops : List Oper) (m : Nat) (bs : List (List Nat)) (ks : List Bool) (st : Nat) : Bool :=
  (decide (ks.length = m) && (decide (m ≤ st) || ((List.range m).all (fun i => !(ks.getD i false) || (decide (i = st) || (bsAt bs st).contains i)) && (ks.getD st false && (match ops[st]? with | some o => o.guard.isNone | none => false))))) && (List.range m).all fun i => match ops[i]?, ks[i]? with
    | some o, some false => plain o.op && (autoOp P o.op && (o.dst.isSome && ((tmpsOf o).all (fun t => (List.range m).all fun j => !(ks.getD j false) || dstAt ops j != some t) && (match o.guard with | none => true | some (j, _) => !(ks.getD j false)))))
    | some o, some true => (tmpsOf o).all (fun t => (List.range m).all fun j => dstAt ops j != some t || (bsAt bs i).contains j)
    | _, _ => false
def factsOf (σf : Env) : List Oper → List (Option Fact) → List Fact
  | o :: os, none :: gs => (fun v _ => v = dv σf o.dst) :: factsOf σf os gs
  | _ :: os, some A :: gs => A :: factsOf σf os gs
  | _, _ => []
theorem factsOf_length (σf : Env) : ∀ (l : List Oper) (gs : List (Option Fact)), gs.length = l.length → (factsOf σf l gs).length = l.length
  | [], [], _ => rfl
  | [], _ :: _, h => by cases h
  | _ :: _, [], h => by cases h
  | _ :: l, none :: gs, h => by simp [factsOf, factsOf_length σf l gs (by simpa using h)]
  | _ :: l, some _ :: gs, h => by simp [factsOf, factsOf_length σf l gs (by simpa using h)]
theorem factsOf_mem {σf : Env} : ∀ (l : List Oper) (gs : List (Option Fact)) (A : Fact), A ∈ factsOf σf l gs → (∃ d, A = fun v _ => v = dv σf d) ∨ some A ∈ gs
  | [], _, _, h => by simp [factsOf] at h
  | _ :: _, [], _, h => by simp [factsOf] at h
  | o :: l, none :: gs, A, h => by
    simp only [factsOf, List.mem_cons] at h
    rcases h with rfl | h
    · exact .inl ⟨_, rfl⟩
    · rcases factsOf_mem l gs A h with h | h
      · exact .inl h
      · exact .inr (by simp [h])
  | o :: l, some B :: gs, A, h => by
    simp only [factsOf, List.mem_cons] at h
    rcases h with rfl | h
    · exact .inr (by simp)
    · rcases factsOf_mem l gs A h with h | h
      · exact .inl h
      · exact .inr (by simp [h])
theorem XVA (hb : befsOk ops m bs = true) {gs0 : List (Option Fact)} (hk : marksOk P ops m bs (gs0.map Option.isSome) st = true) (hold : ∀ W, Kp w1 W → Agr (fun k => k < w1.heap.size ∧ X k = false) w1 W) (hrefl : ∀ a, Kp a a) (hGs : m ≤ st → ∀ W, Gs W) (hKs : m ≤ st → ∀ a b, Kp a b → Ks a b) (hKK : ∀ a b, Ks a b → Kp a b) (hst' : ∀ a b c, Ks a b → Ks b c → Ks a c) {σf : Env} :
    ∀ (l : List Oper) (gs : List (Option Fact)) (i : Nat) (bs' : List (List Nat)) (acc accG : List (Nat × (World → Prop))) (ρ σ τ : Env),
    (∀ k, k < l.length → l[k]? = ops[i + k]?) → (∀ k, k < l.length → gs[k]? = gs0[i + k]?) → gs.length = l.length → i + l.length = m → bs'.length = l.length → (∀ k, k < l.length → bs'[k]? = bs[i + k]?) →
    PAf P X r ds ops.toArray w1 σf l gs σ → GO P r ds ops.toArray w1 Kp Ks bs st Gs T l gs i accG τ →
    (∀ j, j < i → gs0[j]? = some none → ∀ d, dstAt ops j = some d → σ d = σf d ∧ ∃ p ∈ acc, p.1 = j ∧ ∀ W, p.2 W → ρ d = σf d) →
    (∀ j A, j < i → gs0[j]? = some (some A) → ∀ d, dstAt ops j = some d → τ d = ρ d) →
    (∀ t, (∀ j, j < i → dstAt ops j ≠ some t) → ρ t = σ t) →
    (∀ t, (∀ j A, j < i → gs0[j]? = some (some A) → dstAt ops j ≠ some t) → τ t = σf t) →
    (∀ p ∈ accG, ∃ q ∈ acc, q.1 = p.1 ∧ ∀ W, q.2 W → p.2 W) →
    VA P r ds Kp (fun S W => (S st = true → Gs W) ∧ (S st = false → Ks w1 W)) bs w1 ops.toArray T l (factsOf σf l gs) bs' i acc ρ
  | [], [], i, [], acc, accG, ρ, σ, τ, _, _, _, hm, _, _, hf, hg, I1, I2, I3, I4, I5 => by
    intro S w' hK hG hS hacc
    unfold GO at hg
    have hσ : σ = σf := by unfold PAf at hf; exact hf
    have e : τ = ρ := by
      funext t
      by_cases h1 : ∃ j A, j < i ∧ gs0[j]? = some (some A) ∧ dstAt ops j = some t
      · obtain ⟨j, A, hj, hA, hd⟩ := h1
        exact I2 j A hj hA t hd
      · rw [I4 t fun j A hj hA hd => h1 ⟨j, A, hj, hA, hd⟩]
        by_cases h2 : ∃ j, j < i ∧ dstAt ops j = some t
        · obtain ⟨j, hj, hd⟩ := h2
          have hn : gs0[j]? = some none := by
            have hk2 : j < gs0.length := by
              unfold marksOk at hk
              simp only [Bool.and_eq_true, decide_eq_true_eq, List.length_map] at hk
              have := hk.1.1
              simp at hm; omega
            cases hg0 : gs0[j]? with
            | none => simp at hg0; omega
            | some o => cases o with
              | none => rfl
              | some A => exact (h1 ⟨j, A, hj, hg0, hd⟩).elim
          obtain ⟨_, p, hp, _, hpw⟩ := I1 j hj hn t hd
          exact (hpw w' (hacc p hp)).symm
        · rw [I3 t fun j hj hd => h2 ⟨j, hj, hd⟩, hσ]
    rw [← e]
    refine hg w' hK ?_ fun p hp => by obtain ⟨q, hq, _, h⟩ := I5 p hp; exact h _ (hacc q hq)
    rcases Nat.lt_or_ge st m with h | h
    · exact hG.1 (hS st (by simp at hm; omega))
    · exact hGs h _
  | [], _ :: _, _, _, _, _, _, _, _, _, _, h, _, _, _, _, _, _, _, _, _, _ => by simp at h
  | [], [], _, _ :: _, _, _, _, _, _, _, _, _, _, h, _, _, _, _, _, _, _, _ => by simp at h
  | _ :: _, [], _, _, _, _, _, _, _, _, _, h, _, _, _, _, _, _, _, _, _, _ => by simp at h
  | _ :: _, _ :: _, _, [], _, _, _, _, _, _, _, _, _, h, _, _, _, _, _, _, _, _ => by simp at h
  | o :: l, g :: gs, i, b :: bs', acc, accG, ρ, σ, τ, hl, hgs, hgl, hm, hbl, hbs, hf, hg, I1, I2, I3, I4, I5 => by
    have hi : i < m := by simp at hm; omega
    have ho : ops[i]? = some o := by have := hl 0 (by simp); simpa using this.symm
    have hgi : gs0[i]? = some g := by have := hgs 0 (by simp); simpa using this.symm
    have hbi : bsAt bs i = b := by
      have := hbs 0 (by simp)
      simp at this
      unfold bsAt; rw [List.getD_eq_getElem?_getD, ← this]; rfl
    obtain ⟨o', ho', -, hb3, hb4, hb5, hb6⟩ := befsOk_head hb hi
    rw [ho] at ho'; cases ho'
    have hmk : (match ops[i]?, (gs0.map Option.isSome)[i]? with
      | some o, some false => plain o.op && (autoOp P o.op && (o.dst.isSome && ((tmpsOf o).all (fun t => (List.range m).all fun j => !((gs0.map Option.isSome).getD j false) || dstAt ops j != some t) && (match o.guard with | none => true | some (j, _) => !((gs0.map Option.isSome).getD j false)))))
      | some o, some true => (tmpsOf o).all (fun t => (List.range m).all fun j => dstAt ops j != some t || (bsAt bs i).contains j)
      | _, _ => false) = true := by
      unfold marksOk at hk
      rw [Bool.and_eq_true] at hk
      exact List.all_eq_true.1 hk.2 i (by simpa using hi)
    have hgs0l : gs0.length = m := by
      unfold marksOk at hk
      simp only [Bool.and_eq_true, decide_eq_true_eq, List.length_map] at hk
      exact hk.1.1
    have hst : st < m → (∀ k, k < m → (gs0.map Option.isSome).getD k false = true → k = st ∨ k ∈ bsAt bs st) ∧ (gs0.map Option.isSome).getD st false = true ∧ ∀ o, ops[st]? = some o → o.guard = none := by
      intro hlt
      unfold marksOk at hk
      rw [Bool.and_eq_true, Bool.and_eq_true, Bool.or_eq_true] at hk
      rcases hk.1.2 with h | h
      · simp at h; omega
      · rw [Bool.and_eq_true, Bool.and_eq_true] at h
        refine ⟨fun k hk1 hk2 => ?_, h.2.1, fun o ho => ?_⟩
        · have := List.all_eq_true.1 h.1 k (by simpa using hk1)
          rw [hk2] at this
          simpa using this
        · have h2 := h.2.2
          rw [ho] at h2
          simpa using h2
    have isG : ∀ j A, gs0[j]? = some (some A) → (gs0.map Option.isSome).getD j false = true := fun j A h => by
      rw [List.getD_eq_getElem?_getD, List.getElem?_map, h]; rfl
    have kind : ∀ j, j < m → gs0[j]? = some none ∨ ∃ A, gs0[j]? = some (some A) := fun j hj => by
      cases hg0 : gs0[j]? with
      | none => simp at hg0; omega
      | some x => cases x with
        | none => exact .inl rfl
        | some A => exact .inr ⟨A, rfl⟩
    rw [ho] at hmk
    have hmk' : (gs0.map Option.isSome)[i]? = some g.isSome := by rw [List.getElem?_map, hgi]; rfl
    rw [hmk'] at hmk
    -- the tail's premises
    have tl : ∀ k, k < l.length → l[k]? = ops[i + 1 + k]? := fun k hk => by
      have := hl (k + 1) (by simpa using hk)
      rw [List.getElem?_cons_succ] at this
      rw [this]; congr 1; omega
    have tg : ∀ k, k < l.length → gs[k]? = gs0[i + 1 + k]? := fun k hk => by
      have := hgs (k + 1) (by simpa using hk)
      rw [List.getElem?_cons_succ] at this
      rw [this]; congr 1; omega
    have tb : ∀ k, k < l.length → bs'[k]? = bs[i + 1 + k]? := fun k hk => by
      have := hbs (k + 1) (by simpa using hk)
      rw [List.getElem?_cons_succ] at this
      rw [this]; congr 1; omega
    have later : ∀ o' ∈ o :: l, ∃ j, i ≤ j ∧ j < m ∧ ops[j]? = some o' := fun o' ho' => by
      obtain ⟨k, hk⟩ := List.mem_iff_getElem?.1 ho'
      have hkl : k < (o :: l).length := (List.getElem?_eq_some_iff.1 hk).1
      exact ⟨i + k, by omega, by simp at hm hkl; omega, by rw [← hl k hkl]; exact hk⟩
    cases g with
    | none =>
      simp only [Option.isSome_none, Bool.and_eq_true] at hmk
      obtain ⟨hpl, hau, hds, hop, hgd⟩ := hmk
      obtain ⟨d, hd⟩ := Option.isSome_iff_exists.1 hds
      have hdi : dstAt ops i = some d := by rw [dstAt_get, ho]; exact hd
      obtain ⟨c, hc, hf'⟩ := hf
      have hfd : σf d = c := by
        rw [PAf_other l gs _ hf' d ?_, hd]
        · simp
        · intro o' ho' hd'
          obtain ⟨j, h1, h2, h3⟩ := later o' (by simp [ho'])
          have hdj : dstAt ops j = some d := by rw [dstAt_get, h3]; exact hd'
          have hij := head_uniq hb hi h2 hdi hdj
          obtain ⟨k, hk⟩ := List.mem_iff_getElem?.1 ho'
          have hkl : k < l.length := (List.getElem?_eq_some_iff.1 hk).1
          have hdk : dstAt ops (i + 1 + k) = some d := by rw [dstAt_get, ← tl k hkl, hk]; exact hd'
          have := head_uniq hb hi (show i + 1 + k < m by simp at hm; omega) hdi hdk
          omega
      have hnst : i ≠ st := fun e => by
        have h1 := (hst (by omega)).2.1
        rw [← e, List.getD_eq_getElem?_getD, List.getElem?_map, hgi] at h1
        cases h1
      refine ⟨?_, ?_⟩
      · intro S w' hK hG _ hacc
        have hG' : (upd S i st = true → Gs w') ∧ (upd S i st = false → Ks w1 w') := by
          have : decide (st = i) = false := by simp; omega
          exact ⟨fun h => hG.1 (by simpa [this] using h), fun h => hG.2 (by simpa [this] using h)⟩
        have hslot : ∀ t, (∀ j, j < m → dstAt ops j = some t → (j ∈ bsAt bs i ∨ i ∈ bsAt bs j) ∧ gs0[j]? = some none) → σ t = ρ t := by
          intro t ht
          by_cases hx : ∃ j, j < i ∧ dstAt ops j = some t
          · obtain ⟨j, hj, hdj⟩ := hx
            obtain ⟨h1, h2⟩ := ht j (by omega) hdj
            obtain ⟨e1, p, hp, e2, e3⟩ := I1 j hj h2 t hdj
            rcases h1 with h3 | h3
            · rw [e1, e3 w' (hacc p hp (by rw [e2, ← hbi]; exact h3))]
            · have hjm : j < m := by omega
              obtain ⟨oj, _, _, hbj, _⟩ := befsOk_head hb hjm
              have := (hbj i h3).1
              omega
          · exact (I3 t fun j hj hdj => hx ⟨j, hj, hdj⟩).symm
        have hops : ∀ t ∈ tmpsOf o, σ t = ρ t := fun t ht => hslot t fun j hj hdj => ⟨hb4 t ht j hj hdj, by
          rcases kind j hj with h | ⟨A, h⟩
          · exact h
          · have := List.all_eq_true.1 (List.all_eq_true.1 hop t ht) j (by simpa using hj)
            rw [isG j A h, hdj] at this
            simp at this⟩
        have hgw : gw ops.toArray σ o.guard = gw ops.toArray ρ o.guard := by
          refine gw_env fun j b' hg' dj hdj => hslot dj fun k hkm hk2 => ?_
          have hj1 := hb5 j b' hg'
          have hj2 := (hb3 j hj1).1
          have := head_uniq hb hkm (by omega) hk2 hdj
          subst this
          refine ⟨.inl hj1, ?_⟩
          rcases kind k hkm with h | ⟨A, h⟩
          · exact h
          · rw [hg'] at hgd
            simp only [isG k A h] at hgd
            cases hgd
        rw [← hgw]
        cases hgv : gw ops.toArray σ o.guard with
        | true =>
          rw [hgv, GI_true] at hc
          rw [GI_true]
          obtain ⟨hxv, hc⟩ := hc
          rw [xV_env hops] at hxv
          have h1 := VO_env (k := fun v ds'' _ => ds'' = ds ∧ v = c) (ρ' := ρ) hops hc
          have h2 : VO P r o (fun ρ'' ds'' _ => ds'' = ds ∧ dv ρ'' o.dst = c) (fun _ _ _ _ => False) ρ ds w1 := VO_mono (fun v ds' w' h => h.1) h1
          have h3 := VO_alike (k := fun v ds'' => ds'' = ds ∧ v = c) hau hxv (hold w' hK) h2
          refine VO_mono (fun v ds' w'' h => ⟨h.2.1, by rw [h.1]; exact hrefl _, ?_, by rw [h.1]; exact hG'⟩) h3
          show dv (put ρ o.dst v) o.dst = dv σf o.dst
          rw [h.2.2, hd]
          exact hfd.symm
        | false =>
          rw [hgv, GI_false] at hc
          rw [GI_false]
          refine ⟨?_, hG'⟩
          show undef = dv σf o.dst
          rw [hd]; exact hc.symm.trans hfd.symm
      · intro v
        refine XVA hb hk hold hrefl hGs hKs hKK hst' l gs (i + 1) bs' _ accG (put ρ o.dst v) (put σ o.dst c) τ tl tg (by simpa using hgl) (by simp at hm; omega) (by simpa using hbl) tb hf' (by unfold GO at hg; exact hg) ?_ ?_ ?_ ?_ ?_
        · intro j hj hjn d' hd'
          rw [hd]
          by_cases hji : j = i
          · subst hji
            rw [hdi] at hd'; cases hd'
            refine ⟨by simp [hfd], _, List.mem_append_right _ (List.mem_singleton.2 rfl), rfl, fun W hW => ?_⟩
            have hW' : v = dv σf (some d) := hW
            rw [hW']; simp
          · have hne : d' ≠ d := by
              rintro rfl
              exact hji (head_uniq hb (by omega) hi hd' hdi)
            obtain ⟨e1, p, hp, e2, e3⟩ := I1 j (by omega) hjn d' hd'
            exact ⟨by simpa [hne] using e1, p, List.mem_append_left _ hp, e2, fun W hW => by simpa [hne] using e3 W hW⟩
        · intro j A hj hA d' hd'
          have hji : j ≠ i := fun e => by subst e; rw [hgi] at hA; cases hA
          have hne : d' ≠ d := by
            rintro rfl
            exact hji (head_uniq hb (by omega) hi hd' hdi)
          rw [hd]
          simpa [hne] using I2 j A (by omega) hA d' hd'
        · intro t ht
          have hne : t ≠ d := by
            rintro rfl
            exact ht i (by omega) hdi
          rw [hd]
          simpa [hne] using I3 t fun j hj => ht j (by omega)
        · intro t ht
          exact I4 t fun j A hj hA => ht j A (by omega) hA
        · intro p hp
          obtain ⟨q, hq, h⟩ := I5 p hp
          exact ⟨q, List.mem_append_left _ hq, h⟩
    | some A =>
      simp only [Option.isSome_some] at hmk
      unfold PAf at hf
      obtain ⟨hg1, hg2⟩ := hg
      have hτ : ∀ W, (∀ p ∈ acc, p.1 ∈ b → p.2 W) → ∀ t, (∀ j, j < m → dstAt ops j = some t → j ∈ bsAt bs i) → τ t = ρ t := by
        intro W hacc t ht
        by_cases hx : ∃ j, j < m ∧ dstAt ops j = some t
        · obtain ⟨j, hj, hdj⟩ := hx
          have hjb := ht j hj hdj
          have hji := (hb3 j hjb).1
          rcases kind j hj with h | ⟨B, h⟩
          · obtain ⟨e1, p, hp, e2, e3⟩ := I1 j hji h t hdj
            rw [e3 W (hacc p hp (by rw [e2, ← hbi]; exact hjb))]
            refine I4 t fun k B hk hB hdk => ?_
            have := head_uniq hb (by omega) hj hdk hdj
            subst this
            rw [h] at hB; cases hB
          · exact I2 j B hji h t hdj
        · rw [I4 t fun k B hk hB hdk => hx ⟨k, by omega, hdk⟩, I3 t fun j hj hdj => hx ⟨j, by omega, hdj⟩]
          refine (PAf_other l gs _ hf t ?_).trans ?_
          · intro o' ho' hd'
            obtain ⟨j, h1, h2, h3⟩ := later o' (by simp [ho'])
            exact hx ⟨j, h2, by rw [dstAt_get, h3]; exact hd'⟩
          · cases hd : o.dst with
            | none => rfl
            | some d =>
              have : t ≠ d := by
                rintro rfl
                exact hx ⟨i, hi, by rw [dstAt_get, ho]; exact hd⟩
              simp [this]
      refine ⟨?_, ?_⟩
      · intro S W hK hG hn hacc
        have hSf : st < m → S st = false := fun hlt => by
          rcases (hst hlt).1 i hi (isG i A hgi) with e | hb'
          · rw [← e]; exact hn.1
          · exact hn.2.2 st hb'
        have hKs' : Ks w1 W := by
          rcases Nat.lt_or_ge st m with hlt | hge
          · exact hG.2 (hSf hlt)
          · exact hKs hge _ _ hK
        have hG1 : i ≠ st → ∀ w'', Ks W w'' → (upd S i st = true → Gs w'') ∧ (upd S i st = false → Ks w1 w'') := fun hne w'' hk => by
          have h0 : decide (st = i) = false := by simp; omega
          refine ⟨fun h => ?_, fun _ => hst' _ _ _ hKs' hk⟩
          have h1 : S st = true := by simpa [h0] using h
          rcases Nat.lt_or_ge st m with hlt | hge
          · rw [hSf hlt] at h1; cases h1
          · exact hGs hge _
        have hops : ∀ t ∈ tmpsOf o, τ t = ρ t := fun t ht => hτ W hacc t fun j hj hdj => by
          have := List.all_eq_true.1 (List.all_eq_true.1 hmk t ht) j (by simpa using hj)
          rw [hdj] at this
          simpa using this
        have hgw : gw ops.toArray τ o.guard = gw ops.toArray ρ o.guard := by
          refine gw_env fun j b' hg' dj hdj => hτ W hacc dj fun k hkm hk2 => ?_
          have hj1 := hb5 j b' hg'
          have hj2 := (hb3 j hj1).1
          have := head_uniq hb hkm (by omega) hk2 hdj
          subst this
          exact hj1
        have hfa : ∀ p ∈ accG, (bsAt bs i).contains p.1 = true → p.2 W := fun p hp hpc => by
          obtain ⟨q, hq, e, h⟩ := I5 p hp
          refine h W (hacc q hq ?_)
          rw [e, ← hbi]; simpa using hpc
        have h := hg1 W hKs' hfa
        rw [← hgw]
        cases hgv : gw ops.toArray τ o.guard with
        | true =>
          rw [hgv, GI_true] at h
          rw [GI_true]
          have h1 := VO_env (k := fun v ds'' w'' => ds'' = ds ∧ (if i = st then Kp W w'' ∧ Gs w'' else Ks W w'') ∧ A v w'') (ρ' := ρ) hops h
          refine VO_mono (fun v ds' w'' h => ?_) h1
          obtain ⟨⟨h2, h3, h4⟩, _⟩ := h
          by_cases e : i = st
          · rw [if_pos e] at h3
            exact ⟨h2, h3.1, h4, fun _ => h3.2, fun hu => by simp [e] at hu⟩
          · rw [if_neg e] at h3
            exact ⟨h2, hKK _ _ h3, h4, hG1 e _ h3⟩
        | false =>
          rw [hgv, GI_false] at h
          rw [GI_false]
          by_cases e : i = st
          · have h0 := (hst (by omega)).2.2 o (by rw [← e]; exact ho)
            rw [h0, gw_none] at hgv
            cases hgv
          · have h0 : decide (st = i) = false := by simp; omega
            exact ⟨h, fun hu => hG.1 (by simpa [h0] using hu), fun hu => hG.2 (by simpa [h0] using hu)⟩
      · intro v
        refine XVA hb hk hold hrefl hGs hKs hKK hst' l gs (i + 1) bs' _ ((i, A v) :: accG) (put ρ o.dst v) (put σ o.dst undef) (put τ o.dst v) tl tg (by simpa using hgl) (by simp at hm; omega) (by simpa using hbl) tb hf (hg2 v) ?_ ?_ ?_ ?_ ?_
        · intro j hj hjn d' hd'
          have hji : j ≠ i := fun e => by subst e; rw [hgi] at hjn; cases hjn
          obtain ⟨e1, p, hp, e2, e3⟩ := I1 j (by omega) hjn d' hd'
          have hne : o.dst ≠ some d' := fun e => hji (head_uniq hb (by omega) hi hd' (by rw [dstAt_get, ho]; exact e))
          cases hd : o.dst with
          | none => exact ⟨e1, p, List.mem_append_left _ hp, e2, e3⟩
          | some d =>
            have hne' : d' ≠ d := fun e => hne (by rw [hd, e])
            exact ⟨by simpa [hne'] using e1, p, List.mem_append_left _ hp, e2, fun W hW => by simpa [hne'] using e3 W hW⟩
        · intro j B hj hB d' hd'
          by_cases hji : j = i
          · subst hji
            have : o.dst = some d' := by rw [dstAt_get, ho] at hd'; exact hd'
            rw [this]; simp
          · have hne : o.dst ≠ some d' := fun e => hji (head_uniq hb (by omega) hi hd' (by rw [dstAt_get, ho]; exact e))
            cases hd : o.dst with
            | none => exact I2 j B (by omega) hB d' hd'
            | some d =>
              have hne' : d' ≠ d := fun e => hne (by rw [hd, e])
              simpa [hne'] using I2 j B (by omega) hB d' hd'
        · intro t ht
          have hne : o.dst ≠ some t := fun e => ht i (by omega) (by rw [dstAt_get, ho]; exact e)
          cases hd : o.dst with
          | none => exact I3 t fun j hj => ht j (by omega)
          | some d =>
            have hne' : t ≠ d := fun e => hne (by rw [hd, e])
            simpa [hne'] using I3 t fun j hj => ht j (by omega)
        · intro t ht
          have hne : o.dst ≠ some t := fun e => ht i A (by omega) hgi (by rw [dstAt_get, ho]; exact e)
          cases hd : o.dst with
          | none => exact I4 t fun j B hj hB => ht j B (by omega) hB
          | some d =>
            have hne' : t ≠ d := fun e => hne (by rw [hd, e])
            simpa [hne'] using I4 t fun j B hj hB => ht j B (by omega) hB
        · intro p hp
          rcases List.mem_cons.1 hp with rfl | hp
          · exact ⟨_, List.mem_append_right _ (List.mem_singleton.2 rfl), rfl, fun W h => h⟩
          · obtain ⟨q, hq, h⟩ := I5 p hp
            exact ⟨q, List.mem_append_left _ hq, h⟩
/-- A STATEMENT WHOSE ORDER IS OPEN: gs: of each of the first m operations: none: it is alike in all worlds that go on (Kp); some A: what it gives, and lays. -/
theorem WC_drawG {n : Nat} {id : Nat} {Q : Post} {ρ : Env} {w : World} (m : Nat) (X : Nat → Bool) (st : Nat) (Gs : World → Prop) (gs : List (Option Fact)) (Kp Ks : World → World → Prop) (hm : P.follows .mixedOrders = true)
    (hb : (befsOk ops m (befs ops m) && marksOk P ops m (befs ops m) (gs.map Option.isSome) st) = true)
    (hrefl : ∀ a, Kp a a) (htrans : ∀ a b c, Kp a b → Kp b c → Kp a c) (hold : ∀ W, Kp w.drew W → Agr (fun k => k < w.drew.heap.size ∧ X k = false) w.drew W) (hGs : m ≤ st → ∀ W, Gs W) (hKs : m ≤ st → ∀ a b, Kp a b → Ks a b) (hKK : ∀ a b, Ks a b → Kp a b) (hrs : ∀ a, Ks a a) (hts : ∀ a b c, Ks a b → Ks b c → Ks a c) (hstab : ∀ A, some A ∈ gs → ∀ v a b, A v a → Kp a b → A v b)
    (h : ∀ W, Dr w W → PA P X r ds ops.toArray W (fun σ => GO P r ds ops.toArray W Kp Ks (befs ops m) st Gs (fun ρ' w' => VL P r ops.toArray Q (ops.drop m) ρ' ds w') (ops.take m) gs 0 [] σ) (ops.take m) gs ρ) :
    WC P n r (.region id ops.toArray true) Q ρ ds w := by
  rw [Bool.and_eq_true] at hb
  obtain ⟨hb, hk⟩ := hb
  obtain ⟨hbl, hml⟩ := befsOk_bs hb
  have hgl : gs.length = m := by
    have h2 := hk
    unfold marksOk at h2
    simp only [Bool.and_eq_true, decide_eq_true_eq, List.length_map] at h2
    exact h2.1.1
  have hlen : (ops.take m).length = m := by simp; omega
  obtain ⟨σf, hR, hf⟩ := PA_PAf (ops.take m) gs ρ (fun k o ho hg => by
    have hkm : k < m := by have := (List.getElem?_eq_some_iff.1 ho).1; simp at this; omega
    rw [List.getElem?_take, if_pos hkm] at ho
    have h2 := hk
    unfold marksOk at h2
    rw [Bool.and_eq_true] at h2
    have h3 := List.all_eq_true.1 h2.2 k (by simpa using hkm)
    rw [ho, List.getElem?_map, hg] at h3
    simp only [Option.map_some, Option.isSome_none, Bool.and_eq_true] at h3
    exact ⟨h3.1, h3.2.2.1⟩) (h _ rfl)
  refine WC_draw m (befs ops m) (factsOf σf (ops.take m) gs) Kp hm hb (by rw [factsOf_length _ _ _ (by rw [hlen, hgl]), hlen]) (G := fun S W => (S st = true → Gs W) ∧ (S st = false → Ks w.drew W)) (w0 := w.drew) (hrefl _) hrefl htrans ?_ ⟨fun h => (by cases h), fun _ => hrs _⟩ ?_
  · intro A hA v a b h1 h2
    rcases factsOf_mem _ _ _ hA with ⟨d, rfl⟩ | hA
    · exact h1
    · exact hstab A hA v a b h1 h2
  · exact XVA hb hk hold hrefl hGs hKs hKK hts (ops.take m) gs 0 (befs ops m) [] [] ρ ρ σf (fun k hk => by rw [List.getElem?_take, if_pos (by simp at hk; omega)]; simp) (fun k hk => by simp) (by rw [hlen, hgl]) (by rw [hlen]; omega) (by rw [hbl, hlen]) (fun k hk => by simp) hf hR
      (fun j hj => by omega) (fun j A hj => by omega) (fun t _ => rfl) (fun t _ => rfl) (fun p hp => by simp at hp)
/-- The same, no block of before being written. -/
theorem WC_drawX {n : Nat} {id : Nat} {Q : Post} {ρ : Env} {w : World} (m : Nat) (gs : List (Option Fact)) (Kp : World → World → Prop) (hm : P.follows .mixedOrders = true)
    (hb : (befsOk ops m (befs ops m) && marksOk P ops m (befs ops m) (gs.map Option.isSome) m) = true)
    (hrefl : ∀ a, Kp a a) (htrans : ∀ a b c, Kp a b → Kp b c → Kp a c) (hold : ∀ W, Kp w.drew W → Agr (fun k => k < w.drew.heap.size ∧ false = false) w.drew W) (hstab : ∀ A, some A ∈ gs → ∀ v a b, A v a → Kp a b → A v b)
    (h : ∀ W, Dr w W → PA P (fun _ => false) r ds ops.toArray W (fun σ => GO P r ds ops.toArray W Kp Kp (befs ops m) m (fun _ => True) (fun ρ' w' => VL P r ops.toArray Q (ops.drop m) ρ' ds w') (ops.take m) gs 0 [] σ) (ops.take m) gs ρ) :
    WC P n r (.region id ops.toArray true) Q ρ ds w :=
  WC_drawG m (fun _ => false) m (fun _ => True) gs Kp Kp hm hb hrefl htrans hold (fun _ _ => trivial) (fun _ _ _ h => h) (fun _ _ h => h) hrefl htrans hstab h
end
@[simp] theorem bldS_nil (P : Program) (w : World) (t : TypeId) (s : Nat) (z : Value) (w1 w2 : World) (hs : isS (P.underlying t) = true) (hi : ((Go.sizeOf (elemT (P.underlying t))).run P w) = .ok s w) :
    bldS P w t 0 [] (.ok s w1) (.ok z w2) = .ok (.slice (some ⟨w.heap.size, 0, none⟩) 0 0) (w.alloc (.cells #[] (elemT (P.underlying t)))) := by
  have hu := run_und (isS_inv hs) w
  show (if bOk 0 s [] = true then _ else _) = _
  rw [if_neg (by simp [bOk])]
  have e : Array.range 0 = #[] := by simp [Array.range]
  simp [Instr.buildSlice, hu, hi, Instr.fill, newRow, newObj, Sem.run, e]
theorem ldOk_one {P : Program} {w : World} {t : TypeId} {b i : Nat} {v : Value} (h : P.cellsOf t = 1) (hc : w.cell? ⟨b, i, none⟩ = some v) (X : Nat → Bool) (hx : X b = false) : ldOk P X w t (.pointer (some ⟨b, i, none⟩)) = true := by
  simp [ldOk, h, hc, hx]
theorem ldOk_of {P : Program} {w : World} {t : TypeId} {b i n : Nat} (h : P.cellsOf t = n) (hc : ∀ j, j < n → (w.cell? ⟨b, i + j, none⟩).isSome = true) (X : Nat → Bool) (hx : X b = false) : ldOk P X w t (.pointer (some ⟨b, i, none⟩)) = true := by
  simp only [ldOk, h, hx, Bool.not_false, Bool.true_and, List.all_eq_true, List.mem_range, add_mk]
  exact hc
section
variable {P : Program} {w : World} {s : Nat} {v : Value} {n : Nat} {cs : List Value} {t : TypeId}
theorem Sl.sliceL (h : Sl w s v n cs) (hs : isS (P.underlying t) = true) (k : IntKind) (i : Int) (h0 : 0 ≤ i) (h1 : i ≤ n) (w' : World) :
    (Instr.sliceAt t v (some (.int k i)) none none).run P w' = ((Go.sizeOf (elemT (P.underlying t))).run P w').andThen fun z w' => .ok (slcL v i.toNat z) w' := by
  rw [run_sliceAt_slice w' t v _ _ _ (elem_of hs), elemT_of hs]
  rcases h.val with ⟨c, rfl, rfl⟩ | ⟨b, o, c, rfl, hc⟩
  · rw [run_slice_l w' t none 0 c (elem_of hs) k i h0 (by omega)]
    congr 1
  · rw [run_slice_l w' t _ n c (elem_of hs) k i h0 (by omega)]
    congr 1
theorem Sl.dropL (h : Sl w s v n cs) (i : Nat) (h1 : i ≤ n) : Sl w s (slcL v i s) (n - i) (cs.drop (i * s)) := by
  have hl := h.len
  refine ⟨by rw [List.length_drop, hl, Nat.sub_mul], ?_, ?_⟩
  · rcases h.val with ⟨c, rfl, rfl⟩ | ⟨b, o, c, rfl, hc⟩
    · left
      refine ⟨c - i, ?_, by omega⟩
      simp only [slcL, Option.map_none, ite_self]
      have : i = 0 := by omega
      subst this; rfl
    · right
      by_cases e : c = i
      · exact ⟨b, o, c - i, by simp [slcL, e], by omega⟩
      · exact ⟨b, o + i * s, c - i, by simp [slcL, e], by omega⟩
  · intro j u hj
    rw [List.getElem?_drop] at hj
    have hat := h.at_ _ u hj
    rcases h.val with ⟨c, rfl, rfl⟩ | ⟨b, o, c, rfl, hc⟩
    · have := (List.getElem?_eq_some_iff.1 hj).1
      omega
    · by_cases e : c = i
      · have := (List.getElem?_eq_some_iff.1 hj).1
        have h2 : n = i := by omega
        rw [hl, h2] at this; omega
      · simp only [slcL, if_neg e, Option.map_some, add_mk, slB, slO] at hat ⊢
        rw [Nat.add_assoc]; exact hat
end
theorem Kc.setOld {base : Nat} {X : Nat → Bool} {e : TypeId} {s : Nat} {Z : List Value} {W : World} {b i : Nat} (hx : X b = true) (hb : b < base) (v : Value) : Kc base X e s Z W (W.setCell ⟨b, i, none⟩ v) := by
  have ho : ∀ g, g ≠ b → (W.setCell ⟨b, i, none⟩ v).heap[g]? = W.heap[g]? := fun g hg => Go.RowKit.Below.heap_setCell _ _ _ _ hg
  refine ⟨⟨rfl, rfl, rfl, by simp, fun g _ hs => ho g fun h => by rw [h, hx] at hs; cases hs.2⟩, fun g hg c t fr h1 _ => by rw [ho g (by omega)]; exact h1, fun u n _ h => ⟨own_keep h.1 fun hn hl => ho _ (by have := own_ge h.1 hn; omega), h.2⟩⟩
theorem Kc.weaken {base : Nat} {X : Nat → Bool} {e : TypeId} {s : Nat} {Z : List Value} {a b : World} (h : Kc base (fun _ => false) e s Z a b) : Kc base X e s Z a b := ⟨h.old.weaken fun _ hi => ⟨hi.1, rfl⟩, h.one, h.row⟩
/-- Where nothing of before is written. -/
theorem WC_drawE {P : Program} {r : Option Nat} {ds : List Deferred} {ops : List Oper} {n : Nat} {id : Nat} {Q : Post} {ρ : Env} {w : World} (m : Nat) (gs : List (Option Fact)) (hm : P.follows .mixedOrders = true)
    (hb : (befsOk ops m (befs ops m) && marksOk P ops m (befs ops m) (gs.map Option.isSome) m) = true) (hstab : ∀ A, some A ∈ gs → ∀ v a b, A v a → Ext a b → A v b)
    (h : ∀ W, Dr w W → PA P (fun _ => false) r ds ops.toArray W (fun σ => GO P r ds ops.toArray W Ext Ext (befs ops m) m (fun _ => True) (fun ρ' w' => VL P r ops.toArray Q (ops.drop m) ρ' ds w') (ops.take m) gs 0 [] σ) (ops.take m) gs ρ) :
    WC P n r (.region id ops.toArray true) Q ρ ds w :=
  WC_drawX m gs Ext hm hb Ext.refl (fun _ _ _ h k => h.trans k) (fun _ h => h.agr) hstab h
end Pk
