/-
  The engine, part Q: a statement whose order is open, with several effects, one after the other.
-/
import Derived.Test.YthamfghcfjhifaaGreatDoorEngP
namespace Pk
open Go
/-- How many of the effects lie ahead of the i-th operation. -/
def phI (E : List Nat) (i : Nat) : Nat := E.countP fun e => decide (e < i)
@[simp] theorem phI_nil (i : Nat) : phI [] i = 0 := rfl
@[simp] theorem phI_cons (e : Nat) (E : List Nat) (i : Nat) : phI (e :: E) i = phI E i + if e < i then 1 else 0 := by unfold phI; rw [List.countP_cons]; by_cases h : e < i <;> simp [h]
/-- Is an operation's place among the effects fixed? -/
def ordB (bs : List (List Nat)) (E : List Nat) (i : Nat) : Bool := E.all fun e => (bsAt bs i).contains e || (decide (e = i) || (bsAt bs e).contains i)
/-- What is not alike, one after the other: what is asked of each, and what it gives. -/
def GH (P : Program) (r : Option Nat) (ds : List Deferred) (ops : Array Oper) (w1 : World) (Kp : World → World → Prop) (bs : List (List Nat)) (E : List Nat) (Ph : Nat → World → Prop) (T : Env → World → Prop) : List Oper → List (Option Fact) → Nat → List (Nat × (World → Prop)) → Env → Prop
  | _ :: os, none :: gs, i, acc, σ => GH P r ds ops w1 Kp bs E Ph T os gs (i + 1) acc σ
  | o :: os, some A :: gs, i, acc, σ =>
    (∀ k k' W, (ordB bs E i = true → k = phI E i ∧ k' = phI E (i + 1)) → (ordB bs E i = false → k' = k) → Kp w1 W → Ph k W → (∀ p ∈ acc, (bsAt bs i).contains p.1 = true → p.2 W) →
      GI (gw ops σ o.guard) (VO P r o (fun ρ'' ds'' w'' => ds'' = ds ∧ Kp W w'' ∧ A (dv ρ'' o.dst) w'' ∧ Ph k' w'') (fun _ _ _ _ => False) σ ds W) (A undef W ∧ Ph k' W)) ∧
    ∀ u, GH P r ds ops w1 Kp bs E Ph T os gs (i + 1) ((i, A u) :: acc) (put σ o.dst u)
  | _, _, _, acc, σ => ∀ W, Kp w1 W → Ph E.length W → (∀ p ∈ acc, p.2 W) → T σ W
def GHt (P : Program) (r : Option Nat) (ds : List Deferred) (ops : Array Oper) (w1 : World) (Kp : World → World → Prop) (bs : List (List Nat)) (E : List Nat) (Ph : Nat → World → Prop) (T : Env → World → Prop) (l : List Oper) (gs : List (Option Fact)) (i : Nat) (acc : List (Nat × (World → Prop)))
  (_ : Tok (PProd.mk ops (PProd.mk bs (PProd.mk T (PProd.mk l (PProd.mk gs (PProd.mk i acc))))))) (σ : Env) : Prop := GH P r ds ops w1 Kp bs E Ph T l gs i acc σ
section
variable (P : Program) (r : Option Nat) (ds : List Deferred) (ops : Array Oper) (w1 : World) (Kp : World → World → Prop) (bs : List (List Nat)) (E : List Nat) (Ph : Nat → World → Prop) (T : Env → World → Prop) (o : Oper) (os : List Oper) (A : Fact) (gs : List (Option Fact)) (i : Nat) (acc : List (Nat × (World → Prop))) (σ : Env)
@[simp ↓] theorem GH_tok (l : List Oper) : GH P r ds ops w1 Kp bs E Ph T l gs i acc σ = GHt P r ds ops w1 Kp bs E Ph T l gs i acc .mk σ := _root_.id rfl
@[simp] theorem GHt_none (t) : GHt P r ds ops w1 Kp bs E Ph T (o :: os) (none :: gs) i acc t σ = GHt P r ds ops w1 Kp bs E Ph T os gs (i + 1) acc .mk σ := _root_.id rfl
@[simp] theorem GHt_take (k : Nat) (t) : GHt P r ds ops w1 Kp bs E Ph T ((o :: os).take (k + 1)) gs i acc t σ = GHt P r ds ops w1 Kp bs E Ph T (o :: os.take k) gs i acc .mk σ := _root_.id rfl
end
section
variable {P : Program} {r : Option Nat} {ds : List Deferred} {ops : Array Oper} {w1 : World} {Kp : World → World → Prop} {bs : List (List Nat)} {E : List Nat} {Ph : Nat → World → Prop} {T : Env → World → Prop} {o : Oper} {os : List Oper} {A : Fact} {gs : List (Option Fact)} {i : Nat} {acc : List (Nat × (World → Prop))} {σ : Env}
theorem GH_some {t} (ho : ordB bs E i = true) (h1 : ∀ W, Kp w1 W → Ph (phI E i) W → (∀ p ∈ acc, (bsAt bs i).contains p.1 = true → p.2 W) → GI (gw ops σ o.guard) (VO P r o (fun ρ'' ds'' w'' => ds'' = ds ∧ Kp W w'' ∧ A (dv ρ'' o.dst) w'' ∧ Ph (phI E (i + 1)) w'') (fun _ _ _ _ => False) σ ds W) (A undef W ∧ Ph (phI E (i + 1)) W))
    (h2 : ∀ u, GH P r ds ops w1 Kp bs E Ph T os gs (i + 1) ((i, A u) :: acc) (put σ o.dst u)) : GHt P r ds ops w1 Kp bs E Ph T (o :: os) (some A :: gs) i acc t σ :=
  ⟨fun k k' W a _ b c d => by obtain ⟨rfl, rfl⟩ := a ho; exact h1 W b c d, h2⟩
/-- An operation that may come ahead of an effect or behind it. -/
theorem GH_free {t} (ho : ordB bs E i = false) (h1 : ∀ k W, Kp w1 W → Ph k W → (∀ p ∈ acc, (bsAt bs i).contains p.1 = true → p.2 W) → GI (gw ops σ o.guard) (VO P r o (fun ρ'' ds'' w'' => ds'' = ds ∧ Kp W w'' ∧ A (dv ρ'' o.dst) w'' ∧ Ph k w'') (fun _ _ _ _ => False) σ ds W) (A undef W ∧ Ph k W))
    (h2 : ∀ u, GH P r ds ops w1 Kp bs E Ph T os gs (i + 1) ((i, A u) :: acc) (put σ o.dst u)) : GHt P r ds ops w1 Kp bs E Ph T (o :: os) (some A :: gs) i acc t σ :=
  ⟨fun k k' W _ a b c d => by obtain rfl := a ho; exact h1 _ W b c d, h2⟩
theorem GH_fin (h : ∀ W, Kp w1 W → Ph E.length W → (∀ p ∈ acc, p.2 W) → T σ W) : GH P r ds ops w1 Kp bs E Ph T os [] i acc σ := by cases os <;> exact h
end
section
variable {P : Program} {X : Nat → Bool} {r : Option Nat} {ds : List Deferred} {ops : List Oper} {w1 : World} {R : Env → Prop} {Kp : World → World → Prop} {m : Nat} {bs : List (List Nat)} {E : List Nat} {Ph : Nat → World → Prop} {T : Env → World → Prop}
/-- What is asked of the marks: what is alike hangs on what is alike; what is not alike comes behind what its operands hang on. -/
def marksE (P : Program) (ops : List Oper) (m : Nat) (bs : List (List Nat)) (ks : List Bool) (E : List Nat) : Bool :=
  (decide (ks.length = m) && (E.all (fun e => decide (e < m) && ks.getD e false) && (List.range m).all (fun i => !(E.contains i) || ordB bs E i))) &&
  (List.range m).all fun i => match ops[i]?, ks[i]? with
    | some o, some false => plain o.op && (autoOp P o.op && (o.dst.isSome && ((tmpsOf o).all (fun t => (List.range m).all fun j => !(ks.getD j false) || dstAt ops j != some t) && (match o.guard with | none => true | some (j, _) => !(ks.getD j false)))))
    | some o, some true => (tmpsOf o).all (fun t => (List.range m).all fun j => dstAt ops j != some t || (bsAt bs i).contains j)
    | _, _ => false
def cntS (E : List Nat) (S : Nat → Bool) : Nat := E.countP fun e => S e
theorem cnt_at {E : List Nat} {S : Nat → Bool} {i : Nat} (h : ∀ e ∈ E, (S e = true ∧ e < i) ∨ (S e = false ∧ i ≤ e)) : cntS E S = phI E i := by
  unfold cntS phI
  refine List.countP_congr fun e he => ?_
  rcases h e he with ⟨h1, h2⟩ | ⟨h1, h2⟩
  · simp [h1, h2]
  · simp [h1]; omega
theorem cnt_upd {E : List Nat} {S : Nat → Bool} {i : Nat} (h : ∀ e ∈ E, (S e = true ∧ e < i) ∨ (S e = false ∧ i ≤ e)) : cntS E (upd S i) = phI E (i + 1) := by
  unfold cntS phI
  refine List.countP_congr fun e he => ?_
  rcases h e he with ⟨h1, h2⟩ | ⟨h1, h2⟩
  · simp [h1]; omega
  · simp [h1]; omega
theorem cnt_same {E : List Nat} {S : Nat → Bool} {i : Nat} (h : ¬ i ∈ E) : cntS E (upd S i) = cntS E S := by
  unfold cntS
  refine List.countP_congr fun e he => ?_
  have : e ≠ i := fun h' => h (h' ▸ he)
  simp [this]
theorem XVH (hb : befsOk ops m bs = true) {gs0 : List (Option Fact)} (hk : marksE P ops m bs (gs0.map Option.isSome) E = true) (hold : ∀ W, Kp w1 W → Agr (fun k => k < w1.heap.size ∧ X k = false) w1 W) (hrefl : ∀ a, Kp a a) {σf : Env} :
    ∀ (l : List Oper) (gs : List (Option Fact)) (i : Nat) (bs' : List (List Nat)) (acc accG : List (Nat × (World → Prop))) (ρ σ τ : Env),
    (∀ k, k < l.length → l[k]? = ops[i + k]?) → (∀ k, k < l.length → gs[k]? = gs0[i + k]?) → gs.length = l.length → i + l.length = m → bs'.length = l.length → (∀ k, k < l.length → bs'[k]? = bs[i + k]?) →
    PAf P X r ds ops.toArray w1 σf l gs σ → GH P r ds ops.toArray w1 Kp bs E Ph T l gs i accG τ →
    (∀ j, j < i → gs0[j]? = some none → ∀ d, dstAt ops j = some d → σ d = σf d ∧ ∃ p ∈ acc, p.1 = j ∧ ∀ W, p.2 W → ρ d = σf d) →
    (∀ j A, j < i → gs0[j]? = some (some A) → ∀ d, dstAt ops j = some d → τ d = ρ d) →
    (∀ t, (∀ j, j < i → dstAt ops j ≠ some t) → ρ t = σ t) →
    (∀ t, (∀ j A, j < i → gs0[j]? = some (some A) → dstAt ops j ≠ some t) → τ t = σf t) →
    (∀ p ∈ accG, ∃ q ∈ acc, q.1 = p.1 ∧ ∀ W, q.2 W → p.2 W) →
    VA P r ds Kp (fun S W => Ph (cntS E S) W) bs w1 ops.toArray T l (factsOf σf l gs) bs' i acc ρ
  | [], [], i, [], acc, accG, ρ, σ, τ, _, _, _, hm, _, _, hf, hg, I1, I2, I3, I4, I5 => by
    intro S w' hK hG hS hacc
    unfold GH at hg
    have hσ : σ = σf := by unfold PAf at hf; exact hf
    have e : τ = ρ := by
      funext t
      by_cases h1 : ∃ j A, j < i ∧ gs0[j]? = some (some A) ∧ dstAt ops j = some t
      · obtain ⟨j, A, hj, hA, hd⟩ := h1
        exact I2 j A hj hA t hd
      · rw [I4 t fun j A hj hA hd => h1 ⟨j, A, hj, hA, hd⟩]
        by_cases h2 : ∃ j, j < i ∧ dstAt ops j = some t
        · obtain ⟨j, hj, hd⟩ := h2
          have hn : gs0[j]? = some none := by
            have hk2 : j < gs0.length := by
              unfold marksE at hk
              simp only [Bool.and_eq_true, decide_eq_true_eq, List.length_map] at hk
              have := hk.1.1
              simp at hm; omega
            cases hg0 : gs0[j]? with
            | none => simp at hg0; omega
            | some o => cases o with
              | none => rfl
              | some A => exact (h1 ⟨j, A, hj, hg0, hd⟩).elim
          obtain ⟨_, p, hp, _, hpw⟩ := I1 j hj hn t hd
          exact (hpw w' (hacc p hp)).symm
        · rw [I3 t fun j hj hd => h2 ⟨j, hj, hd⟩, hσ]
    rw [← e]
    refine hg w' hK ?_ fun p hp => by obtain ⟨q, hq, _, h⟩ := I5 p hp; exact h _ (hacc q hq)
    have hall : cntS E S = E.length := by
      unfold cntS
      rw [List.countP_eq_length]
      intro e he
      have h2 := hk
      unfold marksE at h2
      simp only [Bool.and_eq_true, List.all_eq_true, decide_eq_true_eq] at h2
      have := (h2.1.2.1 e he).1
      exact hS e (by simp at hm; omega)
    rw [← hall]; exact hG
  | [], _ :: _, _, _, _, _, _, _, _, _, _, h, _, _, _, _, _, _, _, _, _, _ => by simp at h
  | [], [], _, _ :: _, _, _, _, _, _, _, _, _, _, h, _, _, _, _, _, _, _, _ => by simp at h
  | _ :: _, [], _, _, _, _, _, _, _, _, _, h, _, _, _, _, _, _, _, _, _, _ => by simp at h
  | _ :: _, _ :: _, _, [], _, _, _, _, _, _, _, _, _, h, _, _, _, _, _, _, _, _ => by simp at h
  | o :: l, g :: gs, i, b :: bs', acc, accG, ρ, σ, τ, hl, hgs, hgl, hm, hbl, hbs, hf, hg, I1, I2, I3, I4, I5 => by
    have hi : i < m := by simp at hm; omega
    have ho : ops[i]? = some o := by have := hl 0 (by simp); simpa using this.symm
    have hgi : gs0[i]? = some g := by have := hgs 0 (by simp); simpa using this.symm
    have hbi : bsAt bs i = b := by
      have := hbs 0 (by simp)
      simp at this
      unfold bsAt; rw [List.getD_eq_getElem?_getD, ← this]; rfl
    obtain ⟨o', ho', -, hb3, hb4, hb5, hb6⟩ := befsOk_head hb hi
    rw [ho] at ho'; cases ho'
    have hmk : (match ops[i]?, (gs0.map Option.isSome)[i]? with
      | some o, some false => plain o.op && (autoOp P o.op && (o.dst.isSome && ((tmpsOf o).all (fun t => (List.range m).all fun j => !((gs0.map Option.isSome).getD j false) || dstAt ops j != some t) && (match o.guard with | none => true | some (j, _) => !((gs0.map Option.isSome).getD j false)))))
      | some o, some true => (tmpsOf o).all (fun t => (List.range m).all fun j => dstAt ops j != some t || (bsAt bs i).contains j)
      | _, _ => false) = true := by
      unfold marksE at hk
      rw [Bool.and_eq_true] at hk
      exact List.all_eq_true.1 hk.2 i (by simpa using hi)
    have hgs0l : gs0.length = m := by
      unfold marksE at hk
      simp only [Bool.and_eq_true, decide_eq_true_eq, List.length_map] at hk
      exact hk.1.1
    have hE : ∀ k, k < m → k ∈ E → ordB bs E k = true := by
      intro k hk1 hk2
      have h2 := hk
      unfold marksE at h2
      rw [Bool.and_eq_true, Bool.and_eq_true, Bool.and_eq_true] at h2
      have h3 := List.all_eq_true.1 h2.1.2.2 k (by simpa using hk1)
      rw [List.contains_iff_mem.2 hk2] at h3
      simpa using h3
    have hEm : ∀ e ∈ E, e < m ∧ (gs0.map Option.isSome).getD e false = true := by
      intro e he
      have h2 := hk
      unfold marksE at h2
      rw [Bool.and_eq_true, Bool.and_eq_true, Bool.and_eq_true] at h2
      have h3 := List.all_eq_true.1 h2.1.2.1 e he
      rw [Bool.and_eq_true] at h3
      exact ⟨by simpa using h3.1, h3.2⟩
    have isG : ∀ j A, gs0[j]? = some (some A) → (gs0.map Option.isSome).getD j false = true := fun j A h => by
      rw [List.getD_eq_getElem?_getD, List.getElem?_map, h]; rfl
    have kind : ∀ j, j < m → gs0[j]? = some none ∨ ∃ A, gs0[j]? = some (some A) := fun j hj => by
      cases hg0 : gs0[j]? with
      | none => simp at hg0; omega
      | some x => cases x with
        | none => exact .inl rfl
        | some A => exact .inr ⟨A, rfl⟩
    rw [ho] at hmk
    have hmk' : (gs0.map Option.isSome)[i]? = some g.isSome := by rw [List.getElem?_map, hgi]; rfl
    rw [hmk'] at hmk
    -- the tail's premises
    have tl : ∀ k, k < l.length → l[k]? = ops[i + 1 + k]? := fun k hk => by
      have := hl (k + 1) (by simpa using hk)
      rw [List.getElem?_cons_succ] at this
      rw [this]; congr 1; omega
    have tg : ∀ k, k < l.length → gs[k]? = gs0[i + 1 + k]? := fun k hk => by
      have := hgs (k + 1) (by simpa using hk)
      rw [List.getElem?_cons_succ] at this
      rw [this]; congr 1; omega
    have tb : ∀ k, k < l.length → bs'[k]? = bs[i + 1 + k]? := fun k hk => by
      have := hbs (k + 1) (by simpa using hk)
      rw [List.getElem?_cons_succ] at this
      rw [this]; congr 1; omega
    have later : ∀ o' ∈ o :: l, ∃ j, i ≤ j ∧ j < m ∧ ops[j]? = some o' := fun o' ho' => by
      obtain ⟨k, hk⟩ := List.mem_iff_getElem?.1 ho'
      have hkl : k < (o :: l).length := (List.getElem?_eq_some_iff.1 hk).1
      exact ⟨i + k, by omega, by simp at hm hkl; omega, by rw [← hl k hkl]; exact hk⟩
    cases g with
    | none =>
      simp only [Option.isSome_none, Bool.and_eq_true] at hmk
      obtain ⟨hpl, hau, hds, hop, hgd⟩ := hmk
      obtain ⟨d, hd⟩ := Option.isSome_iff_exists.1 hds
      have hdi : dstAt ops i = some d := by rw [dstAt_get, ho]; exact hd
      obtain ⟨c, hc, hf'⟩ := hf
      have hfd : σf d = c := by
        rw [PAf_other l gs _ hf' d ?_, hd]
        · simp
        · intro o' ho' hd'
          obtain ⟨j, h1, h2, h3⟩ := later o' (by simp [ho'])
          have hdj : dstAt ops j = some d := by rw [dstAt_get, h3]; exact hd'
          have hij := head_uniq hb hi h2 hdi hdj
          obtain ⟨k, hk⟩ := List.mem_iff_getElem?.1 ho'
          have hkl : k < l.length := (List.getElem?_eq_some_iff.1 hk).1
          have hdk : dstAt ops (i + 1 + k) = some d := by rw [dstAt_get, ← tl k hkl, hk]; exact hd'
          have := head_uniq hb hi (show i + 1 + k < m by simp at hm; omega) hdi hdk
          omega
      have hnst : ¬ i ∈ E := fun e => by
        have h1 := (hEm i e).2
        rw [List.getD_eq_getElem?_getD, List.getElem?_map, hgi] at h1
        cases h1
      refine ⟨?_, ?_⟩
      · intro S w' hK hG _ hacc
        have hG' : Ph (cntS E (upd S i)) w' := by rw [cnt_same hnst]; exact hG
        have hslot : ∀ t, (∀ j, j < m → dstAt ops j = some t → (j ∈ bsAt bs i ∨ i ∈ bsAt bs j) ∧ gs0[j]? = some none) → σ t = ρ t := by
          intro t ht
          by_cases hx : ∃ j, j < i ∧ dstAt ops j = some t
          · obtain ⟨j, hj, hdj⟩ := hx
            obtain ⟨h1, h2⟩ := ht j (by omega) hdj
            obtain ⟨e1, p, hp, e2, e3⟩ := I1 j hj h2 t hdj
            rcases h1 with h3 | h3
            · rw [e1, e3 w' (hacc p hp (by rw [e2, ← hbi]; exact h3))]
            · have hjm : j < m := by omega
              obtain ⟨oj, _, _, hbj, _⟩ := befsOk_head hb hjm
              have := (hbj i h3).1
              omega
          · exact (I3 t fun j hj hdj => hx ⟨j, hj, hdj⟩).symm
        have hops : ∀ t ∈ tmpsOf o, σ t = ρ t := fun t ht => hslot t fun j hj hdj => ⟨hb4 t ht j hj hdj, by
          rcases kind j hj with h | ⟨A, h⟩
          · exact h
          · have := List.all_eq_true.1 (List.all_eq_true.1 hop t ht) j (by simpa using hj)
            rw [isG j A h, hdj] at this
            simp at this⟩
        have hgw : gw ops.toArray σ o.guard = gw ops.toArray ρ o.guard := by
          refine gw_env fun j b' hg' dj hdj => hslot dj fun k hkm hk2 => ?_
          have hj1 := hb5 j b' hg'
          have hj2 := (hb3 j hj1).1
          have := head_uniq hb hkm (by omega) hk2 hdj
          subst this
          refine ⟨.inl hj1, ?_⟩
          rcases kind k hkm with h | ⟨A, h⟩
          · exact h
          · rw [hg'] at hgd
            simp only [isG k A h] at hgd
            cases hgd
        rw [← hgw]
        cases hgv : gw ops.toArray σ o.guard with
        | true =>
          rw [hgv, GI_true] at hc
          rw [GI_true]
          obtain ⟨hxv, hc⟩ := hc
          rw [xV_env hops] at hxv
          have h1 := VO_env (k := fun v ds'' _ => ds'' = ds ∧ v = c) (ρ' := ρ) hops hc
          have h2 : VO P r o (fun ρ'' ds'' _ => ds'' = ds ∧ dv ρ'' o.dst = c) (fun _ _ _ _ => False) ρ ds w1 := VO_mono (fun v ds' w' h => h.1) h1
          have h3 := VO_alike (k := fun v ds'' => ds'' = ds ∧ v = c) hau hxv (hold w' hK) h2
          refine VO_mono (fun v ds' w'' h => ⟨h.2.1, by rw [h.1]; exact hrefl _, ?_, by rw [h.1]; exact hG'⟩) h3
          show dv (put ρ o.dst v) o.dst = dv σf o.dst
          rw [h.2.2, hd]
          exact hfd.symm
        | false =>
          rw [hgv, GI_false] at hc
          rw [GI_false]
          refine ⟨?_, hG'⟩
          show undef = dv σf o.dst
          rw [hd]; exact hc.symm.trans hfd.symm
      · intro v
        refine XVH hb hk hold hrefl l gs (i + 1) bs' _ accG (put ρ o.dst v) (put σ o.dst c) τ tl tg (by simpa using hgl) (by simp at hm; omega) (by simpa using hbl) tb hf' (by unfold GH at hg; exact hg) ?_ ?_ ?_ ?_ ?_
        · intro j hj hjn d' hd'
          rw [hd]
          by_cases hji : j = i
          · subst hji
            rw [hdi] at hd'; cases hd'
            refine ⟨by simp [hfd], _, List.mem_append_right _ (List.mem_singleton.2 rfl), rfl, fun W hW => ?_⟩
            have hW' : v = dv σf (some d) := hW
            rw [hW']; simp
          · have hne : d' ≠ d := by
              rintro rfl
              exact hji (head_uniq hb (by omega) hi hd' hdi)
            obtain ⟨e1, p, hp, e2, e3⟩ := I1 j (by omega) hjn d' hd'
            exact ⟨by simpa [hne] using e1, p, List.mem_append_left _ hp, e2, fun W hW => by simpa [hne] using e3 W hW⟩
        · intro j A hj hA d' hd'
          have hji : j ≠ i := fun e => by subst e; rw [hgi] at hA; cases hA
          have hne : d' ≠ d := by
            rintro rfl
            exact hji (head_uniq hb (by omega) hi hd' hdi)
          rw [hd]
          simpa [hne] using I2 j A (by omega) hA d' hd'
        · intro t ht
          have hne : t ≠ d := by
            rintro rfl
            exact ht i (by omega) hdi
          rw [hd]
          simpa [hne] using I3 t fun j hj => ht j (by omega)
        · intro t ht
          exact I4 t fun j A hj hA => ht j A (by omega) hA
        · intro p hp
          obtain ⟨q, hq, h⟩ := I5 p hp
          exact ⟨q, List.mem_append_left _ hq, h⟩
    | some A =>
      simp only [Option.isSome_some] at hmk
      unfold PAf at hf
      obtain ⟨hg1, hg2⟩ := hg
      have hτ : ∀ W, (∀ p ∈ acc, p.1 ∈ b → p.2 W) → ∀ t, (∀ j, j < m → dstAt ops j = some t → j ∈ bsAt bs i) → τ t = ρ t := by
        intro W hacc t ht
        by_cases hx : ∃ j, j < m ∧ dstAt ops j = some t
        · obtain ⟨j, hj, hdj⟩ := hx
          have hjb := ht j hj hdj
          have hji := (hb3 j hjb).1
          rcases kind j hj with h | ⟨B, h⟩
          · obtain ⟨e1, p, hp, e2, e3⟩ := I1 j hji h t hdj
            rw [e3 W (hacc p hp (by rw [e2, ← hbi]; exact hjb))]
            refine I4 t fun k B hk hB hdk => ?_
            have := head_uniq hb (by omega) hj hdk hdj
            subst this
            rw [h] at hB; cases hB
          · exact I2 j B hji h t hdj
        · rw [I4 t fun k B hk hB hdk => hx ⟨k, by omega, hdk⟩, I3 t fun j hj hdj => hx ⟨j, by omega, hdj⟩]
          refine (PAf_other l gs _ hf t ?_).trans ?_
          · intro o' ho' hd'
            obtain ⟨j, h1, h2, h3⟩ := later o' (by simp [ho'])
            exact hx ⟨j, h2, by rw [dstAt_get, h3]; exact hd'⟩
          · cases hd : o.dst with
            | none => rfl
            | some d =>
              have : t ≠ d := by
                rintro rfl
                exact hx ⟨i, hi, by rw [dstAt_get, ho]; exact hd⟩
              simp [this]
      refine ⟨?_, ?_⟩
      · intro S W hK hG hn hacc
        have hph : ordB bs E i = true → ∀ e ∈ E, (S e = true ∧ e < i) ∨ (S e = false ∧ i ≤ e) := fun ho e he => by
          have h0 : e ∈ bsAt bs i ∨ e = i ∨ i ∈ bsAt bs e := by
            unfold ordB at ho
            simpa using List.all_eq_true.1 ho e he
          rcases h0 with h | h | h
          · exact .inl ⟨hn.2.1 e h, (hb3 e h).1⟩
          · exact .inr ⟨by rw [h]; exact hn.1, by omega⟩
          · refine .inr ⟨hn.2.2 e h, ?_⟩
            obtain ⟨oe, _, _, hbe, _⟩ := befsOk_head hb (hEm e he).1
            have := (hbe i h).1
            omega
        have hk1 : ordB bs E i = true → cntS E S = phI E i ∧ cntS E (upd S i) = phI E (i + 1) := fun ho => ⟨cnt_at (hph ho), cnt_upd (hph ho)⟩
        have hk2 : ordB bs E i = false → cntS E (upd S i) = cntS E S := fun ho => cnt_same fun hin => by rw [hE i hi hin] at ho; cases ho
        have hops : ∀ t ∈ tmpsOf o, τ t = ρ t := fun t ht => hτ W hacc t fun j hj hdj => by
          have := List.all_eq_true.1 (List.all_eq_true.1 hmk t ht) j (by simpa using hj)
          rw [hdj] at this
          simpa using this
        have hgw : gw ops.toArray τ o.guard = gw ops.toArray ρ o.guard := by
          refine gw_env fun j b' hg' dj hdj => hτ W hacc dj fun k hkm hk2 => ?_
          have hj1 := hb5 j b' hg'
          have hj2 := (hb3 j hj1).1
          have := head_uniq hb hkm (by omega) hk2 hdj
          subst this
          exact hj1
        have hfa : ∀ p ∈ accG, (bsAt bs i).contains p.1 = true → p.2 W := fun p hp hpc => by
          obtain ⟨q, hq, e, h⟩ := I5 p hp
          refine h W (hacc q hq ?_)
          rw [e, ← hbi]; simpa using hpc
        have h := hg1 _ _ W hk1 hk2 hK hG hfa
        rw [← hgw]
        cases hgv : gw ops.toArray τ o.guard with
        | true =>
          rw [hgv, GI_true] at h
          rw [GI_true]
          have h1 := VO_env (k := fun v ds'' w'' => ds'' = ds ∧ Kp W w'' ∧ A v w'' ∧ Ph (cntS E (upd S i)) w'') (ρ' := ρ) hops h
          refine VO_mono (fun v ds' w'' h => ?_) h1
          exact ⟨h.1.1, h.1.2.1, h.1.2.2.1, h.1.2.2.2⟩
        | false =>
          rw [hgv, GI_false] at h
          rw [GI_false]
          exact ⟨h.1, h.2⟩
      · intro v
        refine XVH hb hk hold hrefl l gs (i + 1) bs' _ ((i, A v) :: accG) (put ρ o.dst v) (put σ o.dst undef) (put τ o.dst v) tl tg (by simpa using hgl) (by simp at hm; omega) (by simpa using hbl) tb hf (hg2 v) ?_ ?_ ?_ ?_ ?_
        · intro j hj hjn d' hd'
          have hji : j ≠ i := fun e => by subst e; rw [hgi] at hjn; cases hjn
          obtain ⟨e1, p, hp, e2, e3⟩ := I1 j (by omega) hjn d' hd'
          have hne : o.dst ≠ some d' := fun e => hji (head_uniq hb (by omega) hi hd' (by rw [dstAt_get, ho]; exact e))
          cases hd : o.dst with
          | none => exact ⟨e1, p, List.mem_append_left _ hp, e2, e3⟩
          | some d =>
            have hne' : d' ≠ d := fun e => hne (by rw [hd, e])
            exact ⟨by simpa [hne'] using e1, p, List.mem_append_left _ hp, e2, fun W hW => by simpa [hne'] using e3 W hW⟩
        · intro j B hj hB d' hd'
          by_cases hji : j = i
          · subst hji
            have : o.dst = some d' := by rw [dstAt_get, ho] at hd'; exact hd'
            rw [this]; simp
          · have hne : o.dst ≠ some d' := fun e => hji (head_uniq hb (by omega) hi hd' (by rw [dstAt_get, ho]; exact e))
            cases hd : o.dst with
            | none => exact I2 j B (by omega) hB d' hd'
            | some d =>
              have hne' : d' ≠ d := fun e => hne (by rw [hd, e])
              simpa [hne'] using I2 j B (by omega) hB d' hd'
        · intro t ht
          have hne : o.dst ≠ some t := fun e => ht i (by omega) (by rw [dstAt_get, ho]; exact e)
          cases hd : o.dst with
          | none => exact I3 t fun j hj => ht j (by omega)
          | some d =>
            have hne' : t ≠ d := fun e => hne (by rw [hd, e])
            simpa [hne'] using I3 t fun j hj => ht j (by omega)
        · intro t ht
          have hne : o.dst ≠ some t := fun e => ht i A (by omega) hgi (by rw [dstAt_get, ho]; exact e)
          cases hd : o.dst with
          | none => exact I4 t fun j B hj hB => ht j B (by omega) hB
          | some d =>
            have hne' : t ≠ d := fun e => hne (by rw [hd, e])
            simpa [hne'] using I4 t fun j B hj hB => ht j B (by omega) hB
        · intro p hp
          rcases List.mem_cons.1 hp with rfl | hp
          · exact ⟨_, List.mem_append_right _ (List.mem_singleton.2 rfl), rfl, fun W h => h⟩
          · obtain ⟨q, hq, h⟩ := I5 p hp
            exact ⟨q, List.mem_append_left _ hq, h⟩
/-- A STATEMENT WHOSE ORDER IS OPEN: gs: of each of the first m operations: none: it is alike in all worlds that go on (Kp); some A: what it gives, and lays. -/
theorem WC_drawH {n : Nat} {id : Nat} {Q : Post} {ρ : Env} {w : World} (m : Nat) (X : Nat → Bool) (E : List Nat) (Ph : Nat → World → Prop) (gs : List (Option Fact)) (Kp : World → World → Prop) (hm : P.follows .mixedOrders = true)
    (hb : (befsOk ops m (befs ops m) && marksE P ops m (befs ops m) (gs.map Option.isSome) E) = true)
    (hrefl : ∀ a, Kp a a) (htrans : ∀ a b c, Kp a b → Kp b c → Kp a c) (hold : ∀ W, Kp w.drew W → Agr (fun k => k < w.drew.heap.size ∧ X k = false) w.drew W) (hP0 : Ph 0 w.drew) (hstab : ∀ A, some A ∈ gs → ∀ v a b, A v a → Kp a b → A v b)
    (h : ∀ W, Dr w W → PA P X r ds ops.toArray W (fun σ => GH P r ds ops.toArray W Kp (befs ops m) E Ph (fun ρ' w' => VL P r ops.toArray Q (ops.drop m) ρ' ds w') (ops.take m) gs 0 [] σ) (ops.take m) gs ρ) :
    WC P n r (.region id ops.toArray true) Q ρ ds w := by
  rw [Bool.and_eq_true] at hb
  obtain ⟨hb, hk⟩ := hb
  obtain ⟨hbl, hml⟩ := befsOk_bs hb
  have hgl : gs.length = m := by
    have h2 := hk
    unfold marksE at h2
    simp only [Bool.and_eq_true, decide_eq_true_eq, List.length_map] at h2
    exact h2.1.1
  have hlen : (ops.take m).length = m := by simp; omega
  obtain ⟨σf, hR, hf⟩ := PA_PAf (ops.take m) gs ρ (fun k o ho hg => by
    have hkm : k < m := by have := (List.getElem?_eq_some_iff.1 ho).1; simp at this; omega
    rw [List.getElem?_take, if_pos hkm] at ho
    have h2 := hk
    unfold marksE at h2
    rw [Bool.and_eq_true] at h2
    have h3 := List.all_eq_true.1 h2.2 k (by simpa using hkm)
    rw [ho, List.getElem?_map, hg] at h3
    simp only [Option.map_some, Option.isSome_none, Bool.and_eq_true] at h3
    exact ⟨h3.1, h3.2.2.1⟩) (h _ rfl)
  refine WC_draw m (befs ops m) (factsOf σf (ops.take m) gs) Kp hm hb (by rw [factsOf_length _ _ _ (by rw [hlen, hgl]), hlen]) (G := fun S W => Ph (cntS E S) W) (w0 := w.drew) (hrefl _) hrefl htrans ?_ (by
    show Ph (cntS E fun _ => false) _
    rw [show (cntS E fun _ => false) = 0 from by unfold cntS; simp]
    exact hP0) ?_
  · intro A hA v a b h1 h2
    rcases factsOf_mem _ _ _ hA with ⟨d, rfl⟩ | hA
    · exact h1
    · exact hstab A hA v a b h1 h2
  · exact XVH hb hk hold hrefl (ops.take m) gs 0 (befs ops m) [] [] ρ ρ σf (fun k hk => by rw [List.getElem?_take, if_pos (by simp at hk; omega)]; simp) (fun k hk => by simp) (by rw [hlen, hgl]) (by rw [hlen]; omega) (by rw [hbl, hlen]) (fun k hk => by simp) hf hR
      (fun j hj => by omega) (fun j A hj => by omega) (fun t _ => rfl) (fun t _ => rfl) (fun p hp => by simp at hp)
end
end Pk
