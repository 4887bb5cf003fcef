/-
  The engine, part H: a statement whose order is open and whose operations change nothing; marks; .
-/
import Derived.Test.YthamfghcfjhifaaGreatDoorEngG
namespace Pk
open Go

theorem onR_det {x : Result Value} {d : Option Tmp} {K : Cont} {ρ : Env} {ds : List Deferred} (h : onR x fun v w' => K (put ρ d v) ds w') :
    ∃ v w', K (put ρ d v) ds w' ∧ ∀ K' : Cont, K' (put ρ d v) ds w' → onR x fun v w' => K' (put ρ d v) ds w' := by
  cases x with
  | ok v w' => exact ⟨v, w', h, fun _ h' => h'⟩
  | halt e w' => exact h.elim
theorem onU_det {x : Result Unit} {d : Option Tmp} {K : Cont} {ρ : Env} {ds : List Deferred} (h : onU x fun w' => K (put ρ d undef) ds w') :
    ∃ v w', K (put ρ d v) ds w' ∧ ∀ K' : Cont, K' (put ρ d v) ds w' → onU x fun w' => K' (put ρ d undef) ds w' := by
  cases x with
  | ok v w' => exact ⟨undef, w', h, fun _ h' => h'⟩
  | halt e w' => exact h.elim
def plain : Op → Bool
  | .call ⟨.value _, _, _⟩ | .call ⟨.invoke .., _, _⟩ | .defer _ | .panic _ => false
  | _ => true
theorem VO_det {P : Program} {r : Option Nat} {o : Oper} {K : Cont} {Q : Post} {ρ : Env} {ds : List Deferred} {w : World} (hp : plain o.op = true) (h : VO P r o K Q ρ ds w) :
    ∃ v w', K (put ρ o.dst v) ds w' ∧ ∀ (K' : Cont) (Q' : Post), K' (put ρ o.dst v) ds w' → VO P r o K' Q' ρ ds w := by
  obtain ⟨dst, op, ty, pos, aft, gd⟩ := o
  have ofR : ∀ {x : Result Value}, onR x (fun v w' => K (put ρ dst v) ds w') → (∀ (K' : Cont) (Q' : Post), onR x (fun v w' => K' (put ρ dst v) ds w') → VO P r ⟨dst, op, ty, pos, aft, gd⟩ K' Q' ρ ds w) →
      ∃ v w', K (put ρ dst v) ds w' ∧ ∀ (K' : Cont) (Q' : Post), K' (put ρ dst v) ds w' → VO P r ⟨dst, op, ty, pos, aft, gd⟩ K' Q' ρ ds w := by
    intro x hx hb
    obtain ⟨v, w', h1, h2⟩ := onR_det hx
    exact ⟨v, w', h1, fun K' Q' h' => hb K' Q' (h2 K' h')⟩
  have ofU : ∀ {x : Result Unit}, onU x (fun w' => K (put ρ dst undef) ds w') → (∀ (K' : Cont) (Q' : Post), onU x (fun w' => K' (put ρ dst undef) ds w') → VO P r ⟨dst, op, ty, pos, aft, gd⟩ K' Q' ρ ds w) →
      ∃ v w', K (put ρ dst v) ds w' ∧ ∀ (K' : Cont) (Q' : Post), K' (put ρ dst v) ds w' → VO P r ⟨dst, op, ty, pos, aft, gd⟩ K' Q' ρ ds w := by
    intro x hx hb
    obtain ⟨v, w', h1, h2⟩ := onU_det hx
    exact ⟨v, w', h1, fun K' Q' h' => hb K' Q' (h2 K' h')⟩
  cases op with
  | call c =>
    obtain ⟨callee, args, ats⟩ := c
    cases callee with
    | value f => cases hp
    | invoke x m => cases hp
    | builtin b => exact ofR h fun _ _ h' => h'
  | defer c => cases hp
  | panic x => cases hp
  | move x => exact ⟨_, _, h, fun _ _ h' => h'⟩
  | assign x => exact ⟨_, _, h, fun _ _ h' => h'⟩
  | makeFunc fn first caps => exact ⟨_, _, h, fun _ _ h' => h'⟩
  | box t x => exact ofR (x := (Instr.box t (ev ρ x)).run P w) h fun _ _ h' => h'
  | _ => first | exact ofR h fun _ _ h' => h' | exact ofU h fun _ _ h' => h' | exact (show False from h).elim

/-- The head, in the text's order, nothing being changed. -/
def PL (P : Program) (r : Option Nat) (ds : List Deferred) (ops : Array Oper) (w1 : World) (T : Env → Prop) : List Oper → Env → Prop
  | [], σ => T σ
  | o :: os, σ => GI (gw ops σ o.guard) (VO P r o (fun ρ'' ds'' w'' => (ds'' = ds ∧ w'' = w1) ∧ PL P r ds ops w1 T os ρ'') (fun _ _ _ _ => False) σ ds w1) (PL P r ds ops w1 T os (put σ o.dst undef))
def PLt (P : Program) (r : Option Nat) (ds : List Deferred) (ops : Array Oper) (w1 : World) (T : Env → Prop) (l : List Oper) (_ : Tok (PProd.mk ops (PProd.mk T l))) (σ : Env) : Prop := PL P r ds ops w1 T l σ
@[simp ↓] theorem PL_tok (P : Program) (r : Option Nat) (ds : List Deferred) (ops : Array Oper) (w1 : World) (T : Env → Prop) (l : List Oper) (σ : Env) : PL P r ds ops w1 T l σ = PLt P r ds ops w1 T l .mk σ := _root_.id rfl
@[simp] theorem PLt_nil (P : Program) (r : Option Nat) (ds : List Deferred) (ops : Array Oper) (w1 : World) (T : Env → Prop) (t) (σ : Env) : PLt P r ds ops w1 T [] t σ = T σ := _root_.id rfl
@[simp] theorem PLt_cons (P : Program) (r : Option Nat) (ds : List Deferred) (ops : Array Oper) (w1 : World) (T : Env → Prop) (o : Oper) (os : List Oper) (t) (σ : Env) :
    PLt P r ds ops w1 T (o :: os) t σ = GIt (gw ops σ o.guard) (VO P r o (fun ρ'' ds'' w'' => (ds'' = ds ∧ w'' = w1) ∧ PL P r ds ops w1 T os ρ'') (fun _ _ _ _ => False) σ ds w1) (PL P r ds ops w1 T os (put σ o.dst undef)) .mk := _root_.id rfl

def PCs (P : Program) (r : Option Nat) (ds : List Deferred) (ops : Array Oper) (w1 : World) (T : Env → Prop) : List Oper → List Value → Env → Prop
  | o :: os, c :: cs, σ => GI (gw ops σ o.guard) (VO P r o (fun ρ'' ds'' w'' => ds'' = ds ∧ w'' = w1 ∧ dv ρ'' o.dst = c) (fun _ _ _ _ => False) σ ds w1) (c = undef) ∧ PCs P r ds ops w1 T os cs (put σ o.dst c)
  | [], [], σ => T σ
  | _, _, _ => False
section
variable {P : Program} {r : Option Nat} {ds : List Deferred} {ops : List Oper} {w1 : World} {T : Env → Prop} {m : Nat} {bs : List (List Nat)}
theorem PCs_length : ∀ {l : List Oper} {cs : List Value} {σ : Env}, PCs P r ds ops.toArray w1 T l cs σ → cs.length = l.length
  | [], [], _, _ => rfl
  | [], _ :: _, _, h => h.elim
  | _ :: _, [], _, h => h.elim
  | _ :: _, _ :: _, _, h => congrArg (· + 1) (PCs_length h.2)
theorem PL_PCs : ∀ (l : List Oper) (σ : Env), (∀ o ∈ l, plain o.op = true ∧ o.dst.isSome = true) → PL P r ds ops.toArray w1 T l σ → ∃ cs, PCs P r ds ops.toArray w1 T l cs σ
  | [], _, _, h => ⟨[], h⟩
  | o :: l, σ, hp, h => by
    obtain ⟨d, hd⟩ := Option.isSome_iff_exists.1 (hp o (by simp)).2
    unfold PL at h
    cases hg : gw ops.toArray σ o.guard with
    | true =>
      rw [hg, GI_true] at h
      obtain ⟨v, w', ⟨⟨h1, h2⟩, h3⟩, h4⟩ := VO_det (hp o (by simp)).1 h
      obtain ⟨cs, hcs⟩ := PL_PCs l _ (fun o ho => hp o (by simp [ho])) h3
      refine ⟨v :: cs, ?_, hcs⟩
      rw [hg, GI_true]
      refine h4 _ _ ⟨rfl, h2, ?_⟩
      rw [hd]; simp
    | false =>
      rw [hg, GI_false] at h
      obtain ⟨cs, hcs⟩ := PL_PCs l _ (fun o ho => hp o (by simp [ho])) h
      refine ⟨undef :: cs, ?_, hcs⟩
      rw [hg, GI_false]
theorem PCs_VA {bs0 : List (List Nat)} (hb : befsOk ops m bs = true) : ∀ (l : List Oper) (cs : List Value) (i : Nat) (bs' : List (List Nat)) (acc : List (Nat × (World → Prop))) (ρ σ : Env),
    (∀ o ∈ l, plain o.op = true ∧ o.dst.isSome = true) → (∀ k, k < l.length → l[k]? = ops[i + k]?) → i + l.length = m → bs'.length = l.length → (∀ k, k < l.length → bs'[k]? = bs[i + k]?) →
    PCs P r ds ops.toArray w1 T l cs σ →
    (∀ j, j < i → ∀ d, dstAt ops j = some d → ∃ p ∈ acc, p.1 = j ∧ ∀ w', p.2 w' → ρ d = σ d) →
    (∀ t, (∀ j, j < i → dstAt ops j ≠ some t) → ρ t = σ t) →
    VA P r ds (fun a b => a = b) (fun _ _ => True) bs0 w1 ops.toArray (fun ρ w' => w1 = w' ∧ T ρ) l (cs.map fun c v _ => v = c) bs' i acc ρ
  | [], [], i, [], acc, ρ, σ, _, _, _, _, _, h, ha, hr => by
    intro S w' hk _ _ hacc
    refine ⟨hk, ?_⟩
    have : ρ = σ := by
      funext t
      by_cases ht : ∃ j, j < i ∧ dstAt ops j = some t
      · obtain ⟨j, hj, hd⟩ := ht
        obtain ⟨p, hp, _, h2⟩ := ha j hj t hd
        exact h2 w' (hacc p hp)
      · exact hr t fun j hj hd => ht ⟨j, hj, hd⟩
    rw [this]; exact h
  | [], _ :: _, _, _, _, _, _, _, _, _, _, _, h, _, _ => h.elim
  | [], [], _, _ :: _, _, _, _, _, _, _, h, _, _, _, _ => by simp at h
  | _ :: _, [], _, _, _, _, _, _, _, _, _, _, h, _, _ => h.elim
  | _ :: _, _ :: _, _, [], _, _, _, _, _, _, h, _, _, _, _ => by simp at h
  | o :: l, c :: cs, i, b :: bs', acc, ρ, σ, hp, hl, hm, hbl, hbs, h, ha, hr => by
    have hi : i < m := by simp at hm; omega
    have ho : ops[i]? = some o := by have := hl 0 (by simp); simpa using this.symm
    have hbi : bsAt bs i = b := by
      have := hbs 0 (by simp)
      simp at this
      unfold bsAt; rw [List.getD_eq_getElem?_getD, ← this]; rfl
    obtain ⟨o', ho', -, hb3, hb4, hb5, hb6⟩ := befsOk_head hb hi
    rw [ho] at ho'; cases ho'
    obtain ⟨d, hd⟩ := Option.isSome_iff_exists.1 (hp o (by simp)).2
    have hdi : dstAt ops i = some d := by rw [dstAt_get, ho]; exact hd
    refine ⟨?_, ?_⟩
    · intro S w' hk _ _ hacc
      subst hk
      have hslot : ∀ t, (∀ j, j < m → dstAt ops j = some t → j ∈ bsAt bs i ∨ i ∈ bsAt bs j) → σ t = ρ t := by
        intro t ht
        by_cases hx : ∃ j, j < i ∧ dstAt ops j = some t
        · obtain ⟨j, hj, hdj⟩ := hx
          obtain ⟨p, hp, h1, h2⟩ := ha j hj t hdj
          rcases ht j (by omega) hdj with h3 | h3
          · exact (h2 _ (hacc p hp (by rw [h1, ← hbi]; exact h3))).symm
          · have hjm : j < m := by omega
            obtain ⟨oj, _, _, hbj, _⟩ := befsOk_head hb hjm
            have := (hbj i h3).1
            omega
        · exact (hr t fun j hj hdj => hx ⟨j, hj, hdj⟩).symm
      have hgw : gw ops.toArray σ o.guard = gw ops.toArray ρ o.guard := by
        refine gw_env fun j b' hg dj hdj => hslot dj fun k hkm hk2 => ?_
        have hj1 := hb5 j b' hg
        have hj2 := (hb3 j hj1).1
        have := head_uniq hb hkm (by omega) hk2 hdj
        subst this
        exact .inl hj1
      have hs := h.1
      rw [← hgw]
      cases hg : gw ops.toArray σ o.guard with
      | true =>
        rw [hg, GI_true] at hs
        rw [GI_true]
        have := VO_env (k := fun v ds'' w'' => ds'' = ds ∧ w'' = w1 ∧ v = c) (ρ' := ρ) (fun t ht => hslot t fun j hj hdj => hb4 t ht j hj hdj) hs
        obtain ⟨v, w', h1, h2⟩ := VO_det (hp o (by simp)).1 this
        exact h2 _ _ ⟨h1.1.1, h1.1.2.1.symm, h1.1.2.2, trivial⟩
      | false =>
        rw [hg, GI_false] at hs
        rw [GI_false]
        exact ⟨hs.symm, trivial⟩
    · intro v
      refine PCs_VA hb l cs (i + 1) bs' _ (put ρ o.dst v) (put σ o.dst c) (fun o ho => hp o (by simp [ho])) ?_ (by simp at hm; omega) (by simpa using hbl) ?_ h.2 ?_ ?_
      · intro k hk
        have := hl (k + 1) (by simpa using hk)
        rw [List.getElem?_cons_succ] at this
        rw [this]; congr 1; omega
      · intro k hk
        have := hbs (k + 1) (by simpa using hk)
        rw [List.getElem?_cons_succ] at this
        rw [this]; congr 1; omega
      · intro j hj d' hd'
        rw [hd]
        by_cases hji : j = i
        · subst hji
          rw [hdi] at hd'; cases hd'
          exact ⟨_, List.mem_append_right _ (List.mem_singleton.2 rfl), rfl, fun w' h' => by simpa using h'⟩
        · have hne : d' ≠ d := by
            rintro rfl
            exact hji (head_uniq hb (by omega) hi hd' hdi)
          obtain ⟨p, hp, h1, h2⟩ := ha j (by omega) d' hd'
          exact ⟨p, List.mem_append_left _ hp, h1, fun w' h' => by simpa [hne] using h2 w' h'⟩
      · intro t ht
        have hne : t ≠ d := by
          rintro rfl
          exact ht i (by omega) hdi
        rw [hd]
        simpa [hne] using hr t fun j hj => ht j (by omega)
/-- What surely lies ahead, reckoned. -/
def befs (ops : List Oper) : Nat → List (List Nat)
  | 0 => []
  | m + 1 => befs ops m ++ [match ops[m]? with | none => [] | some o => (o.after.toList.filter (Region.binds .any)).flatMap fun e => e.on :: bsAt (befs ops m) e.on]
/-- A STATEMENT WHOSE ORDER IS OPEN, AND WHOSE HEAD CHANGES NOTHING. -/
theorem WC_drawP {n : Nat} {id : Nat} {Q : Post} {ρ : Env} {w : World} (m : Nat) (bs : List (List Nat)) (hm : P.follows .mixedOrders = true) (hb : (befsOk ops m bs && (ops.take m).all (fun o => plain o.op && o.dst.isSome)) = true)
    (h : PL P r ds ops.toArray w.drew (fun ρ' => VL P r ops.toArray Q (ops.drop m) ρ' ds w.drew) (ops.take m) ρ) : WC P n r (.region id ops.toArray true) Q ρ ds w := by
  rw [Bool.and_eq_true] at hb
  obtain ⟨hb, hpl⟩ := hb
  obtain ⟨hbl, hml⟩ := befsOk_bs hb
  have hp : ∀ o ∈ ops.take m, plain o.op = true ∧ o.dst.isSome = true := fun o ho => Bool.and_eq_true_iff.1 (List.all_eq_true.1 hpl o ho)
  obtain ⟨cs, hcs⟩ := PL_PCs (ops.take m) ρ hp h
  have hlen := PCs_length hcs
  refine WC_draw m bs (cs.map fun c v _ => v = c) (fun a b => a = b) hm hb (by rw [List.length_map, hlen, List.length_take]; omega) (G := fun _ _ => True) (w0 := w.drew) rfl (fun _ => rfl) (fun a b c h1 h2 => h1.trans h2) ?_ trivial ?_
  · intro A hA v a b h1 _
    obtain ⟨c, _, rfl⟩ := List.mem_map.1 hA
    exact h1
  · have := PCs_VA (bs0 := bs) hb (ops.take m) cs 0 bs [] ρ ρ hp (fun k hk => by rw [List.getElem?_take, if_pos (by simp at hk; omega)]; simp) (by simp; omega) (by simp; omega) (fun k hk => by simp) hcs (fun j hj => by omega) (fun t _ => rfl)
    have hT : ∀ (l : List Oper) As bs' i acc ρ, VA P r ds (fun a b => a = b) (fun _ _ => True) bs w.drew ops.toArray (fun ρ' w' => w.drew = w' ∧ VL P r ops.toArray Q (ops.drop m) ρ' ds w.drew) l As bs' i acc ρ →
        VA P r ds (fun a b => a = b) (fun _ _ => True) bs w.drew ops.toArray (fun ρ' w' => VL P r ops.toArray Q (ops.drop m) ρ' ds w') l As bs' i acc ρ := by
      intro l
      induction l with
      | nil => intro As bs' i acc ρ hv S w' hk hg hS ha; obtain ⟨h1, h2⟩ := hv S w' hk hg hS ha; rw [← h1]; exact h2
      | cons o l ih =>
        intro As bs' i acc ρ hv
        cases As with
        | nil => intro S w' hk hg hS ha; obtain ⟨h1, h2⟩ := hv S w' hk hg hS ha; rw [← h1]; exact h2
        | cons A As =>
          cases bs' with
          | nil => intro S w' hk hg hS ha; obtain ⟨h1, h2⟩ := hv S w' hk hg hS ha; rw [← h1]; exact h2
          | cons b bs' => exact ⟨hv.1, fun v => ih _ _ _ _ _ (hv.2 v)⟩
    exact hT _ _ _ _ _ _ this
theorem WC_drawK {n : Nat} {id : Nat} {Q : Post} {ρ : Env} {w w0 : World} (m : Nat) (bs : List (List Nat)) (As : List (Value → World → Prop)) (Kp : World → World → Prop) (hm : P.follows .mixedOrders = true) (hb : befsOk ops m bs = true) (hAl : As.length = m)
    (hrefl : Kp w0 w.drew) (hrefl' : ∀ a, Kp a a) (htrans : ∀ a b c, Kp a b → Kp b c → Kp a c) (hstab : ∀ A ∈ As, ∀ v a b, A v a → Kp a b → A v b)
    (h : VA P r ds Kp (fun _ _ => True) bs w0 ops.toArray (fun ρ' w' => VL P r ops.toArray Q (ops.drop m) ρ' ds w') (ops.take m) As bs 0 [] ρ) : WC P n r (.region id ops.toArray true) Q ρ ds w :=
  WC_draw m bs As Kp hm hb hAl hrefl hrefl' htrans hstab trivial h
theorem WC_drawQ {n : Nat} {id : Nat} {Q : Post} {ρ : Env} {w : World} (m : Nat) (hm : P.follows .mixedOrders = true) (hb : (befsOk ops m (befs ops m) && (ops.take m).all (fun o => plain o.op && o.dst.isSome)) = true)
    (h : PL P r ds ops.toArray w.drew (fun ρ' => VL P r ops.toArray Q (ops.drop m) ρ' ds w.drew) (ops.take m) ρ) : WC P n r (.region id ops.toArray true) Q ρ ds w := WC_drawP m (befs ops m) hm hb h
end
theorem LV_mark {P : Program} {rs : Array ResultVar} {R : Ending → World → Prop} {ρ : Env} {ds : List Deferred} {u : FrameMode} {w : World} {D : Nat} (h : w.heap[D]? = some (.deferred (some []))) (hu : u ≠ .run)
    (hk : LV P rs R ρ ds u (w.putObj D (.deferred none))) : LV P rs R ρ ({ target := .collected D, args := #[] } :: ds) u w :=
  ⟨hu, .inl ⟨D, _, rfl, run_takeDeferred h, hk⟩⟩
end Pk
