/-
 The engine, part S: a statement whose order is open, with effects one behind the other and new blocks that may be laid whenever (floats).
-/
import Derived.Test.YtdgkfilajbnhgaaGreatEngO
import Derived.Deep.SlicePairs
import Derived.OpenShut
import Derived.WideShapes
import Derived.DeepKeys
import Derived.Test.YtdgkfilajbnhgaaGreatEngI
namespace Pk
open Go

inductive Tl
 | Z
 | F (i : Nat) (t : Tl)
 | C (i : Nat) (t : Tl)
 | S (i : Nat) (t : Tl)
 | L (i : Nat) (t : Tl)
 | D (i : Nat) (t : Tl)
 | W (i : Nat) (t : Tl)
def RD (P : Program) (X : Nat → Bool) (r : Option Nat) (ds : List Deferred) (ops : List Oper) (A : Value → World → Prop) (σ : Env) (W : World) : Option Oper → Prop
 | none => False
 | some o => ∀ W', Agr (fun k => X k = false) W W' → GI (gw ops.toArray σ o.guard) (VO P r o (fun ρ'' ds'' w'' => ds'' = ds ∧ Ext W' w'' ∧ A (dv ρ'' o.dst) w'') (fun _ _ _ _ => False) σ ds W') (A undef W')
def RL (P : Program) (X Xc : Nat → Bool) (r : Option Nat) (ds : List Deferred) (ops : List Oper) (fs : Nat → Value → World → Prop) (T : Env → World → Prop) : Tl → Env → World → Prop
 | .Z, σ, W => T σ W
 | .F i t, σ, W => RF P Xc r ds ops (RL P X Xc r ds ops fs T t) σ W (nthO ops i)
 | .C i t, σ, W => RE P Xc r ds ops (RL P X Xc r ds ops fs T t) σ W (nthO ops i)
 | .S i t, σ, W => RE P (fun _ => true) r ds ops (RL P X Xc r ds ops fs T t) σ W (nthO ops i)
 | .L i t, σ, W => ∀ W', Ext W W' → RE P X r ds ops (RL P X Xc r ds ops fs T t) σ W' (nthO ops i)
 | .D i t, σ, W => RD P X r ds ops (fs i) σ W (nthO ops i) ∧ RL P X Xc r ds ops fs T t σ W
 | .W i t, σ, W => ∀ v W', Ext W W' → fs i v W' → RL P X Xc r ds ops fs T t (put σ (dstAt ops i) v) W'

def only (m : Nat) (bs : List (List Nat)) (L D : List Nat) (as : List Nat) (M : List Nat) : Bool :=
 (List.range m).all fun j => L.contains j || (D.contains j || (as.contains j || !((bsAt bs j).all fun k => L.contains k || M.contains k)))
def tlOk (P : Program) (ops : List Oper) (m : Nat) (bs : List (List Nat)) : Tl → List Nat → List Nat → Bool
 | .Z, L, D => D.isEmpty && (List.range m).all fun i => L.contains i
 | .F i t, L, D => nodeOk ops m bs i L && (!D.contains i && ((match nthO ops i with | none => false | some o => autoOp P o.op && o.dst.isSome) && tlOk P ops m bs t (i :: L) D))
 | .C i t, L, D => D.isEmpty && (nodeOk ops m bs i L && (only m bs L D [i] [] && tlOk P ops m bs t (i :: L) D))
 | .S i t, L, D => D.isEmpty && (nodeOk ops m bs i L && (only m bs L D [i] [] && ((List.range m).all (fun j => (bsAt bs i).contains j || (match nthO ops j with | none => false | some o => !isLd o.op)) && tlOk P ops m bs t (i :: L) D)))
 | .L i t, L, D => nodeOk ops m bs i L && (!D.contains i && (only m bs L D [i] D && tlOk P ops m bs t (i :: L) D))
 | .D i t, L, D => nodeOk ops m bs i L && (!D.contains i && ((dstAt ops i).isSome && tlOk P ops m bs t L (i :: D)))
 | .W i t, L, D => D.contains i && (only m bs L D [] (D.filter fun k => k != i) && tlOk P ops m bs t (i :: L) (D.filter fun k => k != i))

section
variable {P : Program} {X Xc : Nat → Bool} {n : Nat} {r : Option Nat} {id : Nat} {ops : List Oper} {m : Nat} {bs : List (List Nat)} {ds : List Deferred} {fs : Nat → Value → World → Prop} {T : Env → World → Prop} {ρ ρ' : Env}
theorem only_inv {L D as M : List Nat} (h : only m bs L D as M = true) {i : Nat} (hi : i < m) (hL : i ∉ L) (hD : i ∉ D) (hb : ∀ k ∈ bsAt bs i, k ∈ L ∨ k ∈ M) : i ∈ as := by
 have h1 := List.all_eq_true.1 h i (by simpa using hi)
 have h2 : ((bsAt bs i).all fun k => L.contains k || M.contains k) = true := List.all_eq_true.2 fun k hk => by
  rcases hb k hk with h | h <;> simp [h]
 rw [h2] at h1
 simpa [hL, hD] using h1
def FLT (P : Program) (X : Nat → Bool) (r : Option Nat) (ds : List Deferred) (ops : List Oper) (m : Nat) (bs : List (List Nat)) (fs : Nat → Value → World → Prop) (L : List Nat) (j : Nat) (σ : Env) (W : World) : Prop :=
 ∃ o, ops[j]? = some o ∧ (∀ k ∈ bsAt bs j, k ∈ L) ∧ (∀ t ∈ tmpsOf o, ∀ k, k < m → dstAt ops k = some t → k ∈ bsAt bs j) ∧ (∀ k b, o.guard = some (k, b) → k ∈ bsAt bs j) ∧
  ∃ Wo, Agr (fun k => X k = false) Wo W ∧ RD P X r ds ops (fs j) σ Wo (some o)
theorem FLT.keep {L L' : List Nat} {j : Nat} {σ : Env} {W W' : World} (h : FLT P X r ds ops m bs fs L j σ W) (hL : ∀ k ∈ L, k ∈ L') (hA : Agr (fun k => X k = false) W W') : FLT P X r ds ops m bs fs L' j σ W' := by
 obtain ⟨o, h1, h2, h3, h4, Wo, h5, h6⟩ := h
 exact ⟨o, h1, fun k hk => hL k (h2 k hk), h3, h4, Wo, h5.trans hA, h6⟩
theorem FLT.put {L : List Nat} {j : Nat} {σ : Env} {W : World} (h : FLT P X r ds ops m bs fs L j σ W) (hb : befsOk ops m bs = true) (hLm : ∀ k ∈ L, k < m) {i : Nat} (hi : i ∉ L) (him : i < m) {o' : Oper} (ho' : ops[i]? = some o') (v : Value) :
  FLT P X r ds ops m bs fs L j (Pk.put σ o'.dst v) W := by
 obtain ⟨o, h1, h2, h3, h4, Wo, h5, h6⟩ := h
 have hdi : dstAt ops i = o'.dst := by rw [dstAt_get, ho']; rfl
 have hs : ∀ t, o'.dst ≠ some t → (Pk.put σ o'.dst v) t = σ t := by
  intro t ht
  cases hd : o'.dst with
  | none => rfl
  | some d => have : t ≠ d := fun e => ht (by rw [hd, e]); simp [this]
 have hop : ∀ t ∈ tmpsOf o, σ t = (Pk.put σ o'.dst v) t := fun t ht => (hs t fun e => hi (h2 i (h3 t ht i him (by rw [hdi, e])))).symm
 have hgw : gw ops.toArray (Pk.put σ o'.dst v) o.guard = gw ops.toArray σ o.guard := by
  refine gw_env fun k b hg d hd => hs d fun e => ?_
  have hkL := h2 k (h4 k b hg)
  have : k = i := head_uniq hb (hLm k hkL) him hd (by rw [hdi, e])
  exact hi (this ▸ hkL)
 refine ⟨o, h1, h2, h3, h4, Wo, h5, fun W' hW' => ?_⟩
 have h7 := h6 W' hW'
 rw [hgw]
 cases hg : gw ops.toArray σ o.guard with
 | true =>
  rw [hg, GI_true] at h7
  rw [GI_true]
  exact VO_imp (VO_env (k := fun v ds'' w'' => ds'' = ds ∧ Ext W' w'' ∧ fs j v w'') hop h7) fun _ _ _ h => h.1
 | false => rw [hg, GI_false] at h7; rw [GI_false]; exact h7

structure GL (P : Program) (X Xc : Nat → Bool) (r : Option Nat) (ds : List Deferred) (ops : List Oper) (m : Nat) (bs : List (List Nat)) (fs : Nat → Value → World → Prop) (T : Env → World → Prop) (ρ ρ' : Env) (S : Nat → Bool) (W : World) (t : Tl) (L D : List Nat) (σ : Env) (Wg : World) : Prop where
 ok : tlOk P ops m bs t L D = true
 rt : RL P X Xc r ds ops fs T t σ Wg
 ext : Ext Wg W
 eq : (∀ i ∈ D, S i = false) → W = Wg
 sub : ∀ j, S j = true → j ∈ L ∨ j ∈ D
 lm : ∀ j ∈ L, j < m
 dl : ∀ j ∈ D, j < m ∧ j ∉ L ∧ (dstAt ops j).isSome = true
 fr : ∀ x, (∀ j ∈ L, dstAt ops j ≠ some x) → σ x = ρ x
 val : ∀ j ∈ L, S j = true → dv ρ' (dstAt ops j) = dv σ (dstAt ops j)
 prom : ∀ j ∈ L, S j = false → PROM P Xc r ds ops m bs L j σ W
 flt : ∀ j ∈ D, S j = false → FLT P X r ds ops m bs fs L j σ W
 fval : ∀ j ∈ D, S j = true → fs j (dv ρ' (dstAt ops j)) W
def stable (S : Nat → Bool) : Tl → Prop | .F .. => False | .D .. => False | .W i _ => S i = false | _ => True
theorem put_other {σ : Env} {d : Option Tmp} {v : Value} {x : Tmp} (hx : d ≠ some x) : (Pk.put σ d v) x = σ x := by
 cases hod : d with
 | none => rfl
 | some d' => have : x ≠ d' := fun e => hx (by rw [hod, e]); simp [this]
theorem dv_put_other (hb : befsOk ops m bs = true) {i j : Nat} (hi : i < m) (hj : j < m) (hne : j ≠ i) (σ : Env) (v : Value) : dv (Pk.put σ (dstAt ops i) v) (dstAt ops j) = dv σ (dstAt ops j) := by
 cases hdj : dstAt ops j with
 | none => rfl
 | some x =>
  simp only [dv_some]
  exact put_other fun e => hne (head_uniq hb hj hi hdj e)
theorem dv_put_self (i : Nat) (σ : Env) (v : Value) (h : (dstAt ops i).isSome = true) : dv (Pk.put σ (dstAt ops i) v) (dstAt ops i) = v := by
 obtain ⟨d, hd⟩ := Option.isSome_iff_exists.1 h
 rw [hd]; simp
theorem GL.norm {S : Nat → Bool} {W : World} (hb : befsOk ops m bs = true) : ∀ (t : Tl) (L D : List Nat) (σ : Env) (Wg : World), GL P X Xc r ds ops m bs fs T ρ ρ' S W t L D σ Wg →
  ∃ t' L' D' σ' Wg', GL P X Xc r ds ops m bs fs T ρ ρ' S W t' L' D' σ' Wg' ∧ stable S t'
 | .Z, L, D, σ, Wg, h => ⟨_, _, _, _, _, h, trivial⟩
 | .C .., L, D, σ, Wg, h => ⟨_, _, _, _, _, h, trivial⟩
 | .S .., L, D, σ, Wg, h => ⟨_, _, _, _, _, h, trivial⟩
 | .L .., L, D, σ, Wg, h => ⟨_, _, _, _, _, h, trivial⟩
 | .W i t, L, D, σ, Wg, h => by
  cases hS : S i with
  | false => exact ⟨_, _, _, _, _, h, hS⟩
  | true =>
   have hok := h.ok
   unfold tlOk at hok
   simp only [Bool.and_eq_true, List.contains_iff_mem] at hok
   obtain ⟨hiD, -, hok'⟩ := hok
   obtain ⟨him, hiL, hsome⟩ := h.dl i hiD
   have hrt := h.rt
   unfold RL at hrt
   obtain ⟨o, ho⟩ : ∃ o, ops[i]? = some o := ⟨_, List.getElem?_eq_getElem (by have := (befsOk_bs hb).2; omega)⟩
   have hdi : dstAt ops i = o.dst := by rw [dstAt_get, ho]; rfl
   have hrt' := hrt (dv ρ' (dstAt ops i)) W h.ext (h.fval i hiD hS)
   have hD' : ∀ j, j ∈ D.filter (fun k => k != i) ↔ j ∈ D ∧ j ≠ i := by simp [List.mem_filter]
   refine GL.norm hb t (i :: L) (D.filter fun k => k != i) _ W ⟨hok', hrt', Ext.refl W, fun _ => rfl, ?_, ?_, ?_, ?_, ?_, ?_, ?_, ?_⟩
   ·intro j hj
    by_cases hji : j = i
    ·exact .inl (by simp [hji])
    ·rcases h.sub j hj with h1 | h1
     ·exact .inl (by simp [h1])
     ·exact .inr ((hD' j).2 ⟨h1, hji⟩)
   ·intro j hj
    rcases List.mem_cons.1 hj with rfl | hj
    ·exact him
    ·exact h.lm j hj
   ·intro j hj
    obtain ⟨h1, h2⟩ := (hD' j).1 hj
    obtain ⟨h3, h4, h5⟩ := h.dl j h1
    exact ⟨h3, by simp [h2, h4], h5⟩
   ·intro x hx
    rw [put_other fun e => hx i (by simp) e]
    exact h.fr x fun j hj => hx j (by simp [hj])
   ·intro j hj hSj
    rcases List.mem_cons.1 hj with rfl | hj
    ·rw [dv_put_self _ _ _ hsome]
    ·rw [dv_put_other hb him (h.lm j hj) (fun e => hiL (e ▸ hj))]
     exact h.val j hj hSj
   ·intro j hj hSj
    rcases List.mem_cons.1 hj with rfl | hj
    ·rw [hS] at hSj; cases hSj
    ·rw [hdi]
     exact ((h.prom j hj hSj).put hb (h.lm j hj) hj h.lm hiL him ho _).keep (fun k hk => List.mem_cons_of_mem _ hk) (Agr.refl _ _)
   ·intro j hj hSj
    rw [hdi]
    exact ((h.flt j ((hD' j).1 hj).1 hSj).put hb h.lm hiL him ho _).keep (fun k hk => List.mem_cons_of_mem _ hk) (Agr.refl _ _)
   ·intro j hj hSj
    exact h.fval j ((hD' j).1 hj).1 hSj
 | .D i t, L, D, σ, Wg, h => by
  have hok := h.ok
  unfold tlOk at hok
  simp only [Bool.and_eq_true, Bool.not_eq_true'] at hok
  obtain ⟨hn, hiD, hsome, hok'⟩ := hok
  have hiD : i ∉ D := fun hc => by rw [List.contains_iff_mem.2 hc] at hiD; cases hiD
  obtain ⟨him, hiL, hbL, o, ho, hsl⟩ := nodeOk_inv hn
  have hrt := h.rt
  unfold RL at hrt
  rw [nthO_eq, ho] at hrt
  obtain ⟨o2, ho2, -, hb3, -, hb5, -⟩ := befsOk_head hb him
  rw [ho] at ho2; cases ho2
  have hSi : S i = false := by
   cases hx : S i with
   | false => rfl
   | true => rcases h.sub i hx with h1 | h1
             ·exact (hiL h1).elim
             ·exact (hiD h1).elim
  refine GL.norm hb t L (i :: D) _ Wg ⟨hok', hrt.2, h.ext, fun hf => h.eq fun j hj => hf j (by simp [hj]), ?_, h.lm, ?_, h.fr, h.val, h.prom, ?_, ?_⟩
  ·intro j hj
   rcases h.sub j hj with h1 | h1
   ·exact .inl h1
   ·exact .inr (by simp [h1])
  ·intro j hj
   rcases List.mem_cons.1 hj with rfl | hj
   ·exact ⟨him, hiL, hsome⟩
   ·exact h.dl j hj
  ·intro j hj hSj
   rcases List.mem_cons.1 hj with rfl | hj
   ·exact ⟨o, ho, hbL, hsl, hb5, Wg, h.ext.agr, hrt.1⟩
   ·exact h.flt j hj hSj
  ·intro j hj hSj
   rcases List.mem_cons.1 hj with rfl | hj
   ·rw [hSi] at hSj; cases hSj
   ·exact h.fval j hj hSj
 | .F i t, L, D, σ, Wg, h => by
  have hok := h.ok
  unfold tlOk at hok
  simp only [Bool.and_eq_true, Bool.not_eq_true'] at hok
  obtain ⟨hn, hiD, ha, hok'⟩ := hok
  have hiD : i ∉ D := fun hc => by rw [List.contains_iff_mem.2 hc] at hiD; cases hiD
  obtain ⟨him, hiL, hbL, o, ho, hsl⟩ := nodeOk_inv hn
  rw [nthO_eq, ho] at ha
  simp only [Bool.and_eq_true] at ha
  have hrt := h.rt
  unfold RL at hrt
  rw [nthO_eq, ho] at hrt
  have hdi : dstAt ops i = o.dst := by rw [dstAt_get, ho]; rfl
  obtain ⟨o2, ho2, -, hb3, -, hb5, -⟩ := befsOk_head hb him
  rw [ho] at ho2; cases ho2
  obtain ⟨d, hd⟩ := Option.isSome_iff_exists.1 ha.2
  have hSi : S i = false := by
   cases hx : S i with
   | false => rfl
   | true => rcases h.sub i hx with h1 | h1
             ·exact (hiL h1).elim
             ·exact (hiD h1).elim
  have key : ∃ v, RL P X Xc r ds ops fs T t (Pk.put σ o.dst v) Wg ∧ GI (gw ops.toArray σ o.guard) (xL Xc σ Wg o = true ∧ VO P r o (fun ρ'' ds'' _ => ds'' = ds ∧ dv ρ'' o.dst = v) (fun _ _ _ _ => False) σ ds Wg) (v = undef) := by
   unfold RF at hrt
   simp only at hrt
   cases hg : gw ops.toArray σ o.guard with
   | true =>
    rw [hg, GI_true] at hrt
    obtain ⟨v, w', hK, hK'⟩ := VO_det (auto_plain ha.1) hrt.2
    refine ⟨v, hK.2, ?_⟩
    rw [GI_true]
    refine ⟨hrt.1, hK' _ _ ⟨hK.1.1, ?_⟩⟩
    rw [hd]; simp
   | false =>
    rw [hg, GI_false] at hrt
    exact ⟨undef, hrt, by rw [GI_false]⟩
  obtain ⟨v, hrt', hv⟩ := key
  have hs : ∀ x, o.dst ≠ some x → (Pk.put σ o.dst v) x = σ x := fun x hx => put_other hx
  have hop : ∀ x ∈ tmpsOf o, σ x = (Pk.put σ o.dst v) x := fun x hx => (hs x fun e => by
   have := hsl x hx i him (by rw [hdi, e])
   have := (hb3 i this).1
   omega).symm
  have hgw : gw ops.toArray (Pk.put σ o.dst v) o.guard = gw ops.toArray σ o.guard := by
   refine gw_env fun k b hg x hx => hs x fun e => ?_
   have hkb := hb5 k b hg
   have hk : k = i := head_uniq hb (h.lm k (hbL k hkb)) him hx (by rw [hdi, e])
   exact hiL (hk ▸ hbL k hkb)
  refine GL.norm hb t (i :: L) D (Pk.put σ o.dst v) Wg ⟨hok', hrt', h.ext, h.eq, ?_, ?_, ?_, ?_, ?_, ?_, ?_, h.fval⟩
  ·intro j hj
   rcases h.sub j hj with h1 | h1
   ·exact .inl (by simp [h1])
   ·exact .inr h1
  ·intro j hj
   rcases List.mem_cons.1 hj with rfl | hj
   ·exact him
   ·exact h.lm j hj
  ·intro j hj
   obtain ⟨h3, h4, h5⟩ := h.dl j hj
   exact ⟨h3, by simp [h4]; exact fun e => hiD (e ▸ hj), h5⟩
  ·intro x hx
   rw [hs x fun e => hx i (by simp) (by rw [hdi, e])]
   exact h.fr x fun j hj => hx j (by simp [hj])
  ·intro j hj hSj
   rcases List.mem_cons.1 hj with rfl | hj
   ·rw [hSi] at hSj; cases hSj
   ·rw [← hdi, dv_put_other hb him (h.lm j hj) (fun e => hiL (e ▸ hj))]
    exact h.val j hj hSj
  ·intro j hj hSj
   rcases List.mem_cons.1 hj with rfl | hj
   ·refine ⟨o, ho, ha.1, ha.2, fun k hk => List.mem_cons_of_mem _ (hbL k hk), hsl, hb5, Wg, h.ext.agr, ?_⟩
    have hdv : dv (Pk.put σ o.dst v) o.dst = v := by rw [hd]; simp
    rw [hgw, hdv]
    cases hg : gw ops.toArray σ o.guard with
    | true =>
     rw [hg, GI_true] at hv
     rw [GI_true]
     refine ⟨by rw [← xL_env hop _]; exact hv.1, ?_⟩
     have := VO_env (k := fun u ds'' _ => ds'' = ds ∧ u = v) hop hv.2
     obtain ⟨u, w', hK, hK'⟩ := VO_det (auto_plain ha.1) this
     exact hK' _ _ hK.1
    | false => rw [hg, GI_false] at hv; rw [GI_false]; exact hv
   ·exact ((h.prom j hj hSj).put hb (h.lm j hj) hj h.lm hiL him ho v).keep (fun k hk => List.mem_cons_of_mem _ hk) (Agr.refl _ _)
  ·intro j hj hSj
   exact ((h.flt j hj hSj).put hb h.lm hiL him ho v).keep (fun k hk => List.mem_cons_of_mem _ hk) (Agr.refl _ _)

theorem WC_drawL {Q : Post} {w : World} (m : Nat) (t : Tl) (X Xc : Nat → Bool) (fs : Nat → Value → World → Prop) (hm : P.follows .mixedOrders = true) (hb0 : (befsOk ops m (befs ops m) && tlOk P ops m (befs ops m) t [] []) = true)
  (hX : ∀ k, Xc k = false → X k = false) (hstab : ∀ i v a b, fs i v a → Agr (fun k => X k = false) a b → fs i v b)
  (h : ∀ W, Dr w W → RL P X Xc r ds ops fs (fun ρ' w' => VL P r ops.toArray Q (ops.drop m) ρ' ds w') t ρ W) : WC P n r (.region id ops.toArray true) Q ρ ds w := by
 intro hok tmps hAg
 obtain ⟨hb, htr⟩ := Bool.and_eq_true_iff.1 hb0
 generalize befs ops m = bs at hb htr
 have hok' : ops.all (okOp n) = true := by simpa [okC] using hok
 obtain ⟨hbl, hml⟩ := befsOk_bs hb
 refine wpIn_region_any hm ?_
 let INV : Array Bool → Env → World → Prop := fun listed ρ' w' => ∃ t L D σ Wg, GL P X Xc r ds ops m bs fs (fun ρ' w' => VL P r ops.toArray Q (ops.drop m) ρ' ds w') ρ ρ' (fun j => listed.getD j false) w' t L D σ Wg ∧ stable (fun j => listed.getD j false) t
 have hlow : ∀ (listed : Array Bool) (ρ' : Env) (w' : World), INV listed ρ' w' → ∀ j, m ≤ j → listed.getD j false = false := by
  rintro listed ρ' w' ⟨t, L, D, σ, Wg, hG, -⟩ j hj
  cases hx : listed.getD j false with
  | false => rfl
  | true =>
   rcases hG.sub j hx with h1 | h1
   ·have := hG.lm j h1; omega
   ·have := (hG.dl j h1).1; omega
 have final : ∀ (listed : Array Bool) (a : Act) (ρ' : Env) (w' : World), a.defers = ds → INV listed ρ' w' →
   (∀ x, (∀ i, i < m → listed.getD i false = true → dstAt ops i ≠ some x) → ρ' x = ρ x) → (∀ i, i < m → listed.getD i false = true) →
   VL P r ops.toArray Q (ops.drop m) ρ' a.defers w' := by
  rintro listed a ρ' w' hds ⟨t, L, D, σ, Wg, hG, hF⟩ hfr hall
  have hZ : t = .Z := by
   have hok := hG.ok
   cases t with
   | Z => rfl
   | F i t => exact hF.elim
   | D i t => exact hF.elim
   | C i t =>
    unfold tlOk at hok
    simp only [Bool.and_eq_true, List.isEmpty_iff] at hok
    obtain ⟨h1, h2, -⟩ := nodeOk_inv hok.2.1
    rcases hG.sub i (hall i h1) with h3 | h3
    ·exact (h2 h3).elim
    ·rw [hok.1] at h3; cases h3
   | S i t =>
    unfold tlOk at hok
    simp only [Bool.and_eq_true, List.isEmpty_iff] at hok
    obtain ⟨h1, h2, -⟩ := nodeOk_inv hok.2.1
    rcases hG.sub i (hall i h1) with h3 | h3
    ·exact (h2 h3).elim
    ·rw [hok.1] at h3; cases h3
   | L i t =>
    unfold tlOk at hok
    simp only [Bool.and_eq_true, Bool.not_eq_true'] at hok
    obtain ⟨h1, h2, -⟩ := nodeOk_inv hok.1
    rcases hG.sub i (hall i h1) with h3 | h3
    ·exact (h2 h3).elim
    ·have := hok.2.1; rw [List.contains_iff_mem.2 h3] at this; cases this
   | W i t =>
    unfold tlOk at hok
    simp only [Bool.and_eq_true, List.contains_iff_mem] at hok
    have h1 := hall i (hG.dl i hok.1).1
    have h2 : listed.getD i false = false := hF
    rw [h1] at h2; cases h2
  subst hZ
  have hok := hG.ok
  unfold tlOk at hok
  simp only [Bool.and_eq_true, List.isEmpty_iff] at hok
  have hW := hG.eq (by rw [hok.1]; simp)
  have hσ : σ = ρ' := by
   funext x
   by_cases hx : ∃ j, j < m ∧ dstAt ops j = some x
   ·obtain ⟨j, hj, hd⟩ := hx
    have hjL : j ∈ L := by simpa using List.all_eq_true.1 hok.2 j (by simpa using hj)
    have := hG.val j hjL (hall j hj)
    rw [hd] at this
    simpa using this.symm
   ·have hx' : ∀ j, j < m → dstAt ops j ≠ some x := fun j hj e => hx ⟨j, hj, e⟩
    rw [hG.fr x fun j hj => hx' j (hG.lm j hj), hfr x fun j hj _ => hx' j hj]
  have := hG.rt
  rw [hσ, ← hW] at this
  unfold RL at this
  rw [hds]; exact this
 have key : ∀ (fuel : Nat) (listed : Array Bool) (a : Act) (ρ' : Env) (w' : World), a.defers = ds → listed.size = ops.length → Ag n a.tmps ρ' → INV listed ρ' w' →
   (∀ i, i < ops.length → listed.getD i false = true → ∀ o, ops[i]? = some o → ∀ e ∈ o.after, Region.binds .any e = true → listed.getD e.on false = true) →
   (∀ x, (∀ i, i < m → listed.getD i false = true → dstAt ops i ≠ some x) → ρ' x = ρ x) →
   ops.length ≤ fuel + listed.toList.count true →
   wpAnyIn (FR r) 0 P .any ops.toArray (fun e a w' => ∃ ρ', Ag n a.tmps ρ' ∧ Q e ρ' a.defers w') fuel listed a w' := by
  intro fuel
  induction fuel with
  | zero =>
   intro listed a ρ' w' hds hs hA hG hcl hfr hf
   have hhd := hlow listed ρ' w' hG
   have hall := all_listed (listed := listed) (by omega)
   have hml' : m = ops.length := by
    rcases Nat.lt_or_ge m ops.length with h1 | h1
    ·have := hhd m (Nat.le_refl _)
     rw [hall m (by omega)] at this; cases this
    ·omega
   refine any_tail hb hok' 0 m listed a ρ' w' (Nat.le_refl _) hml (by omega) hs ?_ hA (final listed a ρ' w' hds hG hfr fun i hi => hall i (by omega))
   intro i
   by_cases h1 : i < ops.length
   ·rw [hall i (by omega)]; simp; omega
   ·have : decide (i < m) = false := by simp; omega
    rw [this]; simp [hs, h1]
  | succ fuel ih =>
   intro listed a ρ' w' hds hs hA hG hcl hfr hf
   have hhd := hlow listed ρ' w' hG
   by_cases hfull : ∀ i, i < m → listed.getD i false = true
   ·refine any_tail hb hok' (fuel + 1) m listed a ρ' w' (Nat.le_refl _) hml ?_ hs ?_ hA (final listed a ρ' w' hds hG hfr hfull)
    ·have hc : listed.toList.count true ≤ m := by
      have hcc : ∀ (l : List Bool) (k : Nat), (∀ j, k ≤ j → l[j]?.getD false = false) → l.count true ≤ k := by
       intro l
       induction l with
       | nil => intro k _; simp
       | cons b l ihl =>
        intro k hkk
        cases k with
        | zero =>
         have h0 := hkk 0 (Nat.le_refl _)
         simp at h0; subst h0
         have := ihl 0 (fun j hj => by have := hkk (j + 1) (by omega); simpa using this)
         simp at this ⊢; exact this
        | succ k =>
         have := ihl k (fun j hj => by have := hkk (j + 1) (by omega); simpa using this)
         rw [List.count_cons]; split <;> omega
      refine hcc _ _ fun j hj => ?_
      have := hhd j hj
      simpa [Array.getD_eq_getD_getElem?] using this
     omega
    ·intro i
     by_cases h1 : i < m
     ·rw [hfull i h1]; simp [h1]
     ·rw [hhd i (by omega)]; simp [h1]
   ·refine ⟨?_, ?_⟩
    ·intro hr
     exfalso
     obtain ⟨i, hi, hmin⟩ := exists_least (p := fun i => i < m ∧ listed.getD i false = false) (by
      simp only [Classical.not_forall] at hfull
      obtain ⟨i, h1, h2⟩ := hfull
      exact ⟨i, h1, by simpa using h2⟩)
     have hil : i < ops.length := by omega
     have : i ∈ Region.ready .any ops.toArray listed := by
      refine mem_ready.2 ⟨?_, ops[i], by simp [hil], ?_⟩
      ·have := hi.2
       have his : i < listed.size := by omega
       simpa [his] using this
      ·intro e he hbe
       have hlt := befsOk_edge hb (List.getElem?_eq_getElem hil) e he hbe
       cases hx : listed.getD e.on false with
       | true => rfl
       | false => have := hmin e.on ⟨by omega, hx⟩; omega
     rw [hr] at this; cases this
    ·intro i hi
     obtain ⟨hi1, o, ho, hi2⟩ := mem_ready.1 hi
     have hil : i < ops.length := by
      have := (Array.getElem?_eq_some_iff.1 ho).1; simpa using this
     have his : i < listed.size := by omega
     have ho' : ops[i]? = some o := by simpa using ho
     have hif : listed.getD i false = false := by simpa [his] using hi1
     have him : i < m := by
      rcases Nat.lt_or_ge i m with h1 | h1
      ·exact h1
      ·exfalso
       refine hfull fun k hk => ?_
       obtain ⟨e, he, hbe, hke⟩ := befsOk_tail hb ho' h1 k (by omega)
       have h2 := hi2 e he hbe
       rcases hke with hke | ⟨hke1, hke2⟩ | ⟨hke1, hke2⟩
       ·rw [← hke]; exact h2
       ·have hel : e.on < ops.length := by omega
        exact bs_listed hb hcl e.on ops[e.on] hke1 (List.getElem?_eq_getElem hel) (hcl e.on hel h2 _ (List.getElem?_eq_getElem hel)) k hke2
       ·rw [hhd e.on hke1] at h2; cases h2
     have hbsl := bs_listed hb hcl i o him ho' hi2
     obtain ⟨o'', ho'', hsome, hb3, hb4, hb5, hb6⟩ := befsOk_head hb him
     rw [ho'] at ho''; cases ho''
     have hdi : dstAt ops i = o.dst := by rw [dstAt_get, ho']; rfl
     obtain ⟨t, L, D, σ, Wg, hG, hF⟩ := hG
     have hokA : ops.toArray.toList.all (okOp n) = true := by simpa using hok'
     have hoko : okOp n o = true := List.all_eq_true.1 hok' o (List.mem_of_getElem? ho')
     have hcl' : ∀ k, k < ops.length → (listed.setIfInBounds i true).getD k false = true → ∀ ok, ops[k]? = some ok → ∀ e ∈ ok.after, Region.binds .any e = true → (listed.setIfInBounds i true).getD e.on false = true := by
      intro k hkl hkt ok hok2 e he hbe
      rw [listed_set his] at hkt ⊢
      by_cases hki : k = i
      ·subst hki
       rw [ho'] at hok2; cases hok2
       rw [hi2 e he hbe]; simp
      ·have : listed.getD k false = true := by simpa [hki] using hkt
       rw [hcl k hkl this ok hok2 e he hbe]; simp
     have hcnt := count_listed his hif
     have hfr' : ∀ v x, (∀ k, k < m → (listed.setIfInBounds i true).getD k false = true → dstAt ops k ≠ some x) → (Pk.put ρ' o.dst v) x = ρ x := by
      intro v x hx
      rw [put_other fun e => hx i him (by rw [listed_set his]; simp) (by rw [hdi, e])]
      exact hfr x fun k hkm hkl => hx k hkm (by rw [listed_set his, hkl]; simp)
     have next : ∀ (a' : Act) (v : Value) (w'' : World), a'.defers = ds → Ag n a'.tmps (Pk.put ρ' o.dst v) →
       (∃ t L D σ Wg, GL P X Xc r ds ops m bs fs (fun ρ' w' => VL P r ops.toArray Q (ops.drop m) ρ' ds w') ρ (Pk.put ρ' o.dst v) (fun j => (listed.setIfInBounds i true).getD j false) w'' t L D σ Wg) →
       wpAnyIn (FR r) 0 P .any ops.toArray (fun e a w' => ∃ ρ', Ag n a.tmps ρ' ∧ Q e ρ' a.defers w') fuel (listed.setIfInBounds i true) a' w'' := by
      rintro a' v w'' hds' hA' ⟨t', L', D', σ', Wg', hG'⟩
      exact ih _ a' (Pk.put ρ' o.dst v) w'' hds' (by simpa using hs) hA' (GL.norm hb _ _ _ _ _ hG') hcl' (hfr' v) (by rw [hcnt]; omega)
     have hset : ∀ j, (listed.setIfInBounds i true).getD j false = (decide (j = i) || listed.getD j false) := fun j => listed_set his
     have ha : a = ⟨a.tmps, ds⟩ := by cases a; simp_all
     have hvv : ∀ (v : Value) j, j < m → j ≠ i → dv (Pk.put ρ' o.dst v) (dstAt ops j) = dv ρ' (dstAt ops j) := fun v j hj hne => by rw [← hdi]; exact dv_put_other hb him hj hne ρ' v
     have hslotL : ∀ x, (∀ k, k < m → dstAt ops k = some x → k ∈ bsAt bs i) → (∀ k ∈ bsAt bs i, k ∈ L) → σ x = ρ' x := by
      intro x hx hbL
      by_cases hk : ∃ k, k < m ∧ dstAt ops k = some x
      ·obtain ⟨k, hkm, hdk⟩ := hk
       have := hG.val k (hbL k (hx k hkm hdk)) (hbsl k (hx k hkm hdk))
       rw [hdk] at this
       simpa using this.symm
      ·have hk' : ∀ k, k < m → dstAt ops k ≠ some x := fun k hkm e => hk ⟨k, hkm, e⟩
       rw [hG.fr x fun k hkL => hk' k (hG.lm k hkL), hfr x fun k hkm _ => hk' k hkm]
     have hgwL : (∀ k ∈ bsAt bs i, k ∈ L) → gw ops.toArray σ o.guard = gw ops.toArray ρ' o.guard := by
      intro hbL
      refine gw_env fun k b hg x hx => hslotL x (fun k' hk'm hk'd => ?_) hbL
      have hkb := hb5 k b hg
      have hkm : k < m := by have := (hb3 k hkb).1; omega
      have := head_uniq hb hk'm hkm hk'd hx
      exact this ▸ hkb
     unfold wpOpIn
     simp only [ho]
     rw [gw_eq hA hokA o]
     by_cases hiL : i ∈ L
     ·obtain ⟨o2, ho2, hauto, hds2, hpb, hps, hpg, Wo, hAg2, hGI⟩ := hG.prom i hiL hif
      rw [ho'] at ho2; cases ho2
      have hop : ∀ x ∈ tmpsOf o, σ x = ρ' x := fun x hx => hslotL x (hps x hx) hpb
      have hgw := hgwL hpb
      obtain ⟨d, hod⟩ := Option.isSome_iff_exists.1 hds2
      have hnew : ∀ v, v = dv σ o.dst → GL P X Xc r ds ops m bs fs (fun ρ' w' => VL P r ops.toArray Q (ops.drop m) ρ' ds w') ρ (Pk.put ρ' o.dst v) (fun j => (listed.setIfInBounds i true).getD j false) w' t L D σ Wg := by
       intro v hv
       have hDi : ∀ j ∈ D, j ≠ i := fun j hj e => (hG.dl j hj).2.1 (e ▸ hiL)
       have hSD : ∀ j ∈ D, (listed.setIfInBounds i true).getD j false = listed.getD j false := fun j hj => by rw [hset]; simp [hDi j hj]
       refine ⟨hG.ok, hG.rt, hG.ext, fun hh => hG.eq fun j hj => by rw [← hSD j hj]; exact hh j hj, ?_, hG.lm, hG.dl, hG.fr, ?_, ?_, ?_, ?_⟩
       ·intro j hj
        simp only [hset] at hj
        by_cases hji : j = i
        ·exact .inl (hji ▸ hiL)
        ·exact hG.sub j (by simpa [hji] using hj)
       ·intro j hj hSj
        simp only [hset] at hSj
        by_cases hji : j = i
        ·subst hji
         rw [hdi, hv, hod]; simp
        ·rw [hvv v j (hG.lm j hj) hji]
         exact hG.val j hj (by simpa [hji] using hSj)
       ·intro j hj hSj
        simp only [hset] at hSj
        by_cases hji : j = i
        ·simp [hji] at hSj
        ·exact hG.prom j hj (by simpa [hji] using hSj)
       ·intro j hj hSj
        exact hG.flt j hj (by rw [← hSD j hj]; exact hSj)
       ·intro j hj hSj
        rw [hvv v j (hG.dl j hj).1 (hDi j hj)]
        exact hG.fval j hj (by rw [← hSD j hj]; exact hSj)
      rw [← hgw]
      cases hg : gw ops.toArray σ o.guard with
      | true =>
       rw [hg, GI_true] at hGI
       simp only [if_true]
       have h1 := VO_went' (k := fun v ds'' => ds'' = ds ∧ v = dv σ o.dst) hauto hGI.1 hAg2 hGI.2
       have h2 := VO_env (k := fun v ds'' w'' => w'' = w' ∧ ds'' = ds ∧ v = dv σ o.dst) (ρ' := ρ') hop h1
       rw [ha]
       refine VO_sound (K := fun ρ'' ds'' w'' => (w'' = w' ∧ ds'' = ds ∧ dv ρ'' o.dst = dv σ o.dst) ∧ ∃ v, ρ'' = put ρ' o.dst v) (Q := fun _ _ _ _ => False) hA hoko ?_ (fun _ _ _ _ _ h => h.elim) h2
       rintro a' ρ'' w'' hA' ⟨⟨rfl, hds', hv⟩, v, rfl⟩
       refine next a' v w'' hds' hA' ⟨t, L, D, σ, Wg, hnew v ?_⟩
       rw [← hv, hod]; simp
      | false =>
       rw [hg, GI_false] at hGI
       simp only [Bool.false_eq_true, if_false]
       exact ⟨fun _ _ => trivial, next _ undef w' (by rw [put_defers]; exact hds) (hA.put (ds := a.defers) (Bool.and_eq_true_iff.1 hoko).1 undef) ⟨t, L, D, σ, Wg, hnew undef hGI.symm⟩⟩
     ·by_cases hiD : i ∈ D
      ·-- a float
       obtain ⟨o2, ho2, hpb, hps, hpg, Wo, hAg2, hRD⟩ := hG.flt i hiD hif
       rw [ho'] at ho2; cases ho2
       have hop : ∀ x ∈ tmpsOf o, σ x = ρ' x := fun x hx => hslotL x (hps x hx) hpb
       have hgw := hgwL hpb
       have hsm := (hG.dl i hiD).2.2
       have hnew : ∀ v w'', Ext w' w'' → fs i v w'' → GL P X Xc r ds ops m bs fs (fun ρ' w' => VL P r ops.toArray Q (ops.drop m) ρ' ds w') ρ (Pk.put ρ' o.dst v) (fun j => (listed.setIfInBounds i true).getD j false) w'' t L D σ Wg := by
        intro v w'' hE hv
        have hLi : ∀ j ∈ L, j ≠ i := fun j hj e => hiL (e ▸ hj)
        have hSL : ∀ j ∈ L, (listed.setIfInBounds i true).getD j false = listed.getD j false := fun j hj => by rw [hset]; simp [hLi j hj]
        refine ⟨hG.ok, hG.rt, hG.ext.trans hE, fun hh => ?_, ?_, hG.lm, hG.dl, hG.fr, ?_, ?_, ?_, ?_⟩
        ·have := hh i hiD
         simp only [hset] at this
         simp at this
        ·intro j hj
         simp only [hset] at hj
         by_cases hji : j = i
         ·exact .inr (hji ▸ hiD)
         ·exact hG.sub j (by simpa [hji] using hj)
        ·intro j hj hSj
         rw [hvv v j (hG.lm j hj) (hLi j hj)]
         exact hG.val j hj (by rw [← hSL j hj]; exact hSj)
        ·intro j hj hSj
         exact (hG.prom j hj (by rw [← hSL j hj]; exact hSj)).keep (fun _ h => h) hE.agr
        ·intro j hj hSj
         simp only [hset] at hSj
         by_cases hji : j = i
         ·simp [hji] at hSj
         ·exact (hG.flt j hj (by simpa [hji] using hSj)).keep (fun _ h => h) hE.agr
        ·intro j hj hSj
         simp only [hset] at hSj
         by_cases hji : j = i
         ·subst hji
          rw [← hdi, dv_put_self _ _ _ hsm]; exact hv
         ·rw [hvv v j (hG.dl j hj).1 hji]
          exact hstab _ _ _ _ (hG.fval j hj (by simpa [hji] using hSj)) hE.agr
       have hv := hRD w' hAg2
       rw [← hgw]
       cases hg : gw ops.toArray σ o.guard with
       | true =>
        rw [hg, GI_true] at hv
        simp only [if_true]
        have h2 := VO_env (k := fun v ds'' w'' => ds'' = ds ∧ Ext w' w'' ∧ fs i v w'') (ρ' := ρ') hop hv
        rw [ha]
        refine VO_sound (K := fun ρ'' ds'' w'' => (ds'' = ds ∧ Ext w' w'' ∧ fs i (dv ρ'' o.dst) w'') ∧ ∃ v, ρ'' = put ρ' o.dst v) (Q := fun _ _ _ _ => False) hA hoko ?_ (fun _ _ _ _ _ h => h.elim) h2
        rintro a' ρ'' w'' hA' ⟨⟨hds', hE, hv⟩, v, rfl⟩
        refine next a' v w'' hds' hA' ⟨t, L, D, σ, Wg, hnew v w'' hE ?_⟩
        rw [← hdi, dv_put_self _ _ _ hsm] at hv; exact hv
       | false =>
        rw [hg, GI_false] at hv
        simp only [Bool.false_eq_true, if_false]
        exact ⟨fun _ _ => trivial, next _ undef w' (by rw [put_defers]; exact hds) (hA.put (ds := a.defers) (Bool.and_eq_true_iff.1 hoko).1 undef) ⟨t, L, D, σ, Wg, hnew undef w' (Ext.refl _) hv⟩⟩
      ·-- an effect
       have hbLD : ∀ k ∈ bsAt bs i, k ∈ L ∨ k ∈ D := fun k hk => hG.sub k (hbsl k hk)
       have pick : ∃ t' Y, ((∀ k, Xc k = false → Y k = false) ∨ ∀ j, j < m → j ∉ bsAt bs i → ∀ o, ops[j]? = some o → isLd o.op = false) ∧ (∀ j ∈ D, Y = X) ∧ RE P Y r ds ops (RL P X Xc r ds ops fs (fun ρ' w' => VL P r ops.toArray Q (ops.drop m) ρ' ds w') t') σ w' (nthO ops i) ∧ nodeOk ops m bs i L = true ∧ tlOk P ops m bs t' (i :: L) D = true := by
        have hok := hG.ok
        have hrt := hG.rt
        cases t with
        | Z =>
         unfold tlOk at hok
         simp only [Bool.and_eq_true] at hok
         exact (hiL (by simpa using List.all_eq_true.1 hok.2 i (by simpa using him))).elim
        | F k t => exact hF.elim
        | D k t => exact hF.elim
        | C k t =>
         unfold tlOk at hok
         simp only [Bool.and_eq_true, List.isEmpty_iff] at hok
         obtain ⟨hD0, h1, h2, h3⟩ := hok
         have hik := only_inv h2 him hiL hiD (fun k hk => (hbLD k hk).imp_right fun hx => by rw [hD0] at hx; exact hx)
         rw [List.mem_singleton] at hik
         subst hik
         unfold RL at hrt
         have hW := hG.eq (by rw [hD0]; simp)
         rw [hW]
         exact ⟨t, Xc, .inl fun _ h => h, fun j hj => (by rw [hD0] at hj; cases hj), hrt, h1, h3⟩
        | S k t =>
         unfold tlOk at hok
         simp only [Bool.and_eq_true, List.isEmpty_iff] at hok
         obtain ⟨hD0, h1, h2, h4, h3⟩ := hok
         have hik := only_inv h2 him hiL hiD (fun k hk => (hbLD k hk).imp_right fun hx => by rw [hD0] at hx; exact hx)
         rw [List.mem_singleton] at hik
         subst hik
         unfold RL at hrt
         have hW := hG.eq (by rw [hD0]; simp)
         rw [hW]
         refine ⟨t, fun _ => true, .inr fun j hj hjb o' hjo => ?_, fun j hj => (by rw [hD0] at hj; cases hj), hrt, h1, h3⟩
         have h5 := List.all_eq_true.1 h4 j (by simpa using hj)
         rw [nthO_eq, hjo] at h5
         simpa [hjb] using h5
        | L k t =>
         unfold tlOk at hok
         simp only [Bool.and_eq_true] at hok
         obtain ⟨h1, -, h2, h3⟩ := hok
         have hik := only_inv h2 him hiL hiD hbLD
         rw [List.mem_singleton] at hik
         subst hik
         unfold RL at hrt
         exact ⟨t, X, .inl hX, fun _ _ => rfl, hrt w' hG.ext, h1, h3⟩
        | W k t =>
         unfold tlOk at hok
         simp only [Bool.and_eq_true] at hok
         have hSk : listed.getD k false = false := hF
         have := only_inv hok.2.1 him hiL hiD (fun j hj => (hbLD j hj).imp_right fun hx => by
          rw [List.mem_filter]
          refine ⟨hx, ?_⟩
          simp only [bne_iff_ne, ne_eq]
          rintro rfl
          rw [hbsl j hj] at hSk; cases hSk)
         cases this
       obtain ⟨t', Y, hY1, hY2, hre, hnode, hok2⟩ := pick
       rw [nthO_eq, ho'] at hre
       obtain ⟨-, -, hpb, o2, ho2, hps⟩ := nodeOk_inv hnode
       rw [ho'] at ho2; cases ho2
       have hop : ∀ x ∈ tmpsOf o, σ x = ρ' x := fun x hx => hslotL x (hps x hx) hpb
       have hgw := hgwL hpb
       have hgo : ∀ (v : Value) (w'' : World), Agr (fun k => Y k = false) w' w'' → RL P X Xc r ds ops fs (fun ρ' w' => VL P r ops.toArray Q (ops.drop m) ρ' ds w') t' (Pk.put σ o.dst v) w'' →
         ∃ t L D σ Wg, GL P X Xc r ds ops m bs fs (fun ρ' w' => VL P r ops.toArray Q (ops.drop m) ρ' ds w') ρ (Pk.put ρ' o.dst v) (fun j => (listed.setIfInBounds i true).getD j false) w'' t L D σ Wg := by
        intro v w'' hAgr hrt
        have hDi : ∀ j ∈ D, j ≠ i := fun j hj e => hiD (e ▸ hj)
        have hSD : ∀ j ∈ D, (listed.setIfInBounds i true).getD j false = listed.getD j false := fun j hj => by rw [hset]; simp [hDi j hj]
        have hLi : ∀ j ∈ L, j ≠ i := fun j hj e => hiL (e ▸ hj)
        have hSL : ∀ j ∈ L, (listed.setIfInBounds i true).getD j false = listed.getD j false := fun j hj => by rw [hset]; simp [hLi j hj]
        refine ⟨t', i :: L, D, Pk.put σ o.dst v, w'', hok2, hrt, Ext.refl _, fun _ => rfl, ?_, ?_, ?_, ?_, ?_, ?_, ?_, ?_⟩
        ·intro j hj
         simp only [hset] at hj
         by_cases hji : j = i
         ·exact .inl (by simp [hji])
         ·exact (hG.sub j (by simpa [hji] using hj)).imp_left fun h => List.mem_cons_of_mem _ h
        ·intro j hj
         rcases List.mem_cons.1 hj with rfl | hj
         ·exact him
         ·exact hG.lm j hj
        ·intro j hj
         obtain ⟨h1, h2, h3⟩ := hG.dl j hj
         exact ⟨h1, by simp [h2, hDi j hj], h3⟩
        ·intro x hx
         rw [put_other fun e => hx i (by simp) (by rw [hdi, e])]
         exact hG.fr x fun j hj => hx j (by simp [hj])
        ·intro j hj hSj
         rcases List.mem_cons.1 hj with rfl | hj
         ·rw [hdi]
          cases hod : o.dst with
          | none => rfl
          | some d => simp
         ·rw [hvv v j (hG.lm j hj) (hLi j hj), ← hdi, dv_put_other hb him (hG.lm j hj) (hLi j hj)]
          exact hG.val j hj (by rw [← hSL j hj]; exact hSj)
        ·intro j hj hSj
         rcases List.mem_cons.1 hj with rfl | hj
         ·simp only [hset] at hSj; simp at hSj
         ·have hSj' : listed.getD j false = false := by rw [← hSL j hj]; exact hSj
          have hp := (hG.prom j hj hSj').put hb (hG.lm j hj) hj hG.lm hiL him ho' v
          rcases hY1 with hY1 | hY1
          ·exact hp.keep (fun k hk => List.mem_cons_of_mem _ hk) (hAgr.weaken hY1)
          ·refine hp.keepS (fun k hk => List.mem_cons_of_mem _ hk) (hAgr.weaken fun _ h => h.elim) (hY1 j (hG.lm j hj) fun hjb => ?_)
           rw [hbsl j hjb] at hSj'; cases hSj'
        ·intro j hj hSj
         exact ((hG.flt j hj (by rw [← hSD j hj]; exact hSj)).put hb hG.lm hiL him ho' v).keep (fun k hk => List.mem_cons_of_mem _ hk) (hY2 j hj ▸ hAgr)
        ·intro j hj hSj
         rw [hvv v j (hG.dl j hj).1 (hDi j hj)]
         exact hstab _ _ _ _ (hG.fval j hj (by rw [← hSD j hj]; exact hSj)) (hY2 j hj ▸ hAgr)
       unfold RE at hre
       simp only at hre
       rw [← hgw]
       cases hg : gw ops.toArray σ o.guard with
       | true =>
        rw [hg, GI_true] at hre
        simp only [if_true]
        have hre' : VO P r o (fun ρ'' ds'' w'' => ds'' = ds ∧ Agr (fun k => Y k = false) w' w'' ∧ RL P X Xc r ds ops fs (fun ρ' w' => VL P r ops.toArray Q (ops.drop m) ρ' ds w') t' (Pk.put σ o.dst (dv ρ'' o.dst)) w'') (fun _ _ _ _ => False) σ ds w' :=
         VO_imp hre fun v ds' w'' hh => ⟨hh.1, hh.2.1, by
          have := hh.2.2
          cases hod : o.dst with
          | none => rw [hod] at this; exact this
          | some d => rw [hod] at this; simpa using this⟩
        have h2 := VO_env (k := fun v ds'' w'' => ds'' = ds ∧ Agr (fun k => Y k = false) w' w'' ∧ RL P X Xc r ds ops fs (fun ρ' w' => VL P r ops.toArray Q (ops.drop m) ρ' ds w') t' (Pk.put σ o.dst v) w'') (ρ' := ρ') hop hre'
        rw [ha]
        refine VO_sound (K := fun ρ'' ds'' w'' => (ds'' = ds ∧ Agr (fun k => Y k = false) w' w'' ∧ RL P X Xc r ds ops fs (fun ρ' w' => VL P r ops.toArray Q (ops.drop m) ρ' ds w') t' (Pk.put σ o.dst (dv ρ'' o.dst)) w'') ∧ ∃ v, ρ'' = put ρ' o.dst v) (Q := fun _ _ _ _ => False) hA hoko ?_ (fun _ _ _ _ _ h => h.elim) h2
        rintro a' ρ'' w'' hA' ⟨⟨hds', hAgr, hrt⟩, v, rfl⟩
        refine next a' v w'' hds' hA' (hgo v w'' hAgr ?_)
        cases hod : o.dst with
        | none => rw [hod] at hrt; exact hrt
        | some d => rw [hod] at hrt; simpa using hrt
       | false =>
        rw [hg, GI_false] at hre
        simp only [Bool.false_eq_true, if_false]
        exact ⟨fun _ _ => trivial, next _ undef w' (by rw [put_defers]; exact hds) (hA.put (ds := a.defers) (Bool.and_eq_true_iff.1 hoko).1 undef) (hgo undef w' (Agr.refl _ _) hre)⟩
 have e : (fun j => (Array.replicate ops.toArray.size false).getD j false) = fun _ => false := by
  funext j
  by_cases h1 : j < ops.length <;> simp [h1]
 have hI : INV (Array.replicate ops.toArray.size false) ρ w.drew := by
  have := GL.norm (S := fun _ => false) (W := w.drew) (ρ := ρ) (ρ' := ρ) hb t [] [] ρ w.drew ⟨htr, h _ rfl, Ext.refl _, fun _ => rfl, by simp, by simp, by simp, fun _ _ => rfl, by simp, by simp, by simp, by simp⟩
  rw [← e] at this
  exact this
 refine key ops.toArray.size (Array.replicate ops.toArray.size false) ⟨tmps, ds⟩ ρ w.drew rfl (by simp) hAg hI ?_ ?_ (by simp)
 ·intro i hi h1; simp [hi] at h1
 ·intro x _; rfl
end

def RLt (P : Program) (X Xc : Nat → Bool) (r : Option Nat) (ds : List Deferred) (ops : List Oper) (fs : Nat → Value → World → Prop) (T : Env → World → Prop) (t : Tl) (_ : Tok (PProd.mk ops (PProd.mk fs (PProd.mk T t)))) (σ : Env) (W : World) : Prop := RL P X Xc r ds ops fs T t σ W
def RDt (P : Program) (_X : Nat → Bool) (r : Option Nat) (ds : List Deferred) (ops : List Oper) (A : Value → World → Prop) (l : List Oper) (i : Nat) (_ : Tok (PProd.mk ops (PProd.mk A (PProd.mk l i)))) (σ : Env) (W : World) : Prop := ∃ o, nthO l i = some o ∧ GI (gw ops.toArray σ o.guard) (VO P r o (fun ρ'' ds'' w'' => ds'' = ds ∧ Ext W w'' ∧ A (dv ρ'' o.dst) w'') (fun _ _ _ _ => False) σ ds W) (A undef W)
section
variable (P : Program) (X Xc : Nat → Bool) (r : Option Nat) (ds : List Deferred) (ops : List Oper) (fs : Nat → Value → World → Prop) (A : Value → World → Prop) (T : Env → World → Prop) (l : List Oper) (o : Oper) (i : Nat) (σ : Env) (W : World)
@[simp ↓] theorem RL_tok (t : Tl) : RL P X Xc r ds ops fs T t σ W = RLt P X Xc r ds ops fs T t .mk σ W := _root_.id rfl
@[simp ↓] theorem RLt_Z (k) : RLt P X Xc r ds ops fs T .Z k σ W = T σ W := _root_.id rfl
@[simp ↓] theorem RLt_F (t : Tl) (k) : RLt P X Xc r ds ops fs T (.F i t) k σ W = RFt P Xc r ds ops (RL P X Xc r ds ops fs T t) ops i .mk σ W := _root_.id rfl
@[simp ↓] theorem RLt_C (t : Tl) (k) : RLt P X Xc r ds ops fs T (.C i t) k σ W = REt P Xc r ds ops (RL P X Xc r ds ops fs T t) ops i .mk σ W := _root_.id rfl
@[simp ↓] theorem RLt_S (t : Tl) (k) : RLt P X Xc r ds ops fs T (.S i t) k σ W = REt P (fun _ => true) r ds ops (RL P X Xc r ds ops fs T t) ops i .mk σ W := _root_.id rfl
@[simp ↓] theorem RDt_succ (k) : RDt P X r ds ops A (o :: l) (i + 1) k σ W = RDt P X r ds ops A l i .mk σ W := _root_.id rfl
@[simp ↓] theorem RDt_zero (k) : RDt P X r ds ops A (o :: l) 0 k σ W = GIt (gw ops.toArray σ o.guard) (VO P r o (fun ρ'' ds'' w'' => ds'' = ds ∧ Ext W w'' ∧ A (dv ρ'' o.dst) w'') (fun _ _ _ _ => False) σ ds W) (A undef W) .mk := by
 apply propext
 constructor
 ·rintro ⟨o', h1, h2⟩; cases h1; exact h2
 ·exact fun h => ⟨o, rfl, h⟩
end
section
variable {P : Program} {X Xc : Nat → Bool} {r : Option Nat} {ds : List Deferred} {ops : List Oper} {fs : Nat → Value → World → Prop} {T : Env → World → Prop} {i : Nat} {t : Tl} {σ : Env} {W : World}
theorem RL_loose {k} (h : ∀ W', Ext W W' → REt P X r ds ops (RL P X Xc r ds ops fs T t) ops i .mk σ W') : RLt P X Xc r ds ops fs T (.L i t) k σ W := h
theorem RL_float {k} (h1 : ∀ W', Agr (fun k => X k = false) W W' → RDt P X r ds ops (fs i) ops i .mk σ W') (h2 : RL P X Xc r ds ops fs T t σ W) : RLt P X Xc r ds ops fs T (.D i t) k σ W := by
 refine ⟨?_, h2⟩
 cases ho : nthO ops i with
 | none => obtain ⟨o, h, _⟩ := h1 W (Agr.refl _ _); rw [ho] at h; cases h
 | some o =>
  intro W' hW'
  obtain ⟨o', h, h'⟩ := h1 W' hW'
  rw [ho] at h; cases h
  exact h'
theorem RL_wait {k} (h : ∀ v W', Ext W W' → fs i v W' → RL P X Xc r ds ops fs T t (put σ (dstAt ops i) v) W') : RLt P X Xc r ds ops fs T (.W i t) k σ W := h
end
theorem agr_ext {a b : World} (h : Agr (fun _ => false = false) a b) : Ext a b := ⟨h.os, h.tape, h.out, h.size, fun i hi => h.blk i hi rfl⟩
theorem KR_set {w : World} {B : Prop} {a : Addr} {v : Value} {k : Tok (And (Agr (fun _ => true = false) w (w.setCell a v)) B)} (h : B) : KRt (Agr (fun _ => true = false) w (w.setCell a v)) B k :=
 ⟨⟨rfl, rfl, rfl, by simp, fun _ _ h => by cases h⟩, h⟩
end Pk
namespace Pk
open Go Go.WideShapes Go.Deep Go.ChangeShapes
inductive CK
 | int (k : IntKind)
 | bool
 | str
def fits : CK → Value → Prop
 | .int k, v => ∃ n, v = .int k n ∧ (Lit.int k n).wf = true
 | .bool, v => ∃ b, v = .bool b
 | .str, v => ∃ b, v = .string b
def Fit : List CK → List Value → Prop
 | [], [] => True
 | k :: ks, v :: vs => fits k v ∧ Fit ks vs
 | _, _ => False
theorem Fit.length : ∀ {ks : List CK} {vs : List Value}, Fit ks vs → ks.length = vs.length
 | [], [], _ => rfl
 | _ :: _, _ :: _, h => congrArg (· + 1) (Fit.length h.2)
 | [], _ :: _, h => h.elim
 | _ :: _, [], h => h.elim
theorem Fit.cons {k : CK} {ks : List CK} {cs : List Value} (h : Fit (k :: ks) cs) : ∃ v vs, cs = v :: vs ∧ fits k v ∧ Fit ks vs := by
 cases cs with
 | nil => exact h.elim
 | cons v vs => exact ⟨v, vs, rfl, h.1, h.2⟩
theorem Fit.nil {cs : List Value} (h : Fit [] cs) : cs = [] := by
 cases cs with
 | nil => rfl
 | cons v vs => exact h.elim
theorem agg_of {v a b : Value} {l : List Value} (h : v.cells.toList = a :: b :: l) : v = .agg (a :: b :: l).toArray := by
 cases v with
 | agg cs =>
  have : cs.toList = a :: b :: l := h
  rw [← this]
 | _ => simp [Value.cells] at h
theorem Fit.append : ∀ {k1 k2 : List CK} {v1 v2 : List Value}, Fit k1 v1 → Fit k2 v2 → Fit (k1 ++ k2) (v1 ++ v2)
 | [], _, [], _, _, h => h
 | _ :: _, _, _ :: _, _, h, h' => ⟨h.1, Fit.append h.2 h'⟩
 | [], _, _ :: _, _, h, _ => h.elim
 | _ :: _, _, [], _, h, _ => h.elim
def flatFs (P : Program) (g : TypeId → Option (List CK)) : List Field → Nat → Option (List CK)
 | [], _ => some []
 | f :: fs, off => match g f.type, flatFs P g fs (off + P.cellsOf f.type) with
  | some l, some r => if f.offset == off && P.cellsOf f.type == l.length then some (l ++ r) else none
  | _, _ => none
def flat (P : Program) : Nat → TypeId → Option (List CK)
 | 0, _ => none
 | n + 1, t => match P.underlying t with
  | some (.int k) => some [.int k]
  | some .bool => some [.bool]
  | some .string => some [.str]
  | some (.struct ⟨fs⟩) => (flatFs P (flat P n) fs 0).bind fun l => if P.cellsOf t == l.length then some l else none
  | some (.array len e) => (flat P n e).bind fun l => if P.cellsOf e == l.length && P.cellsOf t == len * l.length then some (List.replicate len l).flatten else none
  | _ => none
section
variable {H : Type} {enc : TypeId × Value → H} {P : Program} {w : World} {base : Nat} {spare : Nat → Bool} {held : Bool}
theorem fit_fields {g : TypeId → Option (List CK)} {cs : List Value} : ∀ (fs : List Field) (off : Nat) (l : List CK), flatFs P g fs off = some l → (∀ f ∈ fs, ∀ l', g f.type = some l' → Fit l' ((cs.drop f.offset).take (P.cellsOf f.type))) →
  Fit l ((cs.drop off).take l.length)
 | [], off, l, h, _ => by
  cases h
  simp [Fit]
 | f :: fs, off, l, h, hf => by
  unfold flatFs at h
  split at h
  ·rename_i l1 r h1 h2
   split at h
   ·rename_i hc
    simp only [Bool.and_eq_true, beq_iff_eq] at hc
    cases h
    have f1 := hf f (by simp) l1 h1
    have f2 := fit_fields fs _ r h2 fun f' hf' => hf f' (by simp [hf'])
    rw [hc.1, hc.2] at f1
    rw [hc.2] at f2
    have e : (cs.drop off).take (l1 ++ r).length = (cs.drop off).take l1.length ++ (cs.drop (off + l1.length)).take r.length := by
     rw [List.length_append, List.take_add, List.drop_drop]
    rw [e]
    exact f1.append f2
   ·cases h
  ·cases h
theorem fit_rows {l : List CK} {cs : List Value} : ∀ (n k : Nat), (∀ i, k ≤ i → i < k + n → Fit l ((cs.drop (i * l.length)).take l.length)) → Fit (List.replicate n l).flatten ((cs.drop (k * l.length)).take (n * l.length))
 | 0, k, _ => by simp [Fit]
 | n + 1, k, h => by
  have f1 := h k (Nat.le_refl _) (by omega)
  have f2 := fit_rows n (k + 1) fun i h1 h2 => h i (by omega) (by omega)
  have e : (cs.drop (k * l.length)).take ((n + 1) * l.length) = (cs.drop (k * l.length)).take l.length ++ (cs.drop ((k + 1) * l.length)).take (n * l.length) := by
   have e1 : (n + 1) * l.length = l.length + n * l.length := by rw [Nat.succ_mul]; omega
   have e2 : (k + 1) * l.length = k * l.length + l.length := Nat.succ_mul _ _
   rw [e1, List.take_add, List.drop_drop, e2]
  rw [e, List.replicate_succ, List.flatten_cons]
  exact f1.append f2
theorem trod_flat : ∀ (n : Nat) (t : TypeId) (l : List CK), flat P n t = some l → ∀ (fuel : Nat) (cs : List Value) (x : DataW H × List MemPlace), DataW.trod enc P w base spare held fuel t cs = some x → Fit l cs
 | 0, t, l, h, _, _, _, _ => by cases h
 | n + 1, t, l, h, fuel, cs, x, hx => by
  unfold flat at h
  split at h
  ·rename_i k ht
   cases h
   obtain ⟨m, h1, h2, h3⟩ := DataW.trod_int ht hx
   subst h1
   exact ⟨⟨m, rfl, h3⟩, trivial⟩
  ·rename_i ht
   cases h
   obtain ⟨b, h1, h2⟩ := DataW.trod_bool ht hx
   subst h1
   exact ⟨⟨b, rfl⟩, trivial⟩
  ·rename_i ht
   cases h
   obtain ⟨b, h1, h2⟩ := DataW.trod_string ht hx
   subst h1
   exact ⟨⟨b, rfl⟩, trivial⟩
  ·rename_i fs ht
   cases hfs : flatFs P (flat P n) fs 0 with
   | none => rw [hfs] at h; cases h
   | some l' =>
    rw [hfs, Option.bind_some] at h
    split at h
    ·rename_i hc
     cases h
     rw [beq_iff_eq] at hc
     obtain ⟨xs, m, _, _, hl, hxl, hf⟩ := DataW.trod_struct ht hx
     have := fit_fields (cs := cs) fs 0 _ hfs fun f hff l2 hl2 => by
      obtain ⟨i, hi⟩ := List.mem_iff_getElem?.1 hff
      have hil := (List.getElem?_eq_some_iff.1 hi).1
      have h2 := hf i f (by simpa using hi)
      rw [List.getElem?_eq_getElem (by rw [hxl]; simpa using hil)] at h2
      exact trod_flat n f.type l2 hl2 _ _ _ h2
     rw [List.drop_zero, ← hc, ← hl, List.take_length] at this
     exact this
    ·cases h
  ·rename_i len e ht
   cases hfs : flat P n e with
   | none => rw [hfs] at h; cases h
   | some l' =>
    rw [hfs, Option.bind_some] at h
    split at h
    ·rename_i hc
     cases h
     simp only [Bool.and_eq_true, beq_iff_eq] at hc
     obtain ⟨xs, m, _, _, hl, hxl, hf⟩ := DataW.trod_array ht hx
     have := fit_rows (cs := cs) len 0 fun i _ hi => by
      have h2 := hf i (by omega)
      rw [List.getElem?_eq_getElem (by omega), hc.1] at h2
      exact trod_flat n e _ hfs _ _ _ h2
     rw [Nat.zero_mul, List.drop_zero, ← hc.2, ← hl, List.take_length] at this
     exact this
    ·cases h
  ·cases h
end
structure SlA (w : World) (s : Nat) (v : Value) (n : Nat) (cs : List Value) : Prop where
 len : cs.length = n * s
 val : ∃ ao c, v = .slice ao n c ∧ (0 < n → ∃ b o, ao = some ⟨b, o, none⟩)
 at_ : ∀ j u, cs[j]? = some u → w.cell? ⟨slB v, slO v + j, none⟩ = some u
theorem SlA.ext {w w' : World} {s : Nat} {v : Value} {n : Nat} {cs : List Value} (h : SlA w s v n cs) (he : Ext w w') : SlA w' s v n cs := ⟨h.len, h.val, fun j u hj => he.cell_eq (h.at_ j u hj)⟩
theorem SlA.isLen {P : Program} {w : World} {s : Nat} {v : Value} {n : Nat} {cs : List Value} {t : TypeId} (h : SlA w s v n cs) (hs : isS (P.underlying t) = true) (ty : TypeId) (w' : World) : (Builtin.len_ #[t] ty #[v]).run P w' = .ok (.int .i64 n) w' := by
 obtain ⟨ao, c, rfl, _⟩ := h.val
 exact r_len_slice P w' t ty ao n c hs
theorem SlA.index {P : Program} {w : World} {s : Nat} {v : Value} {n : Nat} {cs : List Value} {t : TypeId} (h : SlA w s v n cs) (hs : isS (P.underlying t) = true) (k : IntKind) (i : Int) (h0 : 0 ≤ i) (h1 : i < n) (w' : World) :
  (Instr.indexAt t v (.int k i)).run P w' = ((Go.sizeOf (elemT (P.underlying t))).run P w').andThen fun n w' => .ok (.pointer (some ⟨slB v, slO v + i.toNat * n, none⟩)) w' := by
 obtain ⟨ao, c, rfl, ha⟩ := h.val
 obtain ⟨b, o, rfl⟩ := ha (by omega)
 exact r_index_slice P w' t b o n c k i hs h0 h1
section
variable {H : Type} {enc : TypeId × Value → H} {P : Program}
theorem open_flat {W : World} {v : Value} {d : DataW H} {ps : List MemPlace} {t : TypeId} {m : Nat} {l : List CK} (hl : flat P m t = some l) (h : DataW.Trod enc P W 0 (fun _ => true) true t v d ps) : Fit l v.cells.toList := by
 obtain ⟨fuel, hf⟩ := h
 exact trod_flat m t l hl _ _ _ hf
end
end Pk
namespace Pk
open Go
def shp1 : CK → Value → Bool
 | .int k, .int k' _ => decide (k = k')
 | .bool, .bool _ => true
 | .str, .string _ => true
 | _, _ => false
def shp : List CK → List Value → Bool
 | [], [] => true
 | k :: ks, v :: vs => shp1 k v && shp ks vs
 | _, _ => false
def eqc : Value → Value → Bool
 | .int _ a, .int _ b => a == b
 | .bool a, .bool b => a == b
 | .string a, .string b => a == b
 | _, _ => false
def eqcs : List Value → List Value → Bool
 | [], [] => true
 | x :: xs, y :: ys => eqc x y && eqcs xs ys
 | _, _ => false
theorem shp_len : ∀ {ks : List CK} {vs : List Value}, shp ks vs = true → vs.length = ks.length
 | [], [], _ => rfl
 | _ :: _, _ :: _, h => congrArg (· + 1) (shp_len (Bool.and_eq_true_iff.1 h).2)
 | [], _ :: _, h => by cases h
 | _ :: _, [], h => by cases h
theorem shp_app : ∀ {ks ls : List CK} {vs : List Value}, shp (ks ++ ls) vs = true → shp ks (vs.take ks.length) = true ∧ shp ls (vs.drop ks.length) = true
 | [], ls, vs, h => ⟨rfl, h⟩
 | k :: ks, ls, [], h => by cases h
 | k :: ks, ls, v :: vs, h => by
  obtain ⟨h1, h2⟩ := Bool.and_eq_true_iff.1 h
  obtain ⟨h3, h4⟩ := shp_app h2
  exact ⟨Bool.and_eq_true_iff.2 ⟨h1, h3⟩, h4⟩
theorem eqcs_app : ∀ (a b c d : List Value), a.length = b.length → eqcs (a ++ c) (b ++ d) = (eqcs a b && eqcs c d)
 | [], [], c, d, _ => by simp [eqcs]
 | x :: a, y :: b, c, d, h => by
  simp only [List.cons_append, eqcs, eqcs_app a b c d (by simpa using h), Bool.and_assoc]
 | [], _ :: _, _, _, h => by simp at h
 | _ :: _, [], _, _, h => by simp at h
def aggT (P : Program) (t : TypeId) : Bool := match P.underlying t with | some (.struct _) | some (.array _ _) => true | _ => false
def mkV (P : Program) (t : TypeId) (cs : List Value) : Value := if aggT P t then .agg cs.toArray else cs.headD undef
def flatQs (P : Program) (g : TypeId → Option (List CK)) : List Field → Nat → Option (List CK)
 | [], _ => some []
 | f :: fs, off => match g f.type, flatQs P g fs (off + P.cellsOf f.type) with
  | some l, some r => if f.offset == off && (P.cellsOf f.type == l.length && decide (f.name ≠ "_")) then some (l ++ r) else none
  | _, _ => none
def flatQ (P : Program) : Nat → TypeId → Option (List CK)
 | 0, _ => none
 | n + 1, t => match P.underlying t with
  | some (.int k) => some [.int k]
  | some .bool => some [.bool]
  | some .string => some [.str]
  | some (.struct ⟨fs⟩) => if P.stoodInHeld t then none else (flatQs P (flatQ P n) fs 0).bind fun l => if P.cellsOf t == l.length then some l else none
  | some (.array len e) => (flatQ P n e).bind fun l => if P.cellsOf e == l.length && P.cellsOf t == len * l.length then some (List.replicate len l).flatten else none
  | _ => none
section
variable {P : Program} (w : World)
theorem flatQ_info {n : Nat} {t : TypeId} {l : List CK} (h : flatQ P n t = some l) : ∃ i, P.info? t = some i := by
 cases n with
 | zero => cases h
 | succ n =>
  unfold flatQ at h
  cases hu : P.underlying t with
  | none => rw [hu] at h; cases h
  | some d => exact info_of_underlying hu
theorem flatQ_len : ∀ {n : Nat} {t : TypeId} {l : List CK}, flatQ P n t = some l → aggT P t = false → ∃ k, l = [k]
 | 0, _, _, h, _ => by cases h
 | n + 1, t, l, h, ha => by
  unfold flatQ at h
  unfold aggT at ha
  split at h
  ·cases h; exact ⟨_, rfl⟩
  ·cases h; exact ⟨_, rfl⟩
  ·cases h; exact ⟨_, rfl⟩
  ·rename_i hu; rw [hu] at ha; cases ha
  ·rename_i hu; rw [hu] at ha; cases ha
  ·cases h
theorem run_part_flat {n : Nat} {e : TypeId} {l : List CK} (h : flatQ P n e = some l) (hc : P.cellsOf e = l.length) (xs : Array Value) (off : Nat) (hx : off + l.length ≤ xs.size) :
  (part e xs off).run P w = .ok (mkV P e ((xs.toList.drop off).take l.length)) w := by
 obtain ⟨i, hi⟩ := flatQ_info h
 have key : (isAgg e).run P w = .ok (aggT P e) w := by
  unfold isAgg aggT
  cases n with
  | zero => cases h
  | succ n =>
   unfold flatQ at h
   cases hu : P.underlying e with
   | none => rw [hu] at h; cases h
   | some d =>
    simp only [Sem.run_bind, run_underlying hu, Result.andThen_ok]
    cases d <;> rfl
 unfold part mkV
 simp only [Sem.run_bind, key, Result.andThen_ok]
 cases ha : aggT P e with
 | true =>
  simp only [if_true, Sem.run_bind, run_sizeOf w hi, Result.andThen_ok, Sem.run_pure, hc]
  congr 2
  apply Array.ext'
  rw [Array.toList_extract]
  simp [List.extract]
 | false =>
  obtain ⟨k, rfl⟩ := flatQ_len h ha
  simp only [Bool.false_eq_true, if_false]
  have hlt : off < xs.size := by simp at hx; omega
  rw [Array.getElem?_eq_getElem hlt]
  simp only [Sem.run_pure]
  congr 1
  rw [List.drop_eq_getElem_cons (by simpa using hlt)]
  simp
theorem shp_int {k : IntKind} {x : List Value} (h : shp [.int k] x = true) : ∃ a, x = [.int k a] := by
 match x, h with
 | [v], h =>
  obtain ⟨h1, _⟩ := Bool.and_eq_true_iff.1 h
  cases v <;> simp [shp1] at h1
  subst h1
  exact ⟨_, rfl⟩
 | [], h => cases h
 | v :: u :: x, h => simp [shp] at h
theorem shp_bool {x : List Value} (h : shp [.bool] x = true) : ∃ a, x = [.bool a] := by
 match x, h with
 | [v], h =>
  obtain ⟨h1, _⟩ := Bool.and_eq_true_iff.1 h
  cases v <;> simp [shp1] at h1
  exact ⟨_, rfl⟩
 | [], h => cases h
 | v :: u :: x, h => simp [shp] at h
theorem shp_str {x : List Value} (h : shp [.str] x = true) : ∃ a, x = [.string a] := by
 match x, h with
 | [v], h =>
  obtain ⟨h1, _⟩ := Bool.and_eq_true_iff.1 h
  cases v <;> simp [shp1] at h1
  exact ⟨_, rfl⟩
 | [], h => cases h
 | v :: u :: x, h => simp [shp] at h
theorem flatQs_inv {g : TypeId → Option (List CK)} {f : Field} {fs : List Field} {off : Nat} {l : List CK} (h : flatQs P g (f :: fs) off = some l) :
  ∃ l1 r, g f.type = some l1 ∧ flatQs P g fs (off + l1.length) = some r ∧ f.offset = off ∧ P.cellsOf f.type = l1.length ∧ f.name ≠ "_" ∧ l = l1 ++ r := by
 unfold flatQs at h
 split at h
 ·rename_i l1 r h1 h2
  split at h
  ·rename_i hc
   simp only [Bool.and_eq_true, beq_iff_eq, decide_eq_true_eq] at hc
   cases h
   exact ⟨l1, r, h1, by rw [← hc.2.1]; exact h2, hc.1, hc.2.1, hc.2.2, rfl⟩
  ·cases h
 ·cases h
theorem take_drop_len {α : Type} (xs : List α) (off a b : Nat) : (xs.drop off).take (a + b) = (xs.drop off).take a ++ (xs.drop (off + a)).take b := by
 rw [List.take_add, List.drop_drop]
theorem eqFields_flat {n d : Nat} (ih : ∀ t l, flatQ P n t = some l → ∀ xs ys, shp l xs = true → shp l ys = true → (Op.equalIn d t (mkV P t xs) (mkV P t ys)).run P w = .ok (eqcs xs ys) w) (xs ys : Array Value) : ∀ (fs : List Field) (off : Nat) (l : List CK), flatQs P (flatQ P n) fs off = some l →
  off + l.length ≤ xs.size → off + l.length ≤ ys.size → shp l ((xs.toList.drop off).take l.length) = true → shp l ((ys.toList.drop off).take l.length) = true →
  (Op.eqFields d xs ys fs).run P w = .ok (eqcs ((xs.toList.drop off).take l.length) ((ys.toList.drop off).take l.length)) w
 | [], off, l, h, _, _, _, _ => by
  cases h
  simp [Op.eqFields, eqcs]
 | f :: fs, off, l, h, hx, hy, sx, sy => by
  obtain ⟨l1, r, h1, h2, ho, hc, hn, rfl⟩ := flatQs_inv h
  simp only [List.length_append] at hx hy sx sy ⊢
  rw [take_drop_len] at sx sy ⊢
  rw [take_drop_len ys.toList]
  have tx : ((xs.toList.drop off).take l1.length).length = l1.length := by simp; omega
  have ty : ((ys.toList.drop off).take l1.length).length = l1.length := by simp; omega
  obtain ⟨sx1, sx2⟩ := shp_app sx
  obtain ⟨sy1, sy2⟩ := shp_app sy
  rw [List.take_append_of_le_length (by omega), List.take_of_length_le (by omega)] at sx1 sy1
  have ex : ((xs.toList.drop off).take l1.length ++ (xs.toList.drop (off + l1.length)).take r.length).drop l1.length = (xs.toList.drop (off + l1.length)).take r.length := by
   rw [List.drop_append_of_le_length (by omega), List.drop_of_length_le (by omega)]; rfl
  have ey : ((ys.toList.drop off).take l1.length ++ (ys.toList.drop (off + l1.length)).take r.length).drop l1.length = (ys.toList.drop (off + l1.length)).take r.length := by
   rw [List.drop_append_of_le_length (by omega), List.drop_of_length_le (by omega)]; rfl
  rw [ex] at sx2
  rw [ey] at sy2
  have p1 := run_part_flat w h1 hc xs off (by omega)
  have p2 := run_part_flat w h1 hc ys off (by omega)
  have p3 := ih _ _ h1 _ _ sx1 sy1
  have p4 := eqFields_flat ih xs ys fs _ r h2 (by omega) (by omega) sx2 sy2
  rw [eqcs_app _ _ _ _ (by omega)]
  simp only [Op.eqFields, hn, ne_eq, not_false_eq_true, if_true, Sem.run_bind, ho, p1, p2, p3, Result.andThen_ok]
  cases eqcs (List.take l1.length (List.drop off xs.toList)) (List.take l1.length (List.drop off ys.toList)) with
  | true => simp [p4]
  | false => simp
theorem range'_succ' (k n : Nat) : List.range' k (n + 1) = k :: List.range' (k + 1) n := rfl
theorem eqItems_flat {n d : Nat} {e : TypeId} {l : List CK} (he : flatQ P n e = some l) (hc : P.cellsOf e = l.length) (ih : ∀ xs ys, shp l xs = true → shp l ys = true → (Op.equalIn d e (mkV P e xs) (mkV P e ys)).run P w = .ok (eqcs xs ys) w) (xs ys : Array Value) : ∀ (k j : Nat),
  (j + k) * l.length ≤ xs.size → (j + k) * l.length ≤ ys.size → shp (List.replicate k l).flatten ((xs.toList.drop (j * l.length)).take (k * l.length)) = true → shp (List.replicate k l).flatten ((ys.toList.drop (j * l.length)).take (k * l.length)) = true →
  (Op.eqItems d e (P.cellsOf e) xs ys (List.range' j k)).run P w = .ok (eqcs ((xs.toList.drop (j * l.length)).take (k * l.length)) ((ys.toList.drop (j * l.length)).take (k * l.length))) w
 | 0, j, _, _, _, _ => by simp [Op.eqItems, eqcs]
 | k + 1, j, hx, hy, sx, sy => by
  have e1 : (k + 1) * l.length = l.length + k * l.length := by rw [Nat.succ_mul]; omega
  have e2 : (j + 1) * l.length = j * l.length + l.length := Nat.succ_mul _ _
  have e3 : (j + (k + 1)) * l.length = j * l.length + (l.length + k * l.length) := by rw [Nat.add_mul, e1]
  rw [e3] at hx hy
  rw [e1, take_drop_len, List.replicate_succ, List.flatten_cons] at sx sy
  rw [e1, take_drop_len, take_drop_len ys.toList]
  have tx : ((xs.toList.drop (j * l.length)).take l.length).length = l.length := by simp; omega
  have ty : ((ys.toList.drop (j * l.length)).take l.length).length = l.length := by simp; omega
  obtain ⟨sx1, sx2⟩ := shp_app sx
  obtain ⟨sy1, sy2⟩ := shp_app sy
  rw [List.take_append_of_le_length (by omega), List.take_of_length_le (by omega)] at sx1 sy1
  rw [List.drop_append_of_le_length (by omega), List.drop_of_length_le (by omega)] at sx2 sy2
  simp only [List.nil_append] at sx2 sy2
  rw [← e2] at sx2 sy2 ⊢
  have p1 := run_part_flat w he hc xs (j * l.length) (by omega)
  have p2 := run_part_flat w he hc ys (j * l.length) (by omega)
  have p3 := ih _ _ sx1 sy1
  have p4 := eqItems_flat he hc ih xs ys k (j + 1) (by rw [Nat.add_mul, e2]; omega) (by rw [Nat.add_mul, e2]; omega) sx2 sy2
  rw [eqcs_app _ _ _ _ (by omega), range'_succ']
  simp only [Op.eqItems, Sem.run_bind, hc, p1, p2, p3, Result.andThen_ok]
  rw [hc] at p4
  cases eqcs (List.take l.length (List.drop (j * l.length) xs.toList)) (List.take l.length (List.drop (j * l.length) ys.toList)) with
  | true => simp [p4]
  | false => simp
theorem flat_rep (l : List CK) : ∀ n, (List.replicate n l).flatten.length = n * l.length
 | 0 => by simp
 | n + 1 => by rw [List.replicate_succ, List.flatten_cons, List.length_append, flat_rep l n, Nat.succ_mul]; omega
theorem equalIn_flat (d : Nat) : ∀ (n : Nat) (t : TypeId) (l : List CK), flatQ P n t = some l → ∀ xs ys, shp l xs = true → shp l ys = true → (Op.equalIn (d + n) t (mkV P t xs) (mkV P t ys)).run P w = .ok (eqcs xs ys) w
 | 0, _, _, h, _, _, _, _ => by cases h
 | n + 1, t, l, h, xs, ys, sx, sy => by
  unfold flatQ at h
  rw [show d + (n + 1) = (d + n) + 1 from rfl]
  split at h
  ·rename_i k hu
   cases h
   obtain ⟨a, rfl⟩ := shp_int sx
   obtain ⟨b, rfl⟩ := shp_int sy
   simp [mkV, aggT, hu, run_equalIn_int w _ _ _ _ a b hu, eqcs, eqc]
  ·rename_i hu
   cases h
   obtain ⟨a, rfl⟩ := shp_bool sx
   obtain ⟨b, rfl⟩ := shp_bool sy
   simp [mkV, aggT, hu, run_equalIn_bool' w _ _ a b hu, eqcs, eqc]
  ·rename_i hu
   cases h
   obtain ⟨a, rfl⟩ := shp_str sx
   obtain ⟨b, rfl⟩ := shp_str sy
   simp [mkV, aggT, hu, run_equalIn_string w _ _ a b hu, eqcs, eqc, beq_toListBytes]
  ·rename_i fs hu
   split at h
   ·cases h
   ·rename_i hs
    cases hf : flatQs P (flatQ P n) fs 0 with
    | none => rw [hf] at h; cases h
    | some l' =>
     rw [hf, Option.bind_some] at h
     split at h
     ·rename_i hc
      cases h
      have lx := shp_len sx
      have ly := shp_len sy
      have hfs : P.fieldsOf t = ⟨fs⟩ := by simp [Program.fieldsOf, hu]
      have := eqFields_flat w (fun t' l' h' => equalIn_flat d n t' l' h') xs.toArray ys.toArray fs 0 l hf (by simp [lx]) (by simp [ly]) (by simpa [← lx] using sx) (by simpa [← ly] using sy)
      simp only [mkV, aggT, hu, if_true]
      rw [run_equalIn_struct w _ t _ _ (by rw [hfs]; exact hu) (by simpa using hs), hfs, this]
      simp only [List.drop_zero]
      rw [List.take_of_length_le (by omega), List.take_of_length_le (by omega)]
     ·cases h
  ·rename_i len e hu
   cases hf : flatQ P n e with
   | none => rw [hf] at h; cases h
   | some l' =>
    rw [hf, Option.bind_some] at h
    split at h
    ·rename_i hc
     simp only [Bool.and_eq_true, beq_iff_eq] at hc
     cases h
     have lx := shp_len sx
     have ly := shp_len sy
     rw [flat_rep] at lx ly
     obtain ⟨i, hi⟩ := flatQ_info hf
     have := eqItems_flat w hf hc.1 (fun xs ys h1 h2 => equalIn_flat d n e l' hf xs ys h1 h2) xs.toArray ys.toArray len 0 (by simp [lx]) (by simp [ly]) (by rw [← lx]; simpa using sx) (by rw [← ly]; simpa using sy)
     simp only [mkV, aggT, hu, if_true]
     rw [run_equalIn_array w _ _ _ hu hi, List.range_eq_range', this]
     simp only [Nat.zero_mul, List.drop_zero]
     rw [List.take_of_length_le (by omega), List.take_of_length_le (by omega)]
    ·cases h
  ·cases h
end
def flatA (P : Program) (t : TypeId) : Option (List CK) := if aggT P t then flatQ P 12 t else none
theorem equal_flat {P : Program} (w : World) {t : TypeId} {l : List CK} (h : flatA P t = some l) {xs ys : Array Value} (hx : shp l xs.toList = true) (hy : shp l ys.toList = true) :
  (Op.equal t (.agg xs) (.agg ys)).run P w = .ok (eqcs xs.toList ys.toList) w := by
 unfold flatA at h
 split at h
 ·rename_i ha
  have := equalIn_flat w 9988 12 t l h _ _ hx hy
  simpa [mkV, ha, Op.equal, Op.maxDepth] using this
 ·cases h
theorem run_eql_flat {P : Program} (w : World) {t : TypeId} {l : List CK} (h : flatA P t = some l) (xs ys : Array Value) (hx : shp l xs.toList = true) (hy : shp l ys.toList = true) :
  (binOp .eql t (.agg xs) (.agg ys)).run P w = .ok (.bool (eqcs xs.toList ys.toList)) w := by
 rw [run_eql_struct]
 have := equal_flat w h hx hy
 simp only [Op.equal, Op.maxDepth] at this
 rw [this]
 rfl
section
variable {P : Program} (w : World)
theorem check_flat (em : Bool) (d : Nat) : ∀ (n : Nat) (t : TypeId) (l : List CK), flatQ P n t = some l → ∀ xs, shp l xs = true → (Instr.checkKey em (d + n) t (mkV P t xs)).run P w = .ok () w
 | 0, _, _, h, _, _ => by cases h
 | n + 1, t, l, h, xs, sx => by
  unfold flatQ at h
  rw [show d + (n + 1) = (d + n) + 1 from rfl]
  split at h
  ·rename_i k hu
   cases h
   obtain ⟨a, rfl⟩ := shp_int sx
   simp [Instr.checkKey, mkV, aggT, hu, run_underlying hu]
  ·rename_i hu
   cases h
   obtain ⟨a, rfl⟩ := shp_bool sx
   simp [Instr.checkKey, mkV, aggT, hu, run_underlying hu]
  ·rename_i hu
   cases h
   obtain ⟨a, rfl⟩ := shp_str sx
   simp [Instr.checkKey, mkV, aggT, hu, run_underlying hu]
  ·rename_i fs hu
   split at h
   ·cases h
   ·cases hf : flatQs P (flatQ P n) fs 0 with
    | none => rw [hf] at h; cases h
    | some l' =>
     rw [hf, Option.bind_some] at h
     split at h
     ·rename_i hc
      cases h
      have lx := shp_len sx
      simp only [mkV, aggT, hu, if_true, Instr.checkKey, Sem.run_bind, run_underlying hu, Result.andThen_ok]
      rw [← Array.forIn_toList]
      have key : ∀ (fs : List Field) (off : Nat) (l : List CK), flatQs P (flatQ P n) fs off = some l → off + l.length ≤ xs.length → shp l ((xs.drop off).take l.length) = true →
        (ForIn.forIn (m := Sem) fs PUnit.unit fun f _ => do
         if f.name ≠ "_" then do
          Instr.checkKey em (d + n) f.type (← part f.type xs.toArray f.offset)
          pure (ForInStep.yield PUnit.unit)
         else pure (ForInStep.yield PUnit.unit)).run P w = .ok PUnit.unit w := by
       intro fs
       induction fs with
       | nil => intro off l h _ _; simp
       | cons f fs ih =>
        intro off l h hx sx
        obtain ⟨l1, r, h1, h2, ho, hcc, hn, rfl⟩ := flatQs_inv h
        simp only [List.length_append] at hx sx
        rw [take_drop_len] at sx
        have tx : ((xs.drop off).take l1.length).length = l1.length := by simp; omega
        obtain ⟨sx1, sx2⟩ := shp_app sx
        rw [List.take_append_of_le_length (by omega), List.take_of_length_le (by omega)] at sx1
        rw [List.drop_append_of_le_length (by omega), List.drop_of_length_le (by omega)] at sx2
        simp only [List.nil_append] at sx2
        have p1 := run_part_flat w h1 hcc xs.toArray off (by simp; omega)
        simp only at p1
        have p2 := check_flat em d n _ _ h1 _ sx1
        have p3 := ih _ _ h2 (by omega) sx2
        simp only [List.forIn_cons, Sem.run_bind, hn, ne_eq, not_false_eq_true, if_true, ho, p1, Result.andThen_ok, p2, Sem.run_pure]
        exact p3
      rw [key fs 0 l hf (by omega) (by rw [List.drop_zero, List.take_of_length_le (by omega)]; exact sx)]
      simp
     ·cases h
  ·rename_i len e hu
   cases hf : flatQ P n e with
   | none => rw [hf] at h; cases h
   | some l' =>
    rw [hf, Option.bind_some] at h
    split at h
    ·rename_i hc
     simp only [Bool.and_eq_true, beq_iff_eq] at hc
     cases h
     have lx := shp_len sx
     rw [flat_rep] at lx
     obtain ⟨i, hi⟩ := flatQ_info hf
     simp only [mkV, aggT, hu, if_true, Instr.checkKey, Sem.run_bind, run_underlying hu, Result.andThen_ok]
     simp only [Std.Legacy.Range.forIn_eq_forIn_range', Std.Legacy.Range.size, Nat.sub_zero, Nat.add_one_sub_one, Nat.div_one]
     have key : ∀ (k j : Nat), (j + k) * l'.length ≤ xs.length → shp (List.replicate k l').flatten ((xs.drop (j * l'.length)).take (k * l'.length)) = true →
       (ForIn.forIn (m := Sem) (List.range' j k) PUnit.unit fun i _ => do
        Instr.checkKey em (d + n) e (← part e xs.toArray (i * (← sizeOf e)))
        pure (ForInStep.yield PUnit.unit)).run P w = .ok PUnit.unit w := by
      intro k
      induction k with
      | zero => intro j _ _; simp
      | succ k ih =>
       intro j hx sx
       have e1 : (k + 1) * l'.length = l'.length + k * l'.length := by rw [Nat.succ_mul]; omega
       have e2 : (j + 1) * l'.length = j * l'.length + l'.length := Nat.succ_mul _ _
       have e3 : (j + (k + 1)) * l'.length = j * l'.length + (l'.length + k * l'.length) := by rw [Nat.add_mul, e1]
       rw [e3] at hx
       rw [e1, take_drop_len, List.replicate_succ, List.flatten_cons] at sx
       have tx : ((xs.drop (j * l'.length)).take l'.length).length = l'.length := by simp; omega
       obtain ⟨sx1, sx2⟩ := shp_app sx
       rw [List.take_append_of_le_length (by omega), List.take_of_length_le (by omega)] at sx1
       rw [List.drop_append_of_le_length (by omega), List.drop_of_length_le (by omega)] at sx2
       simp only [List.nil_append] at sx2
       rw [← e2] at sx2
       have p1 := run_part_flat w hf hc.1 xs.toArray (j * l'.length) (by simp; omega)
       simp only at p1
       have p2 := check_flat em d n _ _ hf _ sx1
       have p3 := ih (j + 1) (by rw [Nat.add_mul, e2]; omega) sx2
       rw [range'_succ']
       simp only [List.forIn_cons, Sem.run_bind, run_sizeOf w hi, Result.andThen_ok, hc.1, p1, p2, Sem.run_pure]
       exact p3
     rw [key len 0 (by simp [lx]) (by rw [Nat.zero_mul, List.drop_zero, List.take_of_length_le (by omega)]; exact sx)]
     simp
    ·cases h
  ·cases h
theorem bits_flat : ∀ {l : List CK} {xs : List Value}, shp l xs = true → (xs.zip xs).all (fun (x, y) => Instr.sameBits 9999 x y) = true
 | [], [], _ => rfl
 | k :: l, x :: xs, h => by
  obtain ⟨h1, h2⟩ := Bool.and_eq_true_iff.1 h
  simp only [List.zip_cons_cons, List.all_cons, bits_flat h2, Bool.and_true]
  cases k <;> cases x <;> simp [shp1] at h1 <;> simp [Instr.sameBits] <;> simp [beq_toListBytes]
 | [], _ :: _, h => by cases h
 | _ :: _, [], h => by cases h
theorem keyEq_flat {κ : Type} [DecidableEq κ] {K : TypeId} {l : List CK} {g : κ → List Value} (h : flatA P K = some l) (hs : ∀ k, shp l (g k) = true) (hg : ∀ k k', eqcs (g k) (g k') = decide (k = k')) : KeyEq P K (fun k => .agg (g k).toArray) where
 find := by
  intro k es m w he
  have hwide : (match P.underlying K with | some (.array _ _) | some (.struct _) => true | _ => false) = true := by
   unfold flatA at h
   split at h
   ·rename_i ha
    unfold aggT at ha
    split at ha <;> simp_all
   ·cases h
  have e0 : (Instr.findKey K (.agg (g k).toArray) es).run P w = (Instr.findAsking K (.agg (g k).toArray) es).run P w := by
   cases hu : P.underlying K with
   | none => rw [hu] at hwide; cases hwide
   | some d =>
    have hn : Instr.findNow d (.agg (g k).toArray) es 0 = none ∨ es = [] := by
     cases es with
     | nil => right; rfl
     | cons e es =>
      left
      cases d <;> simp [Instr.findNow, Instr.sameNow]
    unfold Instr.findKey
    simp only [Sem.run_bind, run_underlying hu, Result.andThen_ok]
    rcases hn with hn | rfl
    ·rw [hn]
    ·simp [Instr.findNow, Instr.findAsking]
  rw [e0]
  have key : ∀ (es : List MapEntry) (m : List κ) (i : Nat), es.map (·.key) = m.map (fun k => Value.agg (g k).toArray) →
    (Instr.findAsking K (.agg (g k).toArray) es i).run P w = .ok ((m.findIdx? (fun x => decide (x = k))).bind fun j => (es[j]?).map fun e => (i + j, e.val)) w := by
   intro es
   induction es with
   | nil => intro m i h; cases m with
    | nil => simp [Instr.findAsking]
    | cons => simp at h
   | cons e es ih =>
    intro m i hm
    cases m with
    | nil => simp at hm
    | cons x m =>
     simp only [List.map_cons, List.cons.injEq] at hm
     have := equal_flat w h (xs := (g k).toArray) (ys := (g x).toArray) (hs k) (hs x)
     simp only [hg] at this
     simp only [Instr.findAsking, Sem.run_bind, hm.1, this, Result.andThen_ok, List.findIdx?_cons]
     by_cases hx : x = k
     ·subst hx; simp
     ·simp only [Ne.symm hx, decide_false, Bool.false_eq_true, if_false, ih m (i + 1) hm.2, hx]
      cases m.findIdx? (fun x => decide (x = k)) with
      | none => rfl
      | some j => simp only [Option.map_some, Option.bind_some]; congr 2; funext e; congr 1; omega
  simpa using key es m 0 he
 check := by
  intro b k w
  unfold flatA at h
  split at h
  ·rename_i ha
   have := check_flat w b 9988 12 K l h (g k) (hs k)
   simpa [mkV, ha] using this
  ·cases h
 same := by
  intro k w
  have e : Instr.sameBits 10000 (.agg (g k).toArray) (.agg (g k).toArray) = true := by
   show Instr.sameBits (9999 + 1) (.agg (g k).toArray) (.agg (g k).toArray) = true
   simp only [Instr.sameBits, beq_self_eq_true, Bool.true_and]
   exact bits_flat (hs k)
  unfold Instr.keyThatStays
  rw [if_pos e]
  rfl
end
end Pk
namespace Pk
open Go
section
variable {κ ν : Type} {ek : κ → Value} {ew : ν → Value} {P : Program} {w : World} {v : Value} {m : List (κ × ν)}
def MapV (ek : κ → Value) (ew : ν → Value) (w : World) (v : Value) (m : List (κ × ν)) : Prop :=
 (∃ r, v = .map (some r) ∧ MapAt ek ew w r m) ∨ (v = .map none ∧ m = [])
theorem MapAt.val {r : Nat} (h : MapAt ek ew w r m) : MapV ek ew w (.map (some r)) m := .inl ⟨r, rfl, h⟩
theorem MapV.nil : MapV ek ew w (.map none) ([] : List (κ × ν)) := .inr ⟨rfl, rfl⟩
theorem MapV.keep {w' : World} (h : MapV ek ew w v m) (hb : ∀ r, v = .map (some r) → r < w.heap.size → w'.heap[r]? = w.heap[r]?) : MapV ek ew w' v m := by
 rcases h with ⟨r, rfl, h⟩ | h
 ·exact .inl ⟨r, rfl, h.keep (hb r rfl h.lt)⟩
 ·exact .inr h
theorem MapV.ext {w' : World} (h : MapV ek ew w v m) (he : Ext w w') : MapV ek ew w' v m := h.keep fun r _ hr => he.blk r hr
theorem MapV.mod {w' : World} {S : Nat → Prop} (h : MapV ek ew w v m) (he : Mod S w w') (hs : ∀ r, v = .map (some r) → ¬ S r) : MapV ek ew w' v m := h.keep fun r e hr => he.blk r hr (hs r e)
theorem MapV.agr {w' : World} {S : Nat → Prop} (h : MapV ek ew w v m) (he : Agr S w w') (hs : ∀ r, v = .map (some r) → S r) : MapV ek ew w' v m := h.keep fun r e hr => he.blk r hr (hs r e)
theorem MapV.lt (h : MapV ek ew w v m) {r : Nat} (e : v = .map (some r)) : r < w.heap.size := by
 rcases h with ⟨r', rfl, h⟩ | ⟨rfl, _⟩
 ·cases e; exact h.lt
 ·cases e
theorem MapV.nodup (h : MapV ek ew w v m) : (m.map (·.1)).Nodup := by
 rcases h with ⟨r, rfl, h⟩ | ⟨rfl, rfl⟩
 ·exact h.nodup
 ·exact List.nodup_nil
theorem MapV.lookup [DecidableEq κ] {T K E : TypeId} (h : MapV ek ew w v m) (hK : KeyEq P K ek) (hT : P.underlying T = some (.map K E)) {z : Value} (hz : (zeroValue E).run P w = .ok z w) (k : κ) (ok : Bool) :
  (Instr.lookup T v (ek k) ok).run P w = .ok (if ok then .tuple #[((mget m k).map ew).getD z, .bool (mget m k).isSome] else ((mget m k).map ew).getD z) w := by
 rcases h with ⟨r, rfl, h⟩ | ⟨rfl, rfl⟩
 ·exact h.lookup hK hT hz k ok
 ·have hu := run_und hT w
  have hc := hK.check true k w
  have hf := hK.find k [] [] w rfl
  unfold Instr.lookup
  simp only [Sem.run_bind, hu, Result.andThen_ok, Sem.run_pure, Array.isEmpty_empty, hc, hf]
  cases ok <;> simp [hz, mget]
theorem MapV.len {T : TypeId} (h : MapV ek ew w v m) (hT : isM (P.underlying T) = true) (ty : TypeId) : (Builtin.len_ #[T] ty #[v]).run P w = .ok (.int .i64 m.length) w := by
 rcases h with ⟨r, rfl, h⟩ | ⟨rfl, rfl⟩
 ·exact h.len hT ty
 ·have hu := run_und (isM_inv hT) w
  simp [Builtin.len_, hu, goInt]
def VIter (ek : κ → Value) (ew : ν → Value) (w : World) (b : Nat) (v : Value) (m : List (κ × ν)) (idxs : List Nat) : Prop :=
 (∃ r, v = .map (some r) ∧ MIter ek ew w b r m idxs) ∨ (v = .map none ∧ m = [] ∧ idxs = [] ∧ ∃ c s d, w.heap[b]? = some (.mapIter none c s d))
variable {b : Nat} {idxs : List Nat}
theorem VIter.keep {w' : World} (h : VIter ek ew w b v m idxs) (h1 : ∀ r, v = .map (some r) → w'.heap[r]? = w.heap[r]?) (h2 : w'.heap[b]? = w.heap[b]?) : VIter ek ew w' b v m idxs := by
 rcases h with ⟨r, rfl, h⟩ | ⟨rfl, h3, h4, c, s, d, h5⟩
 ·exact .inl ⟨r, rfl, h.keep (h1 r rfl) h2⟩
 ·exact .inr ⟨rfl, h3, h4, c, s, d, h2.trans h5⟩
theorem VIter.lt (h : VIter ek ew w b v m idxs) : (∀ r, v = .map (some r) → r < w.heap.size) ∧ b < w.heap.size := by
 rcases h with ⟨r, rfl, h⟩ | ⟨rfl, h3, h4, c, s, d, h5⟩
 ·exact ⟨fun r' e => by cases e; exact h.lt.1, h.lt.2⟩
 ·exact ⟨fun r' e => (by cases e), (Array.getElem?_eq_some_iff.1 h5).1⟩
theorem VIter.ext {w' : World} (h : VIter ek ew w b v m idxs) (he : Ext w w') : VIter ek ew w' b v m idxs := h.keep (fun r e => he.blk _ (h.lt.1 r e)) (he.blk _ h.lt.2)
theorem VIter.mod {w' : World} {S : Nat → Prop} (h : VIter ek ew w b v m idxs) (hM : Mod S w w') (h1 : ∀ r, v = .map (some r) → ¬ S r) (h2 : ¬ S b) : VIter ek ew w' b v m idxs := h.keep (fun r e => hM.blk _ (h.lt.1 r e) (h1 r e)) (hM.blk _ h.lt.2 h2)
theorem VIter.agr {w' : World} {S : Nat → Prop} (h : VIter ek ew w b v m idxs) (hM : Agr S w w') (h1 : ∀ r, v = .map (some r) → S r) (h2 : S b) : VIter ek ew w' b v m idxs := h.keep (fun r e => hM.blk _ (h.lt.1 r e) (h1 r e)) (hM.blk _ h.lt.2 h2)
theorem VIter.obj (h : VIter ek ew w b v m idxs) : ∃ a c s d, w.heap[b]? = some (.mapIter a c s d) := by
 rcases h with ⟨r, rfl, h⟩ | ⟨rfl, h3, h4, c, s, d, h5⟩
 ·exact h.obj
 ·exact ⟨_, _, _, _, h5⟩
theorem VIter.bound (h : VIter ek ew w b v m idxs) : idxs.length ≤ m.length := by
 rcases h with ⟨r, rfl, h⟩ | ⟨rfl, rfl, rfl, _⟩
 ·exact h.bound
 ·exact Nat.le_refl _
theorem MapV.range (h : MapV ek ew w v m) {T K E : TypeId} (hT : P.underlying T = some (.map K E)) :
  ∃ o, (Instr.range T v).run P w = .ok (.pointer (some ⟨w.heap.size, 0, none⟩)) (w.alloc o) ∧ VIter ek ew (w.alloc o) w.heap.size v m [] := by
 rcases h with ⟨r, rfl, h⟩ | ⟨rfl, rfl⟩
 ·obtain ⟨o, h1, h2⟩ := h.range hT
  exact ⟨o, h1, .inl ⟨r, rfl, h2⟩⟩
 ·have hu := run_und hT w
  refine ⟨.mapIter none 0 #[] 0, ?_, .inr ⟨rfl, rfl, rfl, _, _, _, World.alloc_heap_new w _⟩⟩
  unfold Instr.range
  simp [hu, newObj, Sem.run]
theorem VIter.next (h : VIter ek ew w b v m idxs) (ty : TypeId) :
  (idxs.Perm (List.range m.length) ∧ (Instr.next (.pointer (some ⟨b, 0, none⟩)) false ty).run P w = .ok (.tuple #[.bool false]) w) ∨
  ∃ (i : Nat) (p : κ × ν) (w' : World), m[i]? = some p ∧ i ∉ idxs ∧ (Instr.next (.pointer (some ⟨b, 0, none⟩)) false ty).run P w = .ok (.tuple #[.bool true, ek p.1, ew p.2]) w' ∧ VIter ek ew w' b v m (idxs ++ [i]) ∧ Mod (· = b) w w' ∧
   (Instr.entry (.pointer (some ⟨b, 0, none⟩))).run P w' = .ok (.tuple #[ek p.1, ew p.2]) w' ∧ w'.heap.size = w.heap.size := by
 rcases h with ⟨r, rfl, h⟩ | ⟨rfl, rfl, rfl, c, s, d, h5⟩
 ·rcases h.next (P := P) ty with h1 | ⟨i, p, w', h1, h2, h3, h4, h5⟩
  ·exact .inl h1
  ·exact .inr ⟨i, p, w', h1, h2, h3, .inl ⟨r, rfl, h4⟩, h5⟩
 ·left
  refine ⟨by simp, ?_⟩
  have hg : (getObj b).run P w = .ok (.mapIter none c s d) w := by simp [getObj, Sem.run, h5]
  unfold Instr.next
  simp [hg]
def seenOf (m : List (κ × ν)) (idxs : List Nat) : List (κ × ν) := idxs.filterMap fun i => m[i]?
theorem seenOf_snoc {m : List (κ × ν)} {idxs : List Nat} {i : Nat} {p : κ × ν} (hp : m[i]? = some p) : seenOf m (idxs ++ [i]) = seenOf m idxs ++ [p] := by
 unfold seenOf
 rw [List.filterMap_append]
 simp [hp]
theorem seenOf_all {m : List (κ × ν)} {idxs : List Nat} (h : idxs.Perm (List.range m.length)) : (seenOf m idxs).Perm m := by
 have h2 : ∀ l : List (κ × ν), (List.range l.length).filterMap (fun i => l[i]?) = l := by
  intro l
  induction l with
  | nil => rfl
  | cons a l ih =>
   rw [List.length_cons, List.range_succ_eq_map, List.filterMap_cons]
   simp [List.filterMap_map, Function.comp_def]
   exact ih
 have := h.filterMap (fun i => m[i]?)
 rw [h2] at this
 exact this
theorem seenOf_len (m : List (κ × ν)) (idxs : List Nat) : (seenOf m idxs).length ≤ idxs.length := List.length_filterMap_le _ _
end

theorem cell_far (w : World) (b j : Nat) (h : w.heap.size ≤ b) : w.cell? ⟨b, j, none⟩ = none := by
 unfold World.cell?
 simp only [Array.getElem?_eq_none h]
@[simp] theorem cell_far1 (w : World) (j : Nat) : w.cell? ⟨w.heap.size + 1, j, none⟩ = none := cell_far w _ j (by omega)
@[simp] theorem cell_far2 (w : World) (j : Nat) : w.cell? ⟨w.heap.size + 1 + 1, j, none⟩ = none := cell_far w _ j (by omega)
@[simp] theorem cell_far3 (w : World) (j : Nat) : w.cell? ⟨w.heap.size + 1 + 1 + 1, j, none⟩ = none := cell_far w _ j (by omega)
@[simp] theorem cell_far4 (w : World) (j : Nat) : w.cell? ⟨w.heap.size + 1 + 1 + 1 + 1, j, none⟩ = none := cell_far w _ j (by omega)
@[simp] theorem cell_far5 (w : World) (j : Nat) : w.cell? ⟨w.heap.size + 1 + 1 + 1 + 1 + 1, j, none⟩ = none := cell_far w _ j (by omega)
@[simp] theorem cell_far6 (w : World) (j : Nat) : w.cell? ⟨w.heap.size + 1 + 1 + 1 + 1 + 1 + 1, j, none⟩ = none := cell_far w _ j (by omega)
theorem frozen_far (w : World) (b j : Nat) (h : w.heap.size ≤ b) : w.frozen? ⟨b, j, none⟩ = false := by
 unfold World.frozen?
 simp only [Array.getElem?_eq_none h]
@[simp] theorem frozen_far1 (w : World) (j : Nat) : w.frozen? ⟨w.heap.size + 1, j, none⟩ = false := frozen_far w _ j (by omega)
@[simp] theorem frozen_far2 (w : World) (j : Nat) : w.frozen? ⟨w.heap.size + 1 + 1, j, none⟩ = false := frozen_far w _ j (by omega)
@[simp] theorem frozen_far3 (w : World) (j : Nat) : w.frozen? ⟨w.heap.size + 1 + 1 + 1, j, none⟩ = false := frozen_far w _ j (by omega)
@[simp] theorem frozen_far4 (w : World) (j : Nat) : w.frozen? ⟨w.heap.size + 1 + 1 + 1 + 1, j, none⟩ = false := frozen_far w _ j (by omega)
@[simp] theorem frozen_far5 (w : World) (j : Nat) : w.frozen? ⟨w.heap.size + 1 + 1 + 1 + 1 + 1, j, none⟩ = false := frozen_far w _ j (by omega)
@[simp] theorem frozen_far6 (w : World) (j : Nat) : w.frozen? ⟨w.heap.size + 1 + 1 + 1 + 1 + 1 + 1, j, none⟩ = false := frozen_far w _ j (by omega)
@[simp] theorem ne_far2 (n : Nat) : (n + 1 + 1 = n) = False := eq_false (by omega)
@[simp] theorem ne_far3 (n : Nat) : (n + 1 + 1 + 1 = n) = False := eq_false (by omega)
@[simp] theorem ne_far4 (n : Nat) : (n + 1 + 1 + 1 + 1 = n) = False := eq_false (by omega)
@[simp] theorem ne_far5 (n : Nat) : (n + 1 + 1 + 1 + 1 + 1 = n) = False := eq_false (by omega)
@[simp] theorem ne_far6 (n : Nat) : (n + 1 + 1 + 1 + 1 + 1 + 1 = n) = False := eq_false (by omega)
@[simp] theorem ne_far2' (n : Nat) : (n = n + 1 + 1) = False := eq_false (by omega)
@[simp] theorem ne_far3' (n : Nat) : (n = n + 1 + 1 + 1) = False := eq_false (by omega)
@[simp] theorem ne_far4' (n : Nat) : (n = n + 1 + 1 + 1 + 1) = False := eq_false (by omega)
@[simp] theorem ne_far5' (n : Nat) : (n = n + 1 + 1 + 1 + 1 + 1) = False := eq_false (by omega)
@[simp] theorem ne_far6' (n : Nat) : (n = n + 1 + 1 + 1 + 1 + 1 + 1) = False := eq_false (by omega)
theorem cells_new (w : World) (cs : Array Value) (t : TypeId) (j : Nat) : (w.alloc (.cells cs t)).cell? ⟨w.heap.size, j, none⟩ = cs[j]? := by
 have := World.alloc_heap_new w (.cells cs t)
 unfold World.cell?
 simp only [this]
 simp
end Pk
namespace Pk
section
variable {κ ν : Type} [DecidableEq κ]
theorem kget_cons (p : κ × ν) (m : List (κ × ν)) (z : κ) : mget (p :: m) z = if p.1 = z then some p.2 else mget m z := by
 unfold mget
 rw [List.find?_cons]
 by_cases h : p.1 = z <;> simp [h]
theorem kget_nil (z : κ) : mget ([] : List (κ × ν)) z = none := rfl
theorem kget_map (k : κ) (v : ν) : ∀ (m : List (κ × ν)) (z : κ), mget (m.map fun p => if p.1 = k then (k, v) else p) z = if z = k then (if (mget m k).isSome then some v else none) else mget m z
 | [], z => by simp [mget]
 | p :: m, z => by
  rw [List.map_cons, kget_cons, kget_map k v m z, kget_cons, kget_cons]
  by_cases h1 : p.1 = k
  ·rw [if_pos h1]
   by_cases h2 : z = k
   ·subst h2; simp [h1]
   ·have h3 : ¬ k = z := fun e => h2 e.symm
    have h4 : ¬ p.1 = z := fun e => h2 (e.symm.trans h1)
    simp [h2, h3, h4]
  ·rw [if_neg h1]
   by_cases h2 : z = k
   ·subst h2; simp [h1]
   ·simp [h2]
theorem kget_append (m : List (κ × ν)) (k : κ) (v : ν) (z : κ) (h : mget m k = none) : mget (m ++ [(k, v)]) z = if z = k then some v else mget m z := by
 induction m with
 | nil => simp [mget, List.find?]; by_cases h : k = z <;> simp [h, eq_comm]
 | cons p m ih =>
  rw [kget_cons] at h
  split at h
  ·cases h
  ·rename_i hp
   rw [List.cons_append, kget_cons, ih h, kget_cons]
   by_cases h1 : p.1 = z
   ·have : ¬ z = k := fun e => hp (h1.trans e)
    simp [h1, this]
   ·simp [h1]
theorem kget_mset (m : List (κ × ν)) (k : κ) (v : ν) (z : κ) : mget (mset m k v) z = if z = k then some v else mget m z := by
 unfold mset
 cases h : mget m k with
 | none => simp only [Option.isSome_none, Bool.false_eq_true, if_false]; exact kget_append m k v z h
 | some u =>
  simp only [Option.isSome_some, if_true]
  rw [kget_map, h]; rfl
theorem kset_len (m : List (κ × ν)) (k : κ) (v : ν) : (mset m k v).length = if (mget m k).isSome then m.length else m.length + 1 := by
 unfold mset; split <;> simp
theorem kget_mem {m : List (κ × ν)} {k : κ} {v : ν} (h : mget m k = some v) : (k, v) ∈ m := by
 unfold mget at h
 rw [Option.map_eq_some_iff] at h
 obtain ⟨q, h1, rfl⟩ := h
 have h2 := List.find?_some h1
 have h3 := List.mem_of_find?_eq_some h1
 simp at h2
 subst h2
 exact h3
theorem kget_none {m : List (κ × ν)} {k : κ} (h : mget m k = none) : ∀ p ∈ m, p.1 ≠ k := by
 intro p hp e
 unfold mget at h
 rw [Option.map_eq_none_iff, List.find?_eq_none] at h
 have := h p hp
 simp at this
 exact this e
theorem kget_iff {m : List (κ × ν)} (h : (m.map (·.1)).Nodup) {k : κ} {v : ν} : mget m k = some v ↔ (k, v) ∈ m := by
 refine ⟨kget_mem, fun hm => ?_⟩
 induction m with
 | nil => cases hm
 | cons p m ih =>
  rw [kget_cons]
  rw [List.map_cons, List.nodup_cons] at h
  rcases List.mem_cons.1 hm with rfl | hm
  ·simp
  ·have : p.1 ≠ k := fun e => h.1 (e ▸ List.mem_map.2 ⟨(k, v), hm, rfl⟩)
   rw [if_neg this]
   exact ih h.2 hm
theorem kset_keys (m : List (κ × ν)) (k : κ) (v : ν) : (mset m k v).map (·.1) = if (mget m k).isSome then m.map (·.1) else m.map (·.1) ++ [k] := by
 unfold mset
 split
 ·rw [List.map_map]
  refine List.map_congr_left fun p _ => ?_
  simp only [Function.comp]
  split
  ·rename_i h; exact h.symm
  ·rfl
 ·simp
theorem kset_nodup {m : List (κ × ν)} (h : (m.map (·.1)).Nodup) (k : κ) (v : ν) : ((mset m k v).map (·.1)).Nodup := by
 rw [kset_keys]
 cases hg : mget m k with
 | some u => simpa using h
 | none =>
  simp only [Option.isSome_none, Bool.false_eq_true, if_false]
  rw [List.nodup_append]
  refine ⟨h, by simp, fun a ha b hb => ?_⟩
  simp at hb
  subst hb
  obtain ⟨p, hp, rfl⟩ := List.mem_map.1 ha
  exact kget_none hg p hp
theorem kset_mem {m : List (κ × ν)} {k : κ} {v : ν} {p : κ × ν} (h : p ∈ mset m k v) : p = (k, v) ∨ p ∈ m ∧ p.1 ≠ k := by
 unfold mset at h
 split at h
 ·obtain ⟨q, hq, rfl⟩ := List.mem_map.1 h
  split
  ·exact .inl rfl
  ·rename_i hn; exact .inr ⟨hq, hn⟩
 ·rename_i hn
  rcases List.mem_append.1 h with h | h
  ·right
   refine ⟨h, kget_none (k := k) ?_ p h⟩
   cases hg : mget m k with
   | none => rfl
   | some u => simp [hg] at hn
  ·simp at h; exact .inl h
theorem kset_map {β : Type} {m : List (κ × ν)} (hn : (m.map (·.1)).Nodup) {k : κ} {u v : ν} (h : mget m k = some u) (f : κ × ν → β) (hf : f (k, v) = f (k, u)) : (mset m k v).map f = m.map f := by
 unfold mset
 rw [h]
 simp only [Option.isSome_some, if_true]
 rw [List.map_map]
 refine List.map_congr_left fun p hp => ?_
 simp only [Function.comp]
 split
 ·rename_i e
  have : mget m p.1 = some p.2 := (kget_iff hn).2 hp
  rw [e, h] at this
  cases this
  rw [hf, ← e]
 ·rfl
def tot (g : ν → Nat) (m : List (κ × ν)) : Nat := (m.map (fun p => g p.2)).sum
theorem tot_set (g : ν → Nat) {m : List (κ × ν)} (hn : (m.map (·.1)).Nodup) (k : κ) (v : ν) : tot g (mset m k v) + (match mget m k with | some u => g u | none => 0) = tot g m + g v := by
 cases hg : mget m k with
 | none =>
  unfold mset tot
  rw [hg]
  simp
 | some u =>
  unfold mset tot
  rw [hg]
  simp only [Option.isSome_some, if_true]
  induction m with
  | nil => cases hg
  | cons p m ih =>
   rw [List.map_cons, List.nodup_cons] at hn
   rw [kget_cons] at hg
   simp only [List.map_cons, List.sum_cons]
   by_cases hp : p.1 = k
   ·rw [if_pos hp] at hg
    cases hg
    have e : m.map (fun p => if p.1 = k then (k, v) else p) = m := by
     conv => rhs; rw [← List.map_id m]
     refine List.map_congr_left fun q hq => ?_
     rw [if_neg]
     ·rfl
     ·exact fun e => hn.1 (hp.trans e.symm ▸ List.mem_map.2 ⟨q, hq, rfl⟩)
    rw [e, if_pos hp]
    simp only; omega
   ·rw [if_neg hp] at hg ⊢
    have := ih hn.2 hg
    omega
end
open Go
theorem cell_setCell (w : World) (b i b' j : Nat) (v : Value) : (w.setCell ⟨b, i, none⟩ v).cell? ⟨b', j, none⟩ = if b' = b ∧ j = i then (w.cell? ⟨b, i, none⟩).map (fun _ => v) else w.cell? ⟨b', j, none⟩ := by
 by_cases h : b' = b ∧ j = i
 ·obtain ⟨rfl, rfl⟩ := h
  rw [if_pos ⟨rfl, rfl⟩]
  cases hc : w.cell? ⟨b', j, none⟩ with
  | some u => exact World.cell?_setCell_same _ _ _ hc
  | none =>
   unfold World.cell? at hc ⊢
   unfold World.setCell
   simp only [Array.getElem?_modify, if_true]
   cases ho : w.heap[b']? with
   | none => simp
   | some o =>
    rw [ho] at hc
    cases o <;> simp_all
 ·rw [if_neg h]
  exact World.cell?_setCell_other _ _ _ _ (by simp only [ne_eq, Addr.mk.injEq, and_true]; exact fun e => h ⟨e.1.symm, e.2.symm⟩)
end Pk
