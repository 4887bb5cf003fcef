/-
 Contracts of the functions that the law reaches, step by step.
-/
import Derived.Test.YtdgkfilajbnhgaaGreatGeK
namespace Go.Proofs
open Pk
set_option maxRecDepth 10000
structure AllT (L : List Ct) (snt : Ct → Int → Option Int) (F : List Ct) (q : Qu) (K : Nat) (bm : List (Int × Wy)) : Prop where
 is : ∀ n x, mget bm n = some x → n ≠ q.fr ∧ ∃ t, Gr.BestOf L snt F q.at_ K n t ∧ x = tlWy t
 has : ∀ y, Gr.Wk L snt F q.at_ y → y.h ≤ K → y.n ≠ q.fr → (mget bm y.n).isSome = true
def AllI (L : List Ct) (snt : Ct → Int → Option Int) (q : Qu) (K : Nat) (rb A : Nat) (w1 : World) (k : Nat) (ρ : Env) (ds : List Deferred) (W : World) : Prop :=
 ∃ i bm best, (k = L.length - i ∧ i ≤ L.length) ∧ wmAt W rb bm ∧ BMap bm best ∧ Gr.Bst L snt (firsts L q) q.at_ K (fun f k => f ∈ firsts (L.take i) q ∧ k ≤ K) best ∧ Mod (fun k => k = rb) w1 W ∧ ρ 2 = ptr A ∧ ρ 3 = ptr (A + 1) ∧ ρ 5 = .map (some rb) ∧ ρ 6 = i64 i ∧ ds = []
def AllI2 (L : List Ct) (snt : Ct → Int → Option Int) (q : Qu) (K : Nat) (rb A : Nat) (w1 : World) (i : Nat) (c : Ct) (cb : Nat) (bm : List (Int × Wy)) (k : Nat) (ρ : Env) (ds : List Deferred) (W : World) : Prop :=
 ∃ j, (k = q.no.length - j ∧ j ≤ q.no.length) ∧ wmAt W rb bm ∧ Blk W cb (ctC c) ∧ Mod (fun k => k = rb) w1 W ∧ ρ 2 = ptr A ∧ ρ 3 = ptr (A + 1) ∧ ρ 5 = .map (some rb) ∧ ρ 6 = i64 i ∧ ρ 7 = ptr cb ∧ ρ 8 = .bool (decide (c.fr ≠ q.fr) || decide (c ∈ q.no.take j)) ∧ ρ 9 = i64 j ∧ ds = []
end Go.Proofs
namespace Go.Proofs
open Pk
set_option maxRecDepth 10000
structure DBestT (L : List Ct) (snt : Ct → Int → Option Int) (F : List Ct) (q : Qu) (K : Nat) (x : Wy) (n : Int) : Prop where
 bad : (badQ q || badE q) = true → x = wyZ ∧ n = 2
 ok : (badQ q || badE q) = false → (∃ t, Gr.BestOf L snt F q.at_ K q.to' t ∧ x = tlWy t ∧ n = 0) ∨ ((∀ y, Gr.Wk L snt F q.at_ y → y.h ≤ K → y.n ≠ q.to') ∧ x = wyZ ∧ n = 310)
end Go.Proofs
