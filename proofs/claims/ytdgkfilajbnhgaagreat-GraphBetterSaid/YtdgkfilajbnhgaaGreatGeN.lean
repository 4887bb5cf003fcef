/-
 Contracts of the functions that the law reaches, step by step.
-/
import Derived.Test.YtdgkfilajbnhgaaGreatGeL
namespace Go.Proofs
open Pk
set_option maxRecDepth 10000
structure RdR (L : List Ct) (snt : Ct → Int → Option Int) (F : List Ct) (q : Qu) (K : Nat) (A : List Int) (B : List Wy) : Prop where
 bad : badQ q = true → A = [] ∧ B = []
 ok : badQ q = false → ∃ bm : List (Int × Wy), (bm.map (·.1)).Nodup ∧ AllT L snt F q K bm ∧ kWisKeys bm A ∧ B = A.map fun n => (mget bm n).getD wyZ
def insI (A : List Int) (n : Int) : List Int := A.take (A.takeWhile fun a => decide (a < n)).length ++ (n :: A.drop (A.takeWhile fun a => decide (a < n)).length)
def RdI (rb ib : Nat) (bm : List (Int × Wy)) (A0 : Nat) (w1 : World) (k : Nat) (ρ : Env) (ds : List Deferred) (W : World) : Prop :=
 ∃ (idxs : List Nat) (A : List Int) (va : Value), k + idxs.length = bm.length ∧ MIter (Value.int .u32) wyV W ib rb bm idxs ∧ wmAt W rb bm ∧ A.Perm ((seenOf bm idxs).map (·.1)) ∧ A.Pairwise (· ≤ ·) ∧ Sl W 1 va A.length (A.map u32) ∧ Mod (fun k => k = ib) w1 W ∧ ρ 6 = va ∧ ρ 7 = .slice none 0 0 ∧ ρ 9 = .map (some rb) ∧ ρ 26 = ptr ib ∧ ds = []
def RdI2 (rb ib : Nat) (A : List Int) (va : Value) (n : Int) (W0 : World) (k : Nat) (ρ : Env) (ds : List Deferred) (W : World) : Prop :=
 ∃ j, k = A.length - j ∧ j ≤ (A.takeWhile fun a => decide (a < n)).length ∧ W = W0 ∧ ρ 6 = va ∧ ρ 7 = .slice none 0 0 ∧ ρ 9 = .map (some rb) ∧ ρ 26 = ptr ib ∧ ρ 10 = u32 n ∧ ρ 11 = i64 j ∧ ds = []
def RdE (L : List Ct) (snt : Ct → Int → Option Int) (F : List Ct) (q : Qu) (K : Nat) (w' : World) (e : Ending) : Prop :=
 ∃ (va vb : Value) (A : List Int) (B : List Wy), e = .returned (.tuple #[va, vb]) ∧ RdR L snt F q K A B ∧ Sl w' 1 va A.length (A.map u32) ∧ Sl w' 8 vb B.length (B.flatMap wyC)
theorem AllT.few {L : List Ct} {snt : Ct → Int → Option Int} {F : List Ct} {q : Qu} {K : Nat} {bm : List (Int × Wy)} (h : AllT L snt F q K bm) (hF : ∀ f ∈ F, f ∈ L) (hn : (bm.map (·.1)).Nodup) : bm.length ≤ L.length := by
 have := Gr.sub_len (m := L.map (·.to')) hn fun n hm => by
  obtain ⟨x, hx, rfl⟩ := List.mem_map.1 hm
  obtain ⟨-, t, ht, -⟩ := h.is x.1 x.2 (mget_of_mem hn hx)
  obtain ⟨c, hc, e⟩ := ht.wk.n_mem hF
  exact List.mem_map.2 ⟨c, hc, by rw [e, ht.at_]⟩
 simpa using this
def RdI3 (rb : Nat) (bm : List (Int × Wy)) (A : List Int) (va : Value) (w1 : World) (k : Nat) (ρ : Env) (ds : List Deferred) (W : World) : Prop :=
 ∃ (i : Nat) (vb : Value), k = A.length - i ∧ i ≤ A.length ∧ Ext w1 W ∧ W.ownsRow w1.heap.size 50 8 vb i (((A.take i).map fun n => (mget bm n).getD wyZ).flatMap wyC) ∧ ρ 6 = va ∧ ρ 7 = vb ∧ ρ 9 = .map (some rb) ∧ ρ 12 = i64 i ∧ ds = []
end Go.Proofs
