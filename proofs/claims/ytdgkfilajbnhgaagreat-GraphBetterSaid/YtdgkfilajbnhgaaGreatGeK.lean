/-
 Contracts of the functions that the law reaches, step by step.
-/
import Derived.Test.YtdgkfilajbnhgaaGreatGeJ
namespace Go.Proofs
open Pk
set_option maxRecDepth 10000
abbrev NM := List (Int × Int)
abbrev nmAt (w : World) (r : Nat) (m : NM) := MapAt (Value.int .u32) (Value.int .u64) w r m
abbrev wmAt (w : World) (r : Nat) (m : List (Int × Wy)) := MapAt (Value.int .u32) wyV w r m
structure BMap (bm : List (Int × Wy)) (best : Int → Option Tl) : Prop where
 get : ∀ n, mget bm n = (best n).map tlWy
theorem BMap.put {bm : List (Int × Wy)} {best : Int → Option Tl} (h : BMap bm best) (t : Tl) (hu : best t.n = none ∨ ∃ o, best t.n = some o ∧ Gr.keyLt t o) : BMap (mset bm t.n (tlWy t)) (Gr.bet best t) := by
 refine ⟨fun n => ?_⟩
 rw [kget_mset]
 unfold Gr.bet
 by_cases e : n = t.n
 ·rw [if_pos e, if_pos e]
  unfold Gr.betO
  rcases hu with hu | ⟨o, hu, hl⟩
  ·rw [hu]; rfl
  ·rw [hu]
   simp only
   rw [if_pos hl]
   rfl
 ·rw [if_neg e, if_neg e, h.get]
theorem BMap.stay {bm : List (Int × Wy)} {best : Int → Option Tl} (h : BMap bm best) (t : Tl) {o : Tl} (hu : best t.n = some o) (hl : ¬ Gr.keyLt t o) : BMap bm (Gr.bet best t) := by
 refine ⟨fun n => ?_⟩
 unfold Gr.bet
 by_cases e : n = t.n
 ·rw [if_pos e, h.get, e, hu]
  unfold Gr.betO
  simp only
  rw [if_neg hl]
 ·rw [if_neg e, h.get]
def DwR (L : List Ct) (snt : Ct → Int → Option Int) (F : List Ct) (at0 : Int) (K : Nat) (f : Ct) (done : Ct → Nat → Prop) (rb : Nat) (w w' : World) : Prop :=
 ∃ bm' best', wmAt w' rb bm' ∧ BMap bm' best' ∧ Gr.Bst L snt F at0 K (fun f' k => done f' k ∨ f' = f ∧ k ≤ K) best' ∧ Mod (fun k => k = rb) w w'
structure DwI (L : List Ct) (snt : Ct → Int → Option Int) (F : List Ct) (at0 : Int) (K : Nat) (f : Ct) (done : Ct → Nat → Prop) (rb : Nat) (w1 : World) (h : Nat) (nm : NM) (rn : Nat) (bm : List (Int × Wy)) (best : Int → Option Tl) (W : World) : Prop where
 mb : wmAt W rb bm
 mn : nmAt W rn nm
 ge : w1.heap.size ≤ rn
 bb : BMap bm best
 bd : Gr.Bst L snt F at0 K (fun f' k => done f' k ∨ f' = f ∧ k < h) best
 nw : Gr.IsNow L snt F at0 f h (mget nm)
 md : Mod (fun k => k = rb) w1 W
 h1 : 1 ≤ h
def DwL (L : List Ct) (snt : Ct → Int → Option Int) (F : List Ct) (at0 : Int) (K : Nat) (f : Ct) (done : Ct → Nat → Prop) (rb A : Nat) (w1 : World) (k : Nat) (ρ : Env) (ds : List Deferred) (W : World) : Prop :=
 ∃ h nm rn bm best, DwI L snt F at0 K f done rb w1 h nm rn bm best W ∧ k = L.length + 1 - h ∧ h ≤ L.length + 1 ∧ ρ 3 = .map (some rb) ∧ ρ 4 = ptr A ∧ ρ 5 = ptr (A + 1) ∧ ρ 6 = ptr (A + 1 + 1) ∧ ρ 10 = .map (some rn) ∧ ρ 11 = i64 h ∧ ds = []
structure DwR1 (L : List Ct) (snt : Ct → Int → Option Int) (F : List Ct) (at0 : Int) (K : Nat) (f : Ct) (done : Ct → Nat → Prop) (rb : Nat) (w1 : World) (h : Nat) (nm : NM) (rn rt ib : Nat) (idxs : List Nat) (bm : List (Int × Wy)) (best : Int → Option Tl) (W : World) : Prop where
 it : MIter (Value.int .u32) (Value.int .u64) W ib rn nm idxs
 mb : wmAt W rb bm
 mn : nmAt W rn nm
 mt : nmAt W rt []
 bb : BMap bm best
 bd : Gr.Bst L snt F at0 K (fun f' k => done f' k ∨ f' = f ∧ k < h) best
 sn : Gr.Seen f h best (seenOf nm idxs)
 md : Mod (fun k => k = rb) w1 W
def DwL1 (L : List Ct) (snt : Ct → Int → Option Int) (F : List Ct) (at0 : Int) (K : Nat) (f : Ct) (done : Ct → Nat → Prop) (rb A : Nat) (w1 : World) (h : Nat) (nm : NM) (rn rt ib : Nat) (k : Nat) (ρ : Env) (ds : List Deferred) (W : World) : Prop :=
 ∃ idxs bm best, DwR1 L snt F at0 K f done rb w1 h nm rn rt ib idxs bm best W ∧ k + idxs.length = nm.length ∧ ρ 3 = .map (some rb) ∧ ρ 4 = ptr A ∧ ρ 5 = ptr (A + 1) ∧ ρ 6 = ptr (A + 1 + 1) ∧ ρ 10 = .map (some rn) ∧ ρ 11 = i64 h ∧ ρ 12 = .map (some rt) ∧ ρ 64 = ptr ib ∧ ds = []
structure DwR2 (L : List Ct) (snt : Ct → Int → Option Int) (rb : Nat) (w1 : World) (nm : NM) (rn rt : Nat) (bm : List (Int × Wy)) (i : Nat) (am : NM) (W : World) : Prop where
 mb : wmAt W rb bm
 mn : nmAt W rn nm
 mt : nmAt W rt am
 rl : Gr.Rl snt (mget nm) (L.take i) (mget am)
 md : Mod (fun k => k = rb) w1 W
def DwL2 (L : List Ct) (snt : Ct → Int → Option Int) (rb A : Nat) (w1 : World) (h : Nat) (nm : NM) (rn rt : Nat) (bm : List (Int × Wy)) (k : Nat) (ρ : Env) (ds : List Deferred) (W : World) : Prop :=
 ∃ i am, DwR2 L snt rb w1 nm rn rt bm i am W ∧ k = L.length - i ∧ i ≤ L.length ∧ ρ 3 = .map (some rb) ∧ ρ 4 = ptr A ∧ ρ 5 = ptr (A + 1) ∧ ρ 6 = ptr (A + 1 + 1) ∧ ρ 10 = .map (some rn) ∧ ρ 11 = i64 h ∧ ρ 12 = .map (some rt) ∧ ρ 18 = i64 i ∧ ds = []
end Go.Proofs
