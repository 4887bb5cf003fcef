/-
  Contracts of the functions that the law reaches, step by step.
-/
import Derived.Test.YtjagbfaklckagaaGreatBdJ
namespace Go.Proofs
open Pk
set_option maxRecDepth 10000
/-! ### Boards that acts make -/
section
variable {κ ν : Type} [DecidableEq κ]
theorem mem_mset {m : List (κ × ν)} {k : κ} {v : ν} {x : κ × ν} (h : x ∈ mset m k v) : x = (k, v) ∨ x ∈ m := by
  unfold mset at h
  split at h
  · obtain ⟨y, hy, rfl⟩ := List.mem_map.1 h
    split
    · exact .inl rfl
    · exact .inr hy
  · rcases List.mem_append.1 h with h | h
    · exact .inr h
    · simp at h; exact .inl h
theorem len_mset (m : List (κ × ν)) (k : κ) (v : ν) : (mset m k v).length ≤ m.length + 1 := by
  unfold mset
  split <;> simp
theorem mem_mdel {m : List (κ × ν)} {k : κ} {x : κ × ν} (h : x ∈ mdel m k) : x ∈ m := (List.mem_filter.1 h).1
theorem len_mdel (m : List (κ × ν)) (k : κ) : (mdel m k).length ≤ m.length := List.length_filter_le _ _
end
structure BOk (b : Bd) (i : Nat) : Prop where
  lq : b.Q.length ≤ i
  la : b.A.length ≤ i
  lf : b.F.length ≤ i
  p : 0 ≤ b.p
  n : 0 ≤ b.n ∧ b.n ≤ 4294967295
  q : ∀ x ∈ b.Q, (0 ≤ x.2.1 ∧ x.2.1 ≤ 4294967295) ∧ 0 ≤ x.2.2
  f : ∀ x ∈ b.F, 0 ≤ x.2.2
theorem BOk.new {p : Int} (hp : 0 ≤ p) : BOk ⟨[], [], [], p, 0⟩ 0 := ⟨Nat.le_refl _, Nat.le_refl _, Nat.le_refl _, hp, by simp, fun x h => (by cases h), fun x h => (by cases h)⟩
theorem BOk.more {b : Bd} {i j : Nat} (h : BOk b i) (hj : i ≤ j) : BOk b j := ⟨Nat.le_trans h.lq hj, Nat.le_trans h.la hj, Nat.le_trans h.lf hj, h.p, h.n, h.q, h.f⟩
theorem BOk.qok {b : Bd} {i : Nat} (h : BOk b i) : QOk b := fun x hx => (h.q x hx).1
theorem BOk.small {b : Bd} {i : Nat} (h : BOk b i) (hi : i ≤ 1000) : Small b := ⟨Nat.le_trans h.lq hi, Nat.le_trans h.la hi, Nat.le_trans h.lf hi⟩
theorem wrap_u32 (a : Int) : 0 ≤ IntKind.u32.wrap a ∧ IntKind.u32.wrap a ≤ 4294967295 := by
  simp only [IntKind.wrap, IntKind.bits, IntKind.signed]
  have := Int.emod_nonneg a (b := 2 ^ 32) (by decide)
  have := Int.emod_lt_of_pos a (b := 2 ^ 32) (by decide)
  simp
  omega
theorem BOk.ask {b : Bd} {i : Nat} (h : BOk b i) (g r a : Int) (ha : 0 ≤ a) : BOk (askB b g r a) (i + 1) := by
  unfold askB
  split
  · refine ⟨?_, Nat.le_trans h.la (by omega), Nat.le_trans h.lf (by omega), h.p, wrap_u32 _, fun x hx => ?_, h.f⟩
    · have := len_mset b.Q (g, r) (b.n, a)
      have := h.lq
      simp only; omega
    · rcases mem_mset hx with rfl | hx
      · exact ⟨h.n, ha⟩
      · exact h.q x hx
  · exact h.more (by omega)
theorem BOk.ans {b : Bd} {i : Nat} (h : BOk b i) (r : Rec) : BOk (ansB b r) (i + 1) := by
  unfold ansB
  split
  · refine ⟨?_, ?_, Nat.le_trans h.lf (by omega), h.p, h.n, fun x hx => h.q x (mem_mdel hx), h.f⟩
    · have := len_mdel b.Q (r.node, r.reg)
      have := h.lq
      simp only; omega
    · have := len_mset b.A (r.node, r.reg) (r.yes, r.til)
      have := h.la
      simp only; omega
  · exact h.more (by omega)
theorem BOk.fore {b : Bd} {i : Nat} (h : BOk b i) {r : Rec} (hr : RecOk r) : BOk (foreBd b r) (i + 1) := by
  unfold foreBd
  split
  · refine ⟨Nat.le_trans h.lq (by omega), Nat.le_trans h.la (by omega), ?_, h.p, h.n, h.q, fun x hx => ?_⟩
    · have := len_mset b.F (r.node, r.fro) (r.til, r.lev)
      have := h.lf
      simp only; omega
    · rcases mem_mset hx with rfl | hx
      · exact hr.lev.1
      · exact h.f x hx
  · exact h.more (by omega)
theorem BOk.prune {b : Bd} {i : Nat} (h : BOk b i) (a : Int) : BOk (pruB b a) (i + 1) := by
  unfold pruB
  split
  · refine ⟨Nat.le_trans (List.length_filter_le _ _) (Nat.le_trans h.lq (by omega)), Nat.le_trans (List.length_filter_le _ _) (Nat.le_trans h.la (by omega)), Nat.le_trans (List.length_filter_le _ _) (Nat.le_trans h.lf (by omega)), h.p, h.n, fun x hx => h.q x (List.mem_filter.1 hx).1, fun x hx => h.f x (List.mem_filter.1 hx).1⟩
  · exact h.more (by omega)
/-! ### Acts -/
structure Ac where
  what : Int
  r : Rec
  at' : Int
abbrev acC (q : Ac) : List Value := i64 q.what :: (recC q.r ++ [u64 q.at'])
structure AcOk (q : Ac) : Prop where
  r : RecOk q.r
  at' : 0 ≤ q.at'
def isAsk (q : Ac) : Prop := q.what = 0 ∨ q.what = 1
def isAns (q : Ac) : Prop := q.what = 2 ∨ q.what = 3
instance (q : Ac) : Decidable (isAsk q) := by unfold isAsk; infer_instance
instance (q : Ac) : Decidable (isAns q) := by unfold isAns; infer_instance
def holdB (b : Bd) (q : Ac) : Bd := if isAsk q then askB b q.r.node q.r.reg q.at' else if isAns q then ansB b q.r else if q.what = 6 then pruB b q.at' else foreBd b q.r
theorem BOk.hold {b : Bd} {i : Nat} (h : BOk b i) {q : Ac} (hq : AcOk q) : BOk (holdB b q) (i + 1) := by
  unfold holdB
  split
  · exact h.ask _ _ _ hq.at'
  split
  · exact h.ans _
  split
  · exact h.prune _
  · exact h.fore hq.r
/-- What the law has kept of the acts: whether there has been an answer for that pair, and how far the last of them reaches. -/
structure Sn where
  y : Bool
  u : Int
def seenS (p : PK) (b : Bd) (s : Sn) (q : Ac) : Sn := if isAsk q then s else if isAns q ∧ ansR b q.r = 0 ∧ q.r.node = p.1 ∧ q.r.reg = p.2 then ⟨true, q.r.til⟩ else s
def SeenOk (p : PK) (b : Bd) (s : Sn) : Prop := ∀ v, mget b.A p = some v → s.y = true ∧ v.2 ≤ s.u
theorem mget_filter_some {κ ν : Type} [DecidableEq κ] {m : List (κ × ν)} (hn : (m.map (·.1)).Nodup) {f : κ × ν → Bool} {k : κ} {v : ν} (h : mget (m.filter f) k = some v) : mget m k = some v :=
  (kget_iff hn).2 (List.mem_filter.1 (kget_mem h)).1
theorem SeenOk.step {p : PK} {b : Bd} {s : Sn} (h : SeenOk p b s) (hn : (b.A.map (·.1)).Nodup) (q : Ac) : SeenOk p (holdB b q) (seenS p b s q) := by
  unfold holdB seenS
  by_cases h1 : isAsk q
  · rw [if_pos h1, if_pos h1]
    unfold askB
    split <;> exact h
  rw [if_neg h1, if_neg h1]
  by_cases h2 : isAns q
  · rw [if_pos h2]
    unfold ansB
    by_cases h3 : ansR b q.r = 0
    · rw [if_pos h3]
      intro v hv
      simp only [kget_mset] at hv
      by_cases h4 : p = (q.r.node, q.r.reg)
      · rw [if_pos h4] at hv
        have hh : isAns q ∧ ansR b q.r = 0 ∧ q.r.node = p.1 ∧ q.r.reg = p.2 := ⟨h2, h3, by rw [h4], by rw [h4]⟩
        rw [if_pos hh]
        cases hv
        exact ⟨rfl, Int.le_refl _⟩
      · rw [if_neg h4] at hv
        have hh : ¬ (isAns q ∧ ansR b q.r = 0 ∧ q.r.node = p.1 ∧ q.r.reg = p.2) := fun e => h4 (Prod.ext e.2.2.1.symm e.2.2.2.symm)
        rw [if_neg hh]
        exact h v hv
    · rw [if_neg h3, if_neg (fun e => h3 e.2.1)]
      exact h
  · have hh : ¬ (isAns q ∧ ansR b q.r = 0 ∧ q.r.node = p.1 ∧ q.r.reg = p.2) := fun e => h2 e.1
    rw [if_neg h2, if_neg hh]
    split
    · unfold pruB
      split
      · intro v hv
        exact h v (mget_filter_some hn hv)
      · exact h
    · unfold foreBd
      split <;> exact h
/-- Every forecast on the board is one of the acts. -/
def FromL (b : Bd) (l : List Ac) : Prop := ∀ x ∈ b.F, ∃ q ∈ l, q.r.node = x.1.1 ∧ q.r.fro = x.1.2 ∧ q.r.til = x.2.1 ∧ q.r.lev = x.2.2
theorem FromL.step {b : Bd} {l : List Ac} (h : FromL b l) (q : Ac) : FromL (holdB b q) (l ++ [q]) := by
  have h' : FromL b (l ++ [q]) := fun x hx => by
    obtain ⟨y, hy, e⟩ := h x hx
    exact ⟨y, List.mem_append_left _ hy, e⟩
  unfold holdB
  split
  · unfold askB; split <;> exact h'
  split
  · unfold ansB; split <;> exact h'
  split
  · unfold pruB
    split
    · exact fun x hx => h' x (List.mem_filter.1 hx).1
    · exact h'
  · unfold foreBd
    split
    · intro x hx
      rcases mem_mset hx with rfl | hx
      · exact ⟨q, by simp, rfl, rfl, rfl, rfl⟩
      · exact h' x hx
    · exact h'
theorem SeenOk.off {p : PK} {b : Bd} {s : Sn} (h : SeenOk p b s) (a : Int) : offV b p.1 p.2 (max s.u a) = false ∧ (s.y = false → offV b p.1 p.2 a = false) := by
  unfold offV sayV
  cases hg : mget b.A (p.1, p.2) with
  | none => simp
  | some v =>
    have := h v hg
    refine ⟨?_, fun e => by rw [e] at this; cases this.1⟩
    simp
    intro _
    omega
end Go.Proofs
