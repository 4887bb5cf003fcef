/-
  The engine, part K: rows of integers that are ordered in place.
-/
import Derived.Test.YthamfghcfjhifaaGreatDoorEngJ
namespace Pk
open Go
def place (v : Value) (j : Nat) : Addr := ⟨slB v, slO v + j, none⟩
/-- What a row of integers holds, place by place; it may be written. -/
structure Row (q : IntKind) (w : World) (v : Value) (n : Nat) (f : Nat → Int) : Prop where
  cell : ∀ j, j < n → w.cell? (place v j) = some (.int q (f j))
  thaw : ∀ j, j < n → w.frozen? (place v j) = false
def swap (f : Nat → Int) (i j : Nat) : Nat → Int := fun k => if k = i then f j else if k = j then f i else f k
theorem swap_l (f : Nat → Int) (i j : Nat) : swap f i j i = f j := by unfold swap; rw [if_pos rfl]
theorem swap_r (f : Nat → Int) {i j : Nat} : swap f i j j = f i := by unfold swap; split <;> simp_all
theorem swap_o (f : Nat → Int) {i j k : Nat} (h1 : k ≠ i) (h2 : k ≠ j) : swap f i j k = f k := by unfold swap; rw [if_neg h1, if_neg h2]
/-- g is f, shuffled between a and b. -/
inductive Shuf (a b : Nat) : (Nat → Int) → (Nat → Int) → Prop
  | refl (f : Nat → Int) : Shuf a b f f
  | step {f g : Nat → Int} (h : Shuf a b f g) (i j : Nat) (hi : a ≤ i ∧ i < b) (hj : a ≤ j ∧ j < b) : Shuf a b f (swap g i j)
theorem Shuf.trans {a b : Nat} {f g k : Nat → Int} (h1 : Shuf a b f g) (h2 : Shuf a b g k) : Shuf a b f k := by
  induction h2 with
  | refl => exact h1
  | step _ i j hi hj ih => exact .step ih i j hi hj
theorem Shuf.wider {a b a' b' : Nat} {f g : Nat → Int} (h : Shuf a b f g) (ha : a' ≤ a) (hb : b ≤ b') : Shuf a' b' f g := by
  induction h with
  | refl => exact .refl _
  | step _ i j hi hj ih => exact .step ih i j ⟨by omega, by omega⟩ ⟨by omega, by omega⟩
theorem Shuf.off {a b : Nat} {f g : Nat → Int} (h : Shuf a b f g) {k : Nat} (hk : k < a ∨ b ≤ k) : g k = f k := by
  induction h with
  | refl => rfl
  | step _ i j hi hj ih => rw [swap_o _ (by omega) (by omega)]; exact ih
theorem Shuf.within {a b : Nat} {f g : Nat → Int} (h : Shuf a b f g) : ∀ k, a ≤ k → k < b → ∃ j, a ≤ j ∧ j < b ∧ g k = f j := by
  induction h with
  | refl => exact fun k h1 h2 => ⟨k, h1, h2, rfl⟩
  | @step g _ i j hi hj ih =>
    intro k h1 h2
    unfold swap
    split
    · exact ih j hj.1 hj.2
    · split
      · exact ih i hi.1 hi.2
      · exact ih k h1 h2
end Pk
