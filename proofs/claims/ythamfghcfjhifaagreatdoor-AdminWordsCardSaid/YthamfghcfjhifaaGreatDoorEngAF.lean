/-
  The engine, part AF: an element stored whole into a row of one's own.
-/
import Derived.Test.YthamfghcfjhifaaGreatDoorEngAB
namespace Pk
open Go
set_option maxRecDepth 10000
def putC (w : World) (b : Nat) : Nat → List Value → World
  | _, [] => w
  | o, u :: cs => putC (w.setCell ⟨b, o, none⟩ u) b (o + 1) cs
def setL (xs : List Value) : Nat → List Value → List Value
  | _, [] => xs
  | o, u :: cs => setL (xs.set o u) (o + 1) cs
theorem setL_len : ∀ (cs xs : List Value) (o : Nat), (setL xs o cs).length = xs.length
  | [], xs, o => rfl
  | u :: cs, xs, o => by
    have := setL_len cs (xs.set o u) (o + 1)
    simpa [setL] using this
theorem setL_eq : ∀ (cs xs : List Value) (o : Nat), o + cs.length ≤ xs.length → setL xs o cs = xs.take o ++ cs ++ xs.drop (o + cs.length)
  | [], xs, o, _ => by simp [setL]
  | u :: cs, xs, o, h => by
    simp only [List.length_cons] at h
    have := setL_eq cs (xs.set o u) (o + 1) (by simp; omega)
    rw [setL, this]
    apply List.ext_getElem?
    intro k
    rw [List.drop_set_of_lt (by omega), List.length_cons, show o + (cs.length + 1) = o + 1 + cs.length by omega]
    congr 2
    have ht : List.take (o + 1) (xs.set o u) = List.take o xs ++ [u] := by
      rw [List.take_add_one, List.take_set_of_le (Nat.le_refl _), List.getElem?_set_self (by omega)]
      rfl
    rw [ht]
    simp
theorem putC_own {base e s : Nat} {v : Value} {n : Nat} : ∀ (cs : List Value) {w : World} {xs : List Value} (j : Nat), w.ownsRow base e s v n xs → j + cs.length ≤ xs.length → (putC w (slB v) (slO v + j) cs).ownsRow base e s v n (setL xs j cs)
  | [], _, _, _, h, _ => h
  | u :: cs, w, xs, j, h, hj => by
    simp only [List.length_cons] at hj
    have h1 := own_set h j (by omega) u
    have := putC_own cs (j + 1) h1 (by simp; omega)
    rw [← Nat.add_assoc] at this
    exact this
theorem putC_mod {b : Nat} : ∀ (cs : List Value) {a w : World} (o : Nat), Mod (fun k => k = b) a w → Mod (fun k => k = b) a (putC w b o cs)
  | [], _, _, _, h => h
  | _ :: cs, _, _, o, h => putC_mod cs (o + 1) (h.setCell _ _ (.inl rfl))
theorem flat_set {α : Type} {s : Nat} (g : α → List Value) (hg : ∀ x, (g x).length = s) (l : List α) (i : Nat) (hi : i < l.length) (x : α) : (l.set i x).flatMap g = setL (l.flatMap g) (i * s) (g x) := by
  have hl := flat_len g hg l
  have hm : (i + 1) * s ≤ l.length * s := Nat.mul_le_mul_right _ hi
  rw [Nat.add_mul, Nat.one_mul] at hm
  rw [setL_eq _ _ _ (by rw [hg, hl]; omega), hg, ← flat_take g hg, show i * s + s = (i + 1) * s by rw [Nat.add_mul, Nat.one_mul], ← flat_drop g hg, List.set_eq_take_append_cons_drop, if_pos hi, List.flatMap_append, List.flatMap_cons, List.append_assoc]
/-- An element stored. -/
theorem own_put {w : World} {base e s : Nat} {v : Value} {α : Type} (g : α → List Value) (hg : ∀ x, (g x).length = s) {l : List α} (h : w.ownsRow base e s v l.length (l.flatMap g)) (i : Nat) (hi : i < l.length) (x : α) :
    (putC w (slB v) (slO v + i * s) (g x)).ownsRow base e s v (l.set i x).length ((l.set i x).flatMap g) := by
  have hl := flat_len g hg l
  have hm : (i + 1) * s ≤ l.length * s := Nat.mul_le_mul_right _ hi
  rw [Nat.add_mul, Nat.one_mul] at hm
  rw [flat_set g hg l i hi x, List.length_set]
  exact putC_own (g x) (i * s) h (by rw [hg, hl]; omega)
end Pk
