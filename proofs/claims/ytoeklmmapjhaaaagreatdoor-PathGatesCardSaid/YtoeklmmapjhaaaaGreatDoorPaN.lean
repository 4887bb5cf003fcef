/-
  Contracts of the functions that the law reaches, step by step.
-/
import Derived.Test.YtoeklmmapjhaaaaGreatDoorPaM
namespace Go.Proofs
open Pk
set_option maxRecDepth 10000
theorem own_empty {e : TypeId} {s : Nat} (W : World) (base : Nat) (h : base ≤ W.heap.size) : (W.alloc (.cells #[] e)).ownsRow base e s (.slice (some ⟨W.heap.size, 0, none⟩) 0 0) 0 [] :=
  ⟨by simp, .inr ⟨W.heap.size, 0, #[], rfl, h, World.alloc_heap_new W _, Nat.le_refl _, by simp, by simp, by simp⟩⟩
theorem append_newB {P : Program} {w : World} {base s : Nat} {t ty : TypeId} {b m : Nat} {v2 : Value} {ys : List Value} {e : TypeId} (hs : isS (P.underlying t) = true) (he : elemT (P.underlying t) = e) (hi : elOk (P.info? e) s = true)
    (hown : w.ownsRow base e s (.slice (some ⟨b, 0, none⟩) 0 0) 0 []) (h2 : SlB w s v2 m ys) (h1 : ∀ u ∈ ys, u.oneCell' = true) (hb : m ≤ 1000000) (hbase : base ≤ w.heap.size) :
    ∃ v' w', (Builtin.append_ #[t, t] ty #[.slice (some ⟨b, 0, none⟩) 0 0, v2]).run P w = .ok v' w' ∧ w'.ownsRow base e s v' m ys ∧ Ext w w' := by
  obtain ⟨v', w', hr, ho, hM, -⟩ := append_ownB (ty := ty) hs he hi hown h2 h1 (by omega) hbase
  refine ⟨v', w', hr, by simpa using ho, ?_⟩
  by_cases h0 : m = 0
  · subst h0
    have hys : ys = [] := List.eq_nil_of_length_eq_zero (by simpa using h2.len)
    subst hys
    obtain ⟨⟨i, z, hi1, hi2, hi3, hi4, hi5⟩, hsz⟩ := elOk_inv hi
    have hel := elemT_of (P := P) hs
    rw [he] at hel
    subst hel
    have hsrc := h2.src (P := P) hs h1
    rw [← hi3] at hsrc
    have hn := run_append_nothing w t t ty (P.elem t) i (elem_of hs) hi1 (some ⟨b, 0, none⟩) 0 0 (by omega) _ hsrc
    rw [hr] at hn
    cases hn
    exact Ext.refl _
  · obtain ⟨v2', w2', hr2, -, hE, -⟩ := append_full (ty := ty) hs he hi (sl_of_own hown) rfl (h2.toSl (by omega)) h1 (by omega)
    rw [hr] at hr2
    cases hr2
    exact hE
end Go.Proofs
