/-
  The engine, part AG: a row that grows one by one and is kept in a cell.
-/
import Derived.Test.YthamfghcfjhifaaGreatDoorEngAF
namespace Pk
open Go
set_option maxRecDepth 10000
structure Gr (W0 w : World) (t : Nat) (cs : List Value) (e : TypeId) (s : Nat) (v : Value) (n : Nat) (xs : List Value) : Prop where
  blk : Blk w t cs
  own : w.ownsRow W0.heap.size e s v n xs
  mod : Mod (fun k => W0.heap.size ≤ k ∨ k = t) W0 w
theorem own_nothing (w : World) (base : Nat) (e : TypeId) (s : Nat) : w.ownsRow base e s (.slice none 0 0) 0 [] := ⟨by simp, .inl ⟨rfl, rfl⟩⟩
theorem Gr.start {W0 : World} {t : Nat} {cs : List Value} (e : TypeId) (s : Nat) (h : Blk W0 t cs) : Gr W0 W0 t cs e s (.slice none 0 0) 0 [] := ⟨h, own_nothing _ _ _ _, Mod.refl _ _⟩
theorem Gr.ext {W0 w w' : World} {t : Nat} {cs : List Value} {e : TypeId} {s : Nat} {v : Value} {n : Nat} {xs : List Value} (h : Gr W0 w t cs e s v n xs) (hE : Ext w w') : Gr W0 w' t cs e s v n xs :=
  ⟨h.blk.ext hE, own_ext h.own hE, h.mod.trans hE.mod⟩
/-- One more. -/
theorem Gr.push {P : Program} {W0 w : World} {t : Nat} {cs : List Value} {e : TypeId} {s : Nat} {v : Value} {n : Nat} {xs : List Value} {T : TypeId} (h : Gr W0 w t cs e s v n xs) (ht : t < W0.heap.size) (hs : isS (P.underlying T) = true) (he : elemT (P.underlying T) = e) (hi : elOk (P.info? e) s = true)
    (ys : List Value) (hys : ys.length = s) (h1 : ∀ u ∈ ys, u.oneCell' = true) (hn : n ≤ 10000) :
    ∃ a c w', (Builtin.append_ #[T, T] T #[v, .slice (some ⟨w.heap.size, 0, none⟩) 1 1]).run P (w.alloc (.cells ys.toArray e)) = .ok (.slice a (n + 1) c) w' ∧ Blk w' t cs ∧ Mod (fun k => W0.heap.size ≤ k ∨ k = t) W0 w' ∧
      ∀ j, Gr W0 (w'.setCell ⟨t, j, none⟩ (.slice a (n + 1) c)) t (cs.set j (.slice a (n + 1) c)) e s (.slice a (n + 1) c) (n + 1) (xs ++ ys) := by
  have hE := (Ext.refl w).alloc (.cells ys.toArray e)
  have hsl := Sl.made w ys e s 1 (by simpa using hys)
  have hz := h.mod.size
  obtain ⟨v', w', hr, ho, hM, -⟩ := append_own (P := P) (t := T) (ty := T) (e := e) (s := s) hs he hi (own_ext h.own hE) hsl h1 (by omega) (by have := hE.size; omega)
  obtain ⟨a, c, rfl⟩ := own_val ho
  have hge := fun hn => own_ge h.own hn
  have nt : ∀ k, k < W0.heap.size → ¬ (slN v = false ∧ k = slB v) := fun k hk ⟨e1, e2⟩ => by have := hge e1; omega
  have hb := (h.blk.ext hE).mod hM (nt t ht)
  have hM2 : Mod (fun k => W0.heap.size ≤ k ∨ k = t) W0 w' := (h.mod.trans hE.mod).trans (hM.weaken fun k hk => .inl (by have := hge hk.1; omega))
  refine ⟨a, c, w', hr, hb, hM2, fun j => ⟨hb.set j _, own_keep ho fun hn _ => ?_, hM2.setCell _ _ (.inl (.inr rfl))⟩⟩
  · have := own_ge ho hn
    exact Go.RowKit.Below.heap_setCell w' _ _ _ (by simp only; omega)
end Pk
