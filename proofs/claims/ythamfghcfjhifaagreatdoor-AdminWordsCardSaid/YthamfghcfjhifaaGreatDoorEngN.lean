/-
  The engine, part N: appends one after the other, in a statement whose order is open.
-/
import Derived.Test.YthamfghcfjhifaaGreatDoorEngM
namespace Pk
open Go

/-- Cells that are overwritten one after the other. -/
def overC (c : Array Value) : Nat → List Value → Array Value
  | _, [] => c
  | o, v :: r => overC (c.setIfInBounds o v) (o + 1) r
theorem overC_size : ∀ (vs : List Value) (c : Array Value) (o : Nat), (overC c o vs).size = c.size
  | [], _, _ => rfl
  | _ :: r, c, o => by rw [overC, overC_size r]; simp
theorem overC_get : ∀ (vs : List Value) (c : Array Value) (o j : Nat), o + vs.length ≤ c.size → (overC c o vs)[j]? = if o ≤ j ∧ j < o + vs.length then vs[j - o]? else c[j]?
  | [], c, o, j, _ => by
    have : ¬ (o ≤ j ∧ j < o + ([] : List Value).length) := by simp only [List.length_nil, Nat.add_zero]; omega
    rw [if_neg this]; rfl
  | v :: r, c, o, j, h => by
    have h' : o + 1 + r.length ≤ c.size := by simp at h; omega
    rw [overC, overC_get r _ (o + 1) j (by simpa using h')]
    by_cases h1 : j = o
    · subst h1
      rw [if_neg (by omega), if_pos (by simp)]
      have : j < c.size := by omega
      simp [this]
    · by_cases h2 : o + 1 ≤ j ∧ j < o + 1 + r.length
      · rw [if_pos h2, if_pos (by simp; omega)]
        have : j - o = j - (o + 1) + 1 := by omega
        rw [this]; rfl
      · rw [if_neg h2, if_neg (by simp; omega)]
        rw [Array.getElem?_setIfInBounds_ne (Ne.symm h1)]
theorem heap_over : ∀ (vs : List Value) (w : World) (b o : Nat) (c : Array Value) (t : TypeId) (fr : Nat × Nat), w.heap[b]? = some (.cells c t fr) → (w.setCells b o vs).heap[b]? = some (.cells (overC c o vs) t fr)
  | [], _, _, _, _, _, _, h => h
  | v :: r, w, b, o, c, t, fr, h => by
    show ((w.setCell ⟨b, o, none⟩ v).setCells b (o + 1) r).heap[b]? = _
    refine heap_over r _ b (o + 1) (c.setIfInBounds o v) t fr ?_
    have hlt : b < w.heap.size := (Array.getElem?_eq_some_iff.1 h).1
    unfold World.setCell
    simp only [Array.getElem?_modify, if_pos]
    rw [h]
    rfl
theorem heap_over_other (vs : List Value) (w : World) (g o : Nat) {i : Nat} (hi : i < w.heap.size) (hne : i ≠ g) : (w.setCells g o vs).heap[i]? = w.heap[i]? := World.heap_setCells_other w g o vs hi hne
theorem over_size (w : World) (g o : Nat) : ∀ (vs : List Value), (w.setCells g o vs).heap.size = w.heap.size := by
  intro vs
  induction vs generalizing w o with
  | nil => rfl
  | cons v r ih => show ((w.setCell ⟨g, o, none⟩ v).setCells g (o + 1) r).heap.size = _; rw [ih]; simp
theorem over_tape (w : World) (g o : Nat) : ∀ (vs : List Value), (w.setCells g o vs).tape = w.tape := by
  intro vs
  induction vs generalizing w o with
  | nil => rfl
  | cons v r ih => show ((w.setCell ⟨g, o, none⟩ v).setCells g (o + 1) r).tape = _; rw [ih]; rfl

/-- A row on its way to Z: its first n elements. -/
def Ch (base : Nat) (e : TypeId) (s : Nat) (Z : List Value) (W : World) (v : Value) (n : Nat) : Prop := W.ownsRow base e s v n (Z.take (n * s)) ∧ (n = 0 → slC v = 0)
/-- What stays while Z comes to be: what was there; blocks of one element; the rows on their way. -/
structure Kc (base : Nat) (X : Nat → Bool) (e : TypeId) (s : Nat) (Z : List Value) (a b : World) : Prop where
  old : Agr (fun k => k < base ∧ X k = false) a b
  one : ∀ g, base ≤ g → ∀ c t fr, a.heap[g]? = some (.cells c t fr) → c.size ≤ s → b.heap[g]? = some (.cells c t fr)
  row : ∀ v n, n * s ≤ Z.length → Ch base e s Z a v n → Ch base e s Z b v n
variable {base : Nat} {X : Nat → Bool} {e : TypeId} {s : Nat} {Z : List Value}
theorem Kc.refl (a : World) : Kc base X e s Z a a := ⟨Agr.refl _ _, fun _ _ _ _ _ h _ => h, fun _ _ _ h => h⟩
theorem Kc.trans {a b c : World} (h : Kc base X e s Z a b) (k : Kc base X e s Z b c) : Kc base X e s Z a c :=
  ⟨h.old.trans k.old, fun g hg c t fr h1 h2 => k.one g hg c t fr (h.one g hg c t fr h1 h2) h2, fun v n hn hr => k.row v n hn (h.row v n hn hr)⟩
theorem Kc.of_ext {a b : World} (h : Ext a b) : Kc base X e s Z a b :=
  ⟨h.agr, fun g _ c t fr h1 _ => h.obj h1, fun v n _ hr => ⟨own_ext hr.1 h, hr.2⟩⟩
theorem Ch.start (W : World) (hb : base ≤ W.heap.size) : Ch base e s Z (W.alloc (.cells #[] e (0, 0))) (.slice (some ⟨W.heap.size, 0, none⟩) 0 0) 0 :=
  ⟨⟨by simp, .inr ⟨W.heap.size, 0, #[], rfl, hb, World.alloc_heap_new W _, Nat.le_refl _, by simp [maxLen], by simp, by simp⟩⟩, fun _ => rfl⟩
theorem Ch.nil (W : World) : Ch base e s Z W (.slice none 0 0) 0 := ⟨by simpa using World.ownsRow_nil W base e s, fun _ => rfl⟩
/-- The next append. -/
theorem Ch.append {P : Program} {w : World} {t ty : TypeId} {v : Value} {n : Nat} {v2 : Value} {m : Nat} {ys : List Value} (hs : isS (P.underlying t) = true) (he : elemT (P.underlying t) = e) (hi : elOk (P.info? e) s = true)
    (hc : Ch base e s Z w v n) (h2 : Sl w s v2 m ys) (h1 : ∀ u ∈ ys, u.oneCell' = true) (hy : Z.take ((n + m) * s) = Z.take (n * s) ++ ys) (hZ : (n + m) * s ≤ Z.length) (hb : (n + m) ≤ 1048576) (hbase : base ≤ w.heap.size) :
    ∃ v' w', (Builtin.append_ #[t, t] ty #[v, v2]).run P w = .ok v' w' ∧ Ch base e s Z w' v' (n + m) ∧ Kc base X e s Z w w' := by
  obtain ⟨v', w', hr, ho, hM, hnew⟩ := append_own (P := P) (t := t) (ty := ty) hs he hi hc.1 h2 h1 hb hbase
  rw [← hy] at ho
  obtain ⟨⟨i, z, hi1, hi2, hi3, hi4, hi5⟩, hsz⟩ := elOk_inv hi
  have hel := elemT_of (P := P) hs
  rw [he] at hel
  have hsrc := h2.src (P := P) hs h1
  rw [← hi3] at hsrc
  by_cases hm : m = 0
  · subst hm
    have hys : ys = [] := List.eq_nil_of_length_eq_zero (by simpa using h2.len)
    have hr2 : (Builtin.append_ #[t, t] ty #[v, v2]).run P w = .ok v w := by
      rcases hc.1.2 with ⟨rfl, rfl⟩ | ⟨g, cap, cur, rfl, hg0, hg, hc', _⟩
      · exact run_append_nothing w t t ty (P.elem t) i (elem_of hs) (hel ▸ hi1) none 0 0 (by omega) v2 (hys ▸ hsrc)
      · exact run_append_nothing w t t ty (P.elem t) i (elem_of hs) (hel ▸ hi1) _ n cap hc' v2 (hys ▸ hsrc)
    rw [hr] at hr2
    cases hr2
    exact ⟨_, _, hr, ⟨ho, fun h0 => hc.2 (by omega)⟩, Kc.refl _⟩
  · refine ⟨v', w', hr, ⟨ho, fun h0 => by omega⟩, ?_⟩
    by_cases hin : slN v' = false ∧ slN v = false ∧ slB v' = slB v ∧ ¬ w.heap.size ≤ slB v'
    · -- in its place
      obtain ⟨_, hnv, hsb, hlt0⟩ := hin
      rcases hc.1.2 with ⟨rfl, -⟩ | ⟨g, cap, cur, rfl, hg0, hg, hc', hcm, hcs, htk⟩
      · cases hnv
      · by_cases hroom : n + m ≤ cap
        · have hn0 : n ≠ 0 := fun h0 => by have := hc.2 h0; simp only [slC] at this; omega
          have hlt : ∀ j, j < ys.length → n * i.size + j < cur.size := by
            intro j hj
            rw [h2.len] at hj
            rw [hcs, hi3]
            have : (n + m) * s ≤ cap * s := Nat.mul_le_mul_right _ hroom
            rw [Nat.add_mul] at this
            omega
          have hr2 := run_append_room_src (P := P) w t t ty (P.elem t) i (elem_of hs) (hel ▸ hi1) g 0 n cap v2 m ys hsrc hroom (fun j hj => by
            rw [cell_of_row w g _ cur e (0, 0) hg]
            simp; simpa using hlt j hj) (fun j hj => by simp [World.frozen?, hg])
          rw [hr] at hr2
          cases hr2
          rw [Nat.zero_add, hi3]
          have hgl : g < w.heap.size := (Array.getElem?_eq_some_iff.1 hg).1
          have hle : n * s + ys.length ≤ cur.size := by
            rw [h2.len, hcs]
            have : (n + m) * s ≤ cap * s := Nat.mul_le_mul_right _ hroom
            rw [Nat.add_mul] at this
            omega
          have hnew := heap_over ys w g (n * s) cur e (0, 0) hg
          refine ⟨⟨World.os_setCells _ _ _ _, over_tape _ _ _ _, World.output_setCells _ _ _ _, by rw [over_size]; exact Nat.le_refl _, fun b hb hbb => heap_over_other _ _ _ _ hb (by have := hbb.1; omega)⟩, ?_, ?_⟩
          · intro g' hg' c t' fr h1' h2'
            by_cases hgg : g' = g
            · subst hgg
              rw [hg] at h1'; cases h1'
              have : 2 * s ≤ cap * s := Nat.mul_le_mul_right _ (by omega)
              omega
            · rw [heap_over_other _ _ _ _ (Array.getElem?_eq_some_iff.1 h1').1 hgg]; exact h1'
          · rintro v1 n1 hn1 ⟨⟨a1, a2⟩, a3⟩
            refine ⟨⟨a1, ?_⟩, a3⟩
            rcases a2 with a2 | ⟨g1, cap1, cur1, rfl, b1, b2, b3, b4, b5, b6⟩
            · exact .inl a2
            · by_cases hgg : g1 = g
              · subst hgg
                rw [hg] at b2; cases b2
                refine .inr ⟨g1, cap1, _, rfl, b1, hnew, b3, b4, by rw [overC_size]; exact b5, ?_⟩
                apply List.ext_getElem?
                intro j
                rw [List.getElem?_take, List.getElem?_take]
                by_cases hj : j < n1 * s
                · rw [if_pos hj, if_pos hj, Array.getElem?_toList, overC_get _ _ _ _ hle]
                  by_cases hjj : n * s ≤ j ∧ j < n * s + ys.length
                  · rw [if_pos hjj]
                    have hZ' : (Z.take ((n + m) * s))[j]? = Z[j]? := by
                      rw [List.getElem?_take, if_pos]
                      rw [Nat.add_mul, ← h2.len]; exact hjj.2
                    rw [← hZ', hy, List.getElem?_append_right (by rw [List.length_take]; omega)]
                    have : (Z.take (n * s)).length = n * s := by rw [List.length_take]; rw [Nat.add_mul] at hZ; omega
                    rw [this]
                  · rw [if_neg hjj]
                    have := congrArg (fun l => l[j]?) b6
                    simp only [List.getElem?_take, if_pos hj, Array.getElem?_toList] at this
                    exact this
                · rw [if_neg hj, if_neg hj]
              · exact .inr ⟨g1, cap1, cur1, rfl, b1, by rw [heap_over_other _ _ _ _ (Array.getElem?_eq_some_iff.1 b2).1 hgg]; exact b2, b3, b4, b5, b6⟩
        · -- a new row: it lies behind
          exfalso
          have hold : (Builtin.firstCells i.size n (.slice (some ⟨g, 0, none⟩) n cap)).run P w.drew = .ok (Z.take (n * s)).toArray w.drew :=
            run_firstCells_some w.drew i.size n ⟨g, 0, none⟩ n cap _ (by rw [hi3]; exact hc.1.1) (fun j u hj => by simpa using hc.1.cells (g := g) rfl j u hj)
          have hfit : Builtin.nextslicecap (n + m) cap * i.bytes ≤ 281474976710656 := growslice_fits (by omega) (by have := Nat.mul_le_mul hb hi5; omega)
          have hr2 := run_append_grow_src (P := P) w t t ty (P.elem t) i z (elem_of hs) (hel ▸ hi1) hi2 (some ⟨g, 0, none⟩) n cap _ hold v2 m ys hsrc (by omega) (by omega) hfit
          rw [hr] at hr2
          cases hr2
          exact hlt0 (Nat.le_refl _)
    · -- a new row
      have hE : Ext w w' := by
        have grow : ∀ (a : Option Addr) (cap : Nat) (olds : List Value), v = .slice a n cap → cap < n + m → (Builtin.firstCells i.size n (.slice a n cap)).run P w.drew = .ok olds.toArray w.drew → Ext w w' := by
          intro a cap olds hv hcap hold
          have hfit : Builtin.nextslicecap (n + m) cap * i.bytes ≤ 281474976710656 := growslice_fits (by omega) (by have := Nat.mul_le_mul hb hi5; omega)
          have hr2 := run_append_grow_src (P := P) w t t ty (P.elem t) i z (elem_of hs) (hel ▸ hi1) hi2 a n cap olds hold v2 m ys hsrc hcap (by omega) hfit
          rw [hv, hr2] at hr
          cases hr
          exact ⟨rfl, rfl, rfl, by simp, fun k hk => Go.RowKit.Below.heap_alloc _ _ _ (by simpa using hk)⟩
        rcases hc.1.2 with ⟨rfl, rfl⟩ | ⟨g, cap, cur, rfl, hg0, hg, hc', hcm, hcs, htk⟩
        · exact grow none 0 [] rfl (by omega) (run_firstCells_none _ _ _ _ _)
        · by_cases hroom : n + m ≤ cap
          · exfalso
            have hlt : ∀ j, j < ys.length → n * i.size + j < cur.size := by
              intro j hj
              rw [h2.len] at hj
              rw [hcs, hi3]
              have : (n + m) * s ≤ cap * s := Nat.mul_le_mul_right _ hroom
              rw [Nat.add_mul] at this
              omega
            have hr2 := run_append_room_src (P := P) w t t ty (P.elem t) i (elem_of hs) (hel ▸ hi1) g 0 n cap v2 m ys hsrc hroom (fun j hj => by
              rw [cell_of_row w g _ cur e (0, 0) hg]
              simp; simpa using hlt j hj) (fun j hj => by simp [World.frozen?, hg])
            rw [hr] at hr2
            cases hr2
            exact hin ⟨rfl, rfl, rfl, by have := (Array.getElem?_eq_some_iff.1 hg).1; simp only [slB]; omega⟩
          · exact grow _ cap _ rfl (by omega) (run_firstCells_some w.drew i.size n ⟨g, 0, none⟩ n cap _ (by rw [hi3]; exact hc.1.1) (fun j u hj => by simpa using hc.1.cells (g := g) rfl j u hj))
      exact Kc.of_ext hE
end Pk
