/-
  The engine, part AA: an append that finds no room lays a new row.
-/
import Derived.Test.YthamfghcfjhifaaGreatDoorEngT
namespace Pk
open Go
theorem append_fresh {P : Program} {w : World} {s : Nat} {t ty : TypeId} {v : Value} {n : Nat} {xs : List Value} {v2 : Value} {m : Nat} {ys : List Value} {e : TypeId} (hs : isS (P.underlying t) = true) (he : elemT (P.underlying t) = e) (hi : elOk (P.info? e) s = true)
    (hv : Sl w s v n xs) (hfull : slC v = n) (h2 : Sl w s v2 m ys) (h1 : ∀ u ∈ ys, u.oneCell' = true) (hb : (n + m) ≤ 1048576) (hm : 0 < m) :
    ∃ cap cur w', (Builtin.append_ #[t, t] ty #[v, v2]).run P w = .ok (.slice (some ⟨w.heap.size, 0, none⟩) (n + m) cap) w' ∧ Sl w' s (.slice (some ⟨w.heap.size, 0, none⟩) (n + m) cap) (n + m) (xs ++ ys) ∧ Ext w w' ∧
      w'.heap[w.heap.size]? = some (.cells cur e (0, 0)) ∧ w'.heap.size = w.heap.size + 1 := by
  obtain ⟨v', w', hr, hsl, hE, -⟩ := append_full (ty := ty) hs he hi hv hfull h2 h1 hb
  obtain ⟨⟨i, z, hi1, hi2, hi3, hi4, hi5⟩, hsz⟩ := elOk_inv hi
  have hel := elemT_of (P := P) hs
  rw [he] at hel
  subst hel
  have hsrc := h2.src (P := P) hs h1
  rw [← hi3] at hsrc
  have hold : ∃ a, v = .slice a n n ∧ (Builtin.firstCells i.size n (.slice a n n)).run P w.drew = .ok xs.toArray w.drew := by
    rcases hv.val with ⟨c, rfl, rfl⟩ | ⟨b, o, c, rfl, hc⟩
    · have : c = 0 := hfull
      subst this
      have : xs = [] := List.eq_nil_of_length_eq_zero (by simpa using hv.len)
      subst this
      exact ⟨none, rfl, run_firstCells_none _ _ _ _ _⟩
    · have : c = n := hfull
      subst this
      exact ⟨_, rfl, run_firstCells_some w.drew i.size c ⟨b, o, none⟩ c c xs (by rw [hi3]; exact hv.len) (fun j u hj => by simpa [slB, slO] using hv.at_ j u hj)⟩
  obtain ⟨a, rfl, hold⟩ := hold
  have hfit : Builtin.nextslicecap (n + m) n * i.bytes ≤ 281474976710656 := growslice_fits (by omega) (by have := Nat.mul_le_mul hb hi5; omega)
  have hr2 := run_append_grow_src (P := P) w t t ty (P.elem t) i z (elem_of hs) hi1 hi2 a n n xs hold v2 m ys hsrc (by omega) (by omega) hfit
  rw [hr] at hr2
  cases hr2
  exact ⟨_, _, _, hr, hsl, hE, by simpa using World.alloc_heap_new w.drew _, by simp⟩
/-- A row that is given: where it has no room at all, its address may be whatever. -/
structure SlB (w : World) (s : Nat) (v : Value) (n : Nat) (cs : List Value) : Prop where
  len : cs.length = n * s
  val : ∃ ao c, v = .slice ao n c ∧ n ≤ c ∧ (0 < n → ∃ b o, ao = some ⟨b, o, none⟩)
  at_ : ∀ j u, cs[j]? = some u → w.cell? ⟨slB v, slO v + j, none⟩ = some u
theorem Sl.toB {w : World} {s : Nat} {v : Value} {n : Nat} {cs : List Value} (h : Sl w s v n cs) : SlB w s v n cs := by
  refine ⟨h.len, ?_, h.at_⟩
  rcases h.val with ⟨c, rfl, rfl⟩ | ⟨b, o, c, rfl, hc⟩
  · exact ⟨none, c, rfl, Nat.zero_le _, fun h => by omega⟩
  · exact ⟨_, c, rfl, hc, fun _ => ⟨b, o, rfl⟩⟩
theorem SlB.nil (w : World) (s c : Nat) : SlB w s (.slice none 0 c) 0 [] := (Sl.nil w s c).toB
theorem SlB.toSl {w : World} {s : Nat} {v : Value} {n : Nat} {cs : List Value} (h : SlB w s v n cs) (h0 : 0 < n) : Sl w s v n cs := by
  obtain ⟨ao, c, rfl, hc, ha⟩ := h.val
  obtain ⟨b, o, rfl⟩ := ha h0
  exact ⟨h.len, .inr ⟨b, o, c, rfl, hc⟩, h.at_⟩
theorem SlB.isSlice {w : World} {s : Nat} {v : Value} {n : Nat} {cs : List Value} (h : SlB w s v n cs) : ∃ a c, v = .slice a n c := by
  obtain ⟨a, c, rfl, -⟩ := h.val
  exact ⟨a, c, rfl⟩
theorem SlB.kept {w w' : World} {s : Nat} {v : Value} {n : Nat} {cs : List Value} (h : SlB w s v n cs) (hw : cs ≠ [] → ∀ (a : Addr) (u : Value), a.block = slB v → w.cell? a = some u → w'.cell? a = some u) : SlB w' s v n cs :=
  ⟨h.len, h.val, fun j u hj => hw (fun e => by rw [e] at hj; simp at hj) _ _ rfl (h.at_ j u hj)⟩
theorem SlB.ext {w w' : World} {s : Nat} {v : Value} {n : Nat} {cs : List Value} (h : SlB w s v n cs) (he : Ext w w') : SlB w' s v n cs := h.kept fun _ _ _ _ hu => he.cell_eq hu
theorem SlB.mod {w w' : World} {s : Nat} {v : Value} {n : Nat} {cs : List Value} {S : Nat → Prop} (h : SlB w s v n cs) (he : Mod S w w') (hs : cs ≠ [] → ¬ S (slB v)) : SlB w' s v n cs :=
  h.kept fun hc a _ ha hu => he.cell hu (by rw [ha]; exact hs hc)
theorem SlB.agr {w w' : World} {s : Nat} {v : Value} {n : Nat} {cs : List Value} {S : Nat → Prop} (h : SlB w s v n cs) (he : Agr S w w') (hs : cs ≠ [] → S (slB v)) : SlB w' s v n cs :=
  h.kept fun hc a _ ha hu => he.cell hu (by rw [ha]; exact hs hc)
theorem SlB.lt {w : World} {s : Nat} {v : Value} {n : Nat} {cs : List Value} (h : SlB w s v n cs) (h0 : 0 < cs.length) : slB v < w.heap.size :=
  World.block_lt_of_cell? w _ (h.at_ 0 cs[0] (by simp [h0]))
section
variable {P : Program} {w : World} {s : Nat} {v : Value} {n : Nat} {cs : List Value} {t : TypeId}
theorem SlB.isLen (h : SlB w s v n cs) (hs : isS (P.underlying t) = true) (ty : TypeId) (w' : World) : (Builtin.len_ #[t] ty #[v]).run P w' = .ok (.int .i64 n) w' := by
  obtain ⟨ao, c, rfl, _⟩ := h.val
  exact r_len_slice P w' t ty ao n c hs
theorem SlB.index (h : SlB w s v n cs) (hs : isS (P.underlying t) = true) (k : IntKind) (i : Int) (h0 : 0 ≤ i) (h1 : i < n) (w' : World) :
    (Instr.indexAt t v (.int k i)).run P w' = ((Go.sizeOf (elemT (P.underlying t))).run P w').andThen fun n w' => .ok (.pointer (some ⟨slB v, slO v + i.toNat * n, none⟩)) w' := (h.toSl (by omega)).index hs k i h0 h1 w'
theorem SlB.sliceL (h : SlB w s v n cs) (hn : 0 < n) (hs : isS (P.underlying t) = true) (k : IntKind) (i : Int) (h0 : 0 ≤ i) (h1 : i ≤ n) (w' : World) :
    (Instr.sliceAt t v (some (.int k i)) none none).run P w' = ((Go.sizeOf (elemT (P.underlying t))).run P w').andThen fun z w' => .ok (slcL v i.toNat z) w' := (h.toSl hn).sliceL hs k i h0 h1 w'
theorem SlB.dropL (h : SlB w s v n cs) (hn : 0 < n) (i : Nat) (h1 : i ≤ n) : Sl w s (slcL v i s) (n - i) (cs.drop (i * s)) := (h.toSl hn).dropL i h1
/-- All of a row, and no room behind. -/
theorem SlB.sliceAll (h : SlB w s v n cs) (hs : isS (P.underlying t) = true) (k k' : IntKind) (w' : World) :
    ∃ a, (Instr.sliceAt t v none (some (.int k n)) (some (.int k' n))).run P w' = (((Go.sizeOf (elemT (P.underlying t))).run P w').andThen (fun _ w' => .ok (.slice a n n) w')) ∧ SlB w s (.slice a n n) n cs := by
  obtain ⟨ao, c, rfl, hc, ha⟩ := h.val
  by_cases h0 : n = 0
  · subst h0
    have hcs : cs = [] := List.eq_nil_of_length_eq_zero (by simpa using h.len)
    subst hcs
    refine ⟨ao, ?_, by simp, ?_, fun _ _ h => by simp at h⟩
    · rw [run_sliceAt_slice w' t _ _ _ _ (elem_of hs), elemT_of hs, run_slice_hm w' t ao 0 c (elem_of hs) k k' ((0 : Nat) : Int) ((0 : Nat) : Int) (by omega) (by omega) (by omega)]
      congr 1
    · exact ⟨ao, 0, rfl, Nat.le_refl _, fun h => by omega⟩
  · obtain ⟨b, o, rfl⟩ := ha (by omega)
    refine ⟨some ⟨b, o, none⟩, ?_, h.len, ⟨_, n, rfl, Nat.le_refl _, fun _ => ⟨b, o, rfl⟩⟩, h.at_⟩
    rw [run_sliceAt_slice w' t _ _ _ _ (elem_of hs), elemT_of hs, run_slice_hm w' t _ n c (elem_of hs) k k' n n (by omega) (by omega) (by omega)]
    congr 1; funext a w''; simp [sliced]
theorem SlB.src (h : SlB w s v n cs) (hs : isS (P.underlying t) = true) (h1 : ∀ u ∈ cs, u.oneCell' = true) : Src P s t v n cs w := by
  obtain ⟨ao, c, hv, hc, ha⟩ := h.val
  by_cases h0 : n = 0
  · subst h0
    have hcs : cs = [] := List.eq_nil_of_length_eq_zero (by simpa using h.len)
    subst hcs
    subst hv
    cases ao with
    | none => exact Src.ofNil w (elem_of hs) c
    | some a => exact ⟨.inl ⟨_, elem_of hs⟩, fun _ => rfl, run_firstCells_some w s 0 a 0 c [] (by simp) (by simp), run_firstCells_some w.drew s 0 a 0 c [] (by simp) (by simp), by simp, fun _ h => by cases h⟩
  · exact (h.toSl (by omega)).src hs h1
end
/-- An append, to a row that is given and has no room. -/
theorem append_freshB {P : Program} {w : World} {s : Nat} {t ty : TypeId} {a : Option Addr} {n : Nat} {xs : List Value} {v2 : Value} {m : Nat} {ys : List Value} {e : TypeId} (hs : isS (P.underlying t) = true) (he : elemT (P.underlying t) = e) (hi : elOk (P.info? e) s = true)
    (hv : SlB w s (.slice a n n) n xs) (h2 : Sl w s v2 m ys) (h1 : ∀ u ∈ ys, u.oneCell' = true) (hb : (n + m) ≤ 1048576) (hm : 0 < m) :
    ∃ cap cur w', (Builtin.append_ #[t, t] ty #[.slice a n n, v2]).run P w = .ok (.slice (some ⟨w.heap.size, 0, none⟩) (n + m) cap) w' ∧ Sl w' s (.slice (some ⟨w.heap.size, 0, none⟩) (n + m) cap) (n + m) (xs ++ ys) ∧ Ext w w' ∧
      w'.heap[w.heap.size]? = some (.cells cur e (0, 0)) ∧ w'.heap.size = w.heap.size + 1 := by
  by_cases h0 : n = 0
  · subst h0
    have hxs : xs = [] := List.eq_nil_of_length_eq_zero (by simpa using hv.len)
    subst hxs
    cases a with
    | none => exact append_fresh hs he hi (Sl.nil w s 0) rfl h2 h1 hb hm
    | some a =>
      obtain ⟨cap, cur, w1, hr, g1, g2, g3, g4⟩ := append_fresh (ty := ty) hs he hi (Sl.nil w s 0) rfl h2 h1 hb hm
      obtain ⟨⟨i, z, hi1, hi2, hi3, hi4, hi5⟩, hsz⟩ := elOk_inv hi
      have hel := elemT_of (P := P) hs
      rw [he] at hel
      subst hel
      have hsrc := h2.src (P := P) hs h1
      rw [← hi3] at hsrc
      have hfit : Builtin.nextslicecap (0 + m) 0 * i.bytes ≤ 281474976710656 := growslice_fits (by omega) (by have := Nat.mul_le_mul hb hi5; omega)
      have hr2 := run_append_grow_src (P := P) w t t ty (P.elem t) i z (elem_of hs) hi1 hi2 none 0 0 [] (run_firstCells_none _ _ _ _ _) v2 m ys hsrc (by omega) (by omega) hfit
      have hr3 := run_append_grow_src (P := P) w t t ty (P.elem t) i z (elem_of hs) hi1 hi2 (some a) 0 0 [] (run_firstCells_some w.drew i.size 0 a 0 0 [] (by simp) (by simp)) v2 m ys hsrc (by omega) (by omega) hfit
      rw [← hr2, hr] at hr3
      exact ⟨cap, cur, w1, hr3, g1, g2, g3, g4⟩
  · exact append_fresh hs he hi (hv.toSl (by omega)) rfl h2 h1 hb hm
/-- The owner's append, of a row that is given. -/
theorem append_ownB {P : Program} {w : World} {base s : Nat} {t ty : TypeId} {v : Value} {n : Nat} {xs : List Value} {v2 : Value} {m : Nat} {ys : List Value} {e : TypeId} (hs : isS (P.underlying t) = true) (he : elemT (P.underlying t) = e) (hi : elOk (P.info? e) s = true)
    (hown : w.ownsRow base e s v n xs) (h2 : SlB w s v2 m ys) (h1 : ∀ u ∈ ys, u.oneCell' = true) (hb : (n + m) ≤ 1048576) (hbase : base ≤ w.heap.size) :
    ∃ v' w', (Builtin.append_ #[t, t] ty #[v, v2]).run P w = .ok v' w' ∧ w'.ownsRow base e s v' (n + m) (xs ++ ys) ∧ Mod (fun k => slN v = false ∧ k = slB v) w w' ∧
      (slN v' = false → (slN v = false ∧ slB v' = slB v) ∨ w.heap.size ≤ slB v') := by
  by_cases h0 : m = 0
  · subst h0
    have hys : ys = [] := List.eq_nil_of_length_eq_zero (by simpa using h2.len)
    subst hys
    obtain ⟨⟨i, z, hi1, hi2, hi3, hi4, hi5⟩, hsz⟩ := elOk_inv hi
    have hel := elemT_of (P := P) hs
    rw [he] at hel
    subst hel
    have hsrc := h2.src (P := P) hs h1
    rw [← hi3] at hsrc
    refine ⟨v, w, ?_, by simpa using hown, Mod.refl _ _, fun h => .inl ⟨h, rfl⟩⟩
    rcases hown.2 with ⟨rfl, rfl⟩ | ⟨g, cap, cur, rfl, hb, hg, hc, _⟩
    · exact run_append_nothing w t t ty (P.elem t) i (elem_of hs) hi1 none 0 0 (by omega) _ hsrc
    · exact run_append_nothing w t t ty (P.elem t) i (elem_of hs) hi1 _ n cap hc _ hsrc
  · exact append_own hs he hi hown (h2.toSl (by omega)) h1 hb hbase
end Pk
