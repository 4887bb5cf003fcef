/-
  The engine, part AB: rows that are begun anew, parts of rows, marks, elements of rows.
-/
import Derived.Test.YthamfghcfjhifaaGreatDoorEngAA
import Derived.Test.YthamfghcfjhifaaGreatDoorEngZ
import Derived.Test.YthamfghcfjhifaaGreatDoorEngT
namespace Pk
open Go
set_option maxRecDepth 10000
theorem own_empty {e : TypeId} {s : Nat} (W : World) (base : Nat) (h : base ≤ W.heap.size) : (W.alloc (.cells #[] e)).ownsRow base e s (.slice (some ⟨W.heap.size, 0, none⟩) 0 0) 0 [] :=
  ⟨by simp, .inr ⟨W.heap.size, 0, #[], rfl, h, World.alloc_heap_new W _, Nat.le_refl _, by simp, by simp, by simp⟩⟩
theorem own_made (W : World) (cs : List Value) (t : TypeId) (s n : Nat) (h : cs.length = n * s) (hn : n ≤ 1000) (base : Nat) (hb : base ≤ W.heap.size) : (W.alloc (.cells cs.toArray t)).ownsRow base t s (.slice (some ⟨W.heap.size, 0, none⟩) n n) n cs :=
  ⟨h, .inr ⟨W.heap.size, n, cs.toArray, rfl, hb, World.alloc_heap_new W _, Nat.le_refl _, by simp [maxLen]; omega, by simp [h], by simp [← h]⟩⟩
/-- All of a row, appended to a new one of no room. -/
theorem append_newB {P : Program} {w : World} {base s : Nat} {t ty : TypeId} {b m : Nat} {v2 : Value} {ys : List Value} {e : TypeId} (hs : isS (P.underlying t) = true) (he : elemT (P.underlying t) = e) (hi : elOk (P.info? e) s = true)
    (hown : w.ownsRow base e s (.slice (some ⟨b, 0, none⟩) 0 0) 0 []) (h2 : SlB w s v2 m ys) (h1 : ∀ u ∈ ys, u.oneCell' = true) (hb : m ≤ 1000000) (hbase : base ≤ w.heap.size) :
    ∃ v' w', (Builtin.append_ #[t, t] ty #[.slice (some ⟨b, 0, none⟩) 0 0, v2]).run P w = .ok v' w' ∧ w'.ownsRow base e s v' m ys ∧ Ext w w' := by
  obtain ⟨v', w', hr, ho, hM, -⟩ := append_ownB (ty := ty) hs he hi hown h2 h1 (by omega) hbase
  refine ⟨v', w', hr, by simpa using ho, ?_⟩
  by_cases h0 : m = 0
  · subst h0
    have hys : ys = [] := List.eq_nil_of_length_eq_zero (by simpa using h2.len)
    subst hys
    obtain ⟨⟨i, z, hi1, hi2, hi3, hi4, hi5⟩, hsz⟩ := elOk_inv hi
    have hel := elemT_of (P := P) hs
    rw [he] at hel
    subst hel
    have hsrc := h2.src (P := P) hs h1
    rw [← hi3] at hsrc
    have hn := run_append_nothing w t t ty (P.elem t) i (elem_of hs) hi1 (some ⟨b, 0, none⟩) 0 0 (by omega) _ hsrc
    rw [hr] at hn
    cases hn
    exact Ext.refl _
  · obtain ⟨v2', w2', hr2, -, hE, -⟩ := append_full (ty := ty) hs he hi (sl_of_own hown) rfl (h2.toSl (by omega)) h1 (by omega)
    rw [hr] at hr2
    cases hr2
    exact hE
theorem own_set {w : World} {base e s : Nat} {v : Value} {n : Nat} {xs : List Value} (h : w.ownsRow base e s v n xs) (j : Nat) (hj : j < xs.length) (u : Value) :
    (w.setCell ⟨slB v, slO v + j, none⟩ u).ownsRow base e s v n (xs.set j u) := by
  obtain ⟨h1, h2⟩ := h
  refine ⟨by simpa using h1, ?_⟩
  rcases h2 with ⟨rfl, rfl⟩ | ⟨g, cap, cur, rfl, hb, hg, hc, hm, hs, ht⟩
  · rw [Nat.zero_mul] at h1; omega
  · refine .inr ⟨g, cap, cur.set! j u, rfl, hb, ?_, hc, hm, by simpa using hs, ?_⟩
    · simpa [slB, slO] using heap_setCell_same w g j cur e u hg
    · rw [← ht]
      simp [Array.set!, List.take_set]
theorem own_sl' {w : World} {base e s : Nat} {v : Value} {n : Nat} {xs : List Value} (h : w.ownsRow base e s v n xs) : ∃ a c, v = .slice a n c := own_val h
def dmark (D : Nat) : Deferred := { target := .collected D, args := #[] }
/-- Marks behind ranges over functions: they are taken up at the return. -/
theorem LV_marks {P : Program} {rs : Array ResultVar} {R : Ending → World → Prop} {ρ : Env} : ∀ (Ds : List Nat) (w : World), Ds.Nodup → (∀ D ∈ Ds, w.heap[D]? = some (.deferred (some []))) → (∀ w', Mod (· ∈ Ds) w w' → LV P rs R ρ [] .returning w') →
    LV P rs R ρ (Ds.map dmark) .returning w
  | [], w, _, _, hk => hk w (Mod.refl _ _)
  | D :: Ds, w, hn, hm, hk => by
    obtain ⟨h1, h2⟩ := List.nodup_cons.1 hn
    refine LV_mark (hm D (by simp)) (by simp) ?_
    refine LV_marks Ds _ h2 (fun E hE => ?_) fun w' hM => ?_
    · rw [World.putObj_heap_other (fun e => h1 (by rw [← e]; exact hE))]
      exact hm E (by simp [hE])
    · refine hk w' ?_
      exact ((Mod.putObj D _).weaken fun i hi => by simp [hi]).trans (hM.weaken fun i hi => by simp [hi])
/-- What stands behind the first few of a row. -/
theorem sl_tail {P : Program} {t : TypeId} {w : World} {s : Nat} {v : Value} {n : Nat} {cs : List Value} (h : Sl w s v n cs) (hs : isS (P.underlying t) = true) (hz : ∀ W, (Go.sizeOf (elemT (P.underlying t))).run P W = .ok s W) (k : IntKind) (i : Nat) (hi : i ≤ n) :
    ∃ u, (∀ W, (Instr.sliceAt t v (some (.int k i)) none none).run P W = .ok u W) ∧ (∀ W, Sl W s v n cs → Sl W s u (n - i) (cs.drop (i * s))) ∧ slB u = slB v := by
  obtain ⟨a, c, hv⟩ : ∃ a c, v = .slice a n c := by
    rcases h.val with ⟨c, h1, h2⟩ | ⟨b', o', c', h1, _⟩
    · exact ⟨_, _, by rw [h1, h2]⟩
    · exact ⟨_, _, h1⟩
  subst hv
  refine ⟨sliced a i n c s, fun W => ?_, fun W hS => ?_, ?_⟩
  · have := sl_l (P := P) hs a n c k i (by omega) (by omega) W
    rw [this, hz]
    simp
  · have hm : i * s ≤ n * s := Nat.mul_le_mul_right _ hi
    refine ⟨by rw [List.length_drop, hS.len, Nat.sub_mul], ?_, ?_⟩
    · rcases hS.val with ⟨c', h1, h2⟩ | ⟨b', o', c', h1, h2⟩
      · cases h1
        have : i = 0 := by omega
        subst this
        exact .inl ⟨c, by simp [sliced], by omega⟩
      · cases h1
        refine .inr ?_
        unfold sliced
        split
        · exact ⟨b', o', _, rfl, by omega⟩
        · exact ⟨b', o' + i * s, c - i, by simp, by omega⟩
    · intro j u hj
      rw [List.getElem?_drop] at hj
      have hc := hS.at_ _ u hj
      have hlt := (List.getElem?_eq_some_iff.1 hj).1
      rw [hS.len] at hlt
      rcases hS.val with ⟨c', h1, h2⟩ | ⟨b', o', c', h1, h2⟩
      · subst h2; omega
      · cases h1
        by_cases hci : c = i
        · have : n = i := by omega
          subst this
          omega
        · have e : sliced (some ⟨b', o', none⟩) i n c s = .slice (some ⟨b', o' + i * s, none⟩) (n - i) (c - i) := by
            unfold sliced; rw [if_neg hci]; simp
          rw [e]
          simp only [slB, slO] at hc ⊢
          rw [Nat.add_assoc]; exact hc
  · rcases h.val with ⟨c', h1, h2⟩ | ⟨b', o', c', h1, h2⟩
    · cases h1
      simp [sliced, slB]
    · cases h1
      unfold sliced
      split
      · rfl
      · simp [slB]
/-- The first few of a row. -/
theorem sl_head {P : Program} {t : TypeId} {w : World} {s : Nat} {v : Value} {n : Nat} {cs : List Value} (h : Sl w s v n cs) (hs : isS (P.underlying t) = true) (hz : ∀ W, (Go.sizeOf (elemT (P.underlying t))).run P W = .ok s W) (k : IntKind) (i : Nat) (hi : i ≤ n) :
    ∃ u, (∀ W, (Instr.sliceAt t v none (some (.int k i)) none).run P W = .ok u W) ∧ (∀ W, Sl W s v n cs → Sl W s u i (cs.take (i * s))) ∧ slB u = slB v := by
  refine ⟨slcH v i, fun W => ?_, fun W hS => Sl.takeH hS i hi, by simp⟩
  have := h.sliceH (P := P) hs k i (by omega) (by omega) W
  rw [this, hz]
  simp
/-- An element's cells in a row. -/
theorem flat_at {α : Type} {s : Nat} (g : α → List Value) (hg : ∀ x, (g x).length = s) : ∀ (l : List α) (i j : Nat) (x : α), l[i]? = some x → j < s → (l.flatMap g)[i * s + j]? = (g x)[j]?
  | [], i, j, x, h, _ => by simp at h
  | a :: l, 0, j, x, h, hj => by
    simp at h; subst h
    rw [List.flatMap_cons, Nat.zero_mul, Nat.zero_add, List.getElem?_append_left (by rw [hg]; exact hj)]
  | a :: l, i + 1, j, x, h, hj => by
    have := flat_at g hg l i j x (by simpa using h) hj
    rw [List.flatMap_cons, Nat.add_mul, Nat.one_mul, List.getElem?_append_right (by rw [hg]; omega), hg]
    rw [show i * s + s + j - s = i * s + j from by omega]
    exact this
theorem flat_len {α : Type} {s : Nat} (g : α → List Value) (hg : ∀ x, (g x).length = s) (l : List α) : (l.flatMap g).length = l.length * s := by
  induction l with
  | nil => simp
  | cons a l ih => rw [List.flatMap_cons, List.length_append, hg, ih, List.length_cons, Nat.add_mul, Nat.one_mul, Nat.add_comm]
theorem flat_take {α : Type} {s : Nat} (g : α → List Value) (hg : ∀ x, (g x).length = s) : ∀ (l : List α) (k : Nat), (l.take k).flatMap g = (l.flatMap g).take (k * s)
  | [], k => by simp
  | a :: l, 0 => by simp
  | a :: l, k + 1 => by
    rw [List.take_succ_cons, List.flatMap_cons, List.flatMap_cons, flat_take g hg l k, Nat.add_mul, Nat.one_mul, Nat.add_comm (k * s) s, List.take_append, hg, Nat.add_sub_cancel_left, List.take_of_length_le (l := g a) (by rw [hg]; omega)]
theorem flat_drop {α : Type} {s : Nat} (g : α → List Value) (hg : ∀ x, (g x).length = s) : ∀ (l : List α) (k : Nat), (l.drop k).flatMap g = (l.flatMap g).drop (k * s)
  | [], k => by simp
  | a :: l, 0 => by simp
  | a :: l, k + 1 => by
    rw [List.drop_succ_cons, List.flatMap_cons, flat_drop g hg l k, Nat.add_mul, Nat.one_mul, Nat.add_comm (k * s) s, List.drop_append, hg, Nat.add_sub_cancel_left, List.drop_of_length_le (l := g a) (by rw [hg]; omega), List.nil_append]
theorem Sl.map_mod {κ ν : Type} {ek : κ → Value} {ew : ν → Value} {w w' : World} {r sz n : Nat} {m : List (κ × ν)} {v : Value} {cs : List Value} (h : Sl w sz v n cs) (hm : MapAt ek ew w r m) (hM : Mod (· = r) w w') : Sl w' sz v n cs :=
  h.kept fun a u _ hu => by
    obtain ⟨c, t, fr, hb⟩ := cell_blk hu
    refine hM.cell hu fun e => ?_
    obtain ⟨es, clock, he, -⟩ := hm.ex
    rw [← e, hb] at he
    cases he
/-- What may be written, for a plan. -/
noncomputable def Xf (S : Nat → Prop) : Nat → Bool := fun k => @decide (S k) (Classical.propDecidable _)
theorem Xf_f {S : Nat → Prop} {k : Nat} (h : ¬ S k) : Xf S k = false := by unfold Xf; simp [h]
theorem Xf_not {S : Nat → Prop} {k : Nat} (h : Xf S k = false) : ¬ S k := by unfold Xf at h; simpa using h
theorem Xf_agr {S : Nat → Prop} {w w' : World} (h : Mod S w w') : Agr (fun k => Xf S k = false) w w' := h.agr fun _ hk => Xf_not hk
/-- A block of cells that may be written. -/
def Blk (w : World) (b : Nat) (cs : List Value) : Prop := ∃ t, w.heap[b]? = some (.cells cs.toArray t (0, 0))
theorem Blk.cell {w : World} {b : Nat} {cs : List Value} (h : Blk w b cs) (j : Nat) (u : Value) (hj : cs[j]? = some u) : w.cell? ⟨b, j, none⟩ = some u := by
  obtain ⟨t, h⟩ := h
  simp [World.cell?, h, hj]
theorem Blk.thaw {w : World} {b : Nat} {cs : List Value} (h : Blk w b cs) (j : Nat) : w.frozen? ⟨b, j, none⟩ = false := by
  obtain ⟨t, h⟩ := h
  simp [World.frozen?, h]
theorem Blk.lt {w : World} {b : Nat} {cs : List Value} (h : Blk w b cs) : b < w.heap.size := by
  obtain ⟨t, h⟩ := h
  exact (Array.getElem?_eq_some_iff.1 h).1
theorem Blk.keep {w w' : World} {b : Nat} {cs : List Value} (h : Blk w b cs) (hb : w'.heap[b]? = w.heap[b]?) : Blk w' b cs := by
  obtain ⟨t, h⟩ := h
  exact ⟨t, hb.trans h⟩
theorem Blk.ext {w w' : World} {b : Nat} {cs : List Value} (h : Blk w b cs) (he : Ext w w') : Blk w' b cs := h.keep (he.blk b h.lt)
theorem Blk.mod {w w' : World} {b : Nat} {cs : List Value} {S : Nat → Prop} (h : Blk w b cs) (he : Mod S w w') (hs : ¬ S b) : Blk w' b cs := h.keep (he.blk b h.lt hs)
theorem Blk.agr {w w' : World} {b : Nat} {cs : List Value} {S : Nat → Prop} (h : Blk w b cs) (he : Agr S w w') (hs : S b) : Blk w' b cs := h.keep (he.blk b h.lt hs)
theorem Blk.new (w : World) (cs : List Value) (t : TypeId) : Blk (w.alloc (.cells cs.toArray t)) w.heap.size cs := ⟨t, World.alloc_heap_new w _⟩
theorem Blk.set {w : World} {b : Nat} {cs : List Value} (h : Blk w b cs) (j : Nat) (u : Value) : Blk (w.setCell ⟨b, j, none⟩ u) b (cs.set j u) := by
  obtain ⟨t, h⟩ := h
  refine ⟨t, ?_⟩
  have := heap_setCell_same w b j cs.toArray t u h
  simpa using this
theorem Blk.var {w : World} {b : Nat} {v : Value} (h : Blk w b [v]) : Var w b v := ⟨h.cell 0 v rfl, h.thaw 0⟩
theorem Blk.sl {w : World} {b : Nat} {cs : List Value} (h : Blk w b cs) (s n : Nat) (hn : cs.length = n * s) : Sl w s (.slice (some ⟨b, 0, none⟩) n n) n cs :=
  ⟨hn, .inr ⟨b, 0, n, rfl, Nat.le_refl _⟩, fun j u hj => by simpa [slB, slO] using h.cell j u hj⟩
theorem sl_mod {w w' : World} {v : Value} {k n : Nat} {cs : List Value} {S : Nat → Prop} (h : Sl w k v n cs) (hK : Mod S w w') (hS : cs ≠ [] → ¬ S (slB v)) : Sl w' k v n cs := by
  by_cases h0 : cs = []
  · subst h0
    exact ⟨h.len, h.val, fun j u hj => by simp at hj⟩
  · exact h.mod hK (hS h0)
theorem own_out {w : World} {base e s n : Nat} {v : Value} {xs : List Value} (h : w.ownsRow base e s v n xs) {k : Nat} (h0 : 0 < k) (hk : k < base) : slB v ≠ k := fun he => by
  cases hn : slN v with
  | false => have := own_ge h hn; omega
  | true =>
    obtain ⟨a, c, rfl⟩ := own_val h
    cases a with
    | none => simp [slB] at he; omega
    | some a => simp [slN] at hn
theorem setCell_id {w : World} {a : Addr} {v : Value} (h : w.cell? a = some v) : w.setCell a v = w := by
  unfold World.setCell
  unfold World.cell? at h
  obtain ⟨hp, tp, dr, os, out⟩ := w
  simp only at h ⊢
  congr 1
  apply Array.ext_getElem?
  intro i
  rw [Array.getElem?_modify]
  by_cases hi : a.block = i
  · subst hi
    cases hb : hp[a.block]? with
    | none => simp
    | some o =>
      rw [hb] at h
      cases o with
      | cells c e f =>
        simp only at h
        by_cases hs : a.spot.isSome = true
        · rw [if_pos hs] at h; cases h
        · rw [if_neg hs] at h
          simp only [if_true, Option.map_some, if_neg hs]
          congr 2
          apply Array.ext_getElem?
          intro j
          rw [Array.getElem?_setIfInBounds]
          split
          · rename_i hj
            subst hj
            split
            · exact h.symm
            · rename_i hlt
              rw [Array.getElem?_eq_none (by omega)] at h; cases h
          · rfl
      | _ => simp at h
  · simp [hi]
end Pk
