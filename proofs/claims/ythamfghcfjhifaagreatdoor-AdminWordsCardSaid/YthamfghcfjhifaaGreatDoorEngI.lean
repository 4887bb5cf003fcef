/-
  The engine, part I: slices.
-/
import Derived.Test.YthamfghcfjhifaaGreatDoorEngH
import Derived.Great.BuildSlice
import Derived.Laws.AppendOwn
import Derived.Deep.AppendSrc
import Derived.Deep.Upon
import Derived.Laws.Slices
import Derived.Lib.MinMax
import Derived.Laws.Externs
namespace Pk
open Go

def slB : Value → Nat | .slice (some a) _ _ => a.block | _ => 0
def slO : Value → Nat | .slice (some a) _ _ => a.off | _ => 0
def slC : Value → Nat | .slice _ _ c => c | _ => 0
def slN : Value → Bool | .slice none _ _ => true | _ => false
def slcH (v : Value) (n : Nat) : Value := match v with | .slice a _ c => .slice a n c | v => v
def slcHM (v : Value) (n m : Nat) : Value := match v with | .slice a _ _ => .slice a n m | v => v
def slcL (v : Value) (l s : Nat) : Value := match v with | .slice a n c => .slice (if c = l then a else a.map (·.add (l * s))) (n - l) (c - l) | v => v

/-- A slice that can be read: n elements of s cells each, the cells being cs. -/
structure Sl (w : World) (s : Nat) (v : Value) (n : Nat) (cs : List Value) : Prop where
  len : cs.length = n * s
  val : (∃ c, v = .slice none 0 c ∧ n = 0) ∨ (∃ b o c, v = .slice (some ⟨b, o, none⟩) n c ∧ n ≤ c)
  at_ : ∀ j u, cs[j]? = some u → w.cell? ⟨slB v, slO v + j, none⟩ = some u
theorem Sl.nil (w : World) (s c : Nat) : Sl w s (.slice none 0 c) 0 [] := ⟨by simp, .inl ⟨c, rfl, rfl⟩, by simp⟩
theorem Sl.blk {w : World} {s : Nat} {v : Value} {n : Nat} {cs : List Value} (h : Sl w s v n cs) : slN v = true ∧ n = 0 ∨ ∃ b o c, v = .slice (some ⟨b, o, none⟩) n c ∧ n ≤ c := by
  rcases h.val with ⟨c, rfl, rfl⟩ | h
  · exact .inl ⟨rfl, rfl⟩
  · exact .inr h
theorem Sl.kept {w w' : World} {s : Nat} {v : Value} {n : Nat} {cs : List Value} (h : Sl w s v n cs) (hw : ∀ (a : Addr) (u : Value), a.block = slB v → w.cell? a = some u → w'.cell? a = some u) : Sl w' s v n cs :=
  ⟨h.len, h.val, fun j u hj => hw _ _ rfl (h.at_ j u hj)⟩
theorem Sl.ext {w w' : World} {s : Nat} {v : Value} {n : Nat} {cs : List Value} (h : Sl w s v n cs) (he : Ext w w') : Sl w' s v n cs := h.kept fun _ _ _ hu => he.cell_eq hu
theorem Sl.mod {w w' : World} {s : Nat} {v : Value} {n : Nat} {cs : List Value} {S : Nat → Prop} (h : Sl w s v n cs) (he : Mod S w w') (hs : ¬ S (slB v)) : Sl w' s v n cs :=
  h.kept fun a _ ha hu => he.cell hu (by rw [ha]; exact hs)
theorem Sl.agr {w w' : World} {s : Nat} {v : Value} {n : Nat} {cs : List Value} {S : Nat → Prop} (h : Sl w s v n cs) (he : Agr S w w') (hs : S (slB v)) : Sl w' s v n cs :=
  h.kept fun a _ ha hu => he.cell hu (by rw [ha]; exact hs)
theorem Sl.drew {w : World} {s : Nat} {v : Value} {n : Nat} {cs : List Value} (h : Sl w s v n cs) : Sl w.drew s v n cs := h.kept fun _ _ _ hu => by simpa using hu
theorem Sl.lt {w : World} {s : Nat} {v : Value} {n : Nat} {cs : List Value} (h : Sl w s v n cs) (h0 : 0 < cs.length) : slB v < w.heap.size :=
  World.block_lt_of_cell? w _ (h.at_ 0 cs[0] (by simp [h0]))
section
variable {P : Program} {w : World} {s : Nat} {v : Value} {n : Nat} {cs : List Value} {t : TypeId}
theorem Sl.isLen (h : Sl w s v n cs) (hs : isS (P.underlying t) = true) (ty : TypeId) (w' : World) : (Builtin.len_ #[t] ty #[v]).run P w' = .ok (.int .i64 n) w' := by
  rcases h.val with ⟨c, rfl, rfl⟩ | ⟨b, o, c, rfl, _⟩
  · simpa using r_len_slice P w' t ty none 0 c hs
  · exact r_len_slice P w' t ty _ n c hs
theorem Sl.index (h : Sl w s v n cs) (hs : isS (P.underlying t) = true) (k : IntKind) (i : Int) (h0 : 0 ≤ i) (h1 : i < n) (w' : World) :
    (Instr.indexAt t v (.int k i)).run P w' = ((Go.sizeOf (elemT (P.underlying t))).run P w').andThen fun n w' => .ok (.pointer (some ⟨slB v, slO v + i.toNat * n, none⟩)) w' := by
  rcases h.val with ⟨c, rfl, rfl⟩ | ⟨b, o, c, rfl, _⟩
  · omega
  · exact r_index_slice P w' t b o n c k i hs h0 h1
theorem Sl.isNil (h : Sl w s v n cs) (hs : isS (P.underlying t) = true) (w' : World) : (binOp .eql t v (.slice none 0 0)).run P w' = .ok (.bool (slN v)) w' := by
  rcases h.val with ⟨c, rfl, rfl⟩ | ⟨b, o, c, rfl, _⟩
  · simpa [slN] using b_eql_slice P w' t none 0 c 0 0 hs
  · simpa [slN] using b_eql_slice P w' t (some ⟨b, o, none⟩) n c 0 0 hs
theorem elem_of (hs : isS (P.underlying t) = true) : P.underlying t = some (.slice (P.elem t)) := by
  have := isS_inv hs
  have h2 : P.elem t = elemT (P.underlying t) := by unfold Program.elem; rw [this]; rfl
  rw [h2]; exact this
theorem elemT_of (hs : isS (P.underlying t) = true) : elemT (P.underlying t) = P.elem t := by
  have := elem_of hs
  rw [this]; rfl
theorem Sl.sliceH (h : Sl w s v n cs) (hs : isS (P.underlying t) = true) (k : IntKind) (i : Int) (h0 : 0 ≤ i) (h1 : i ≤ n) (w' : World) :
    (Instr.sliceAt t v none (some (.int k i)) none).run P w' = ((Go.sizeOf (elemT (P.underlying t))).run P w').andThen fun _ w' => .ok (slcH v i.toNat) w' := by
  rw [run_sliceAt_slice w' t v _ _ _ (elem_of hs), elemT_of hs]
  rcases h.val with ⟨c, rfl, rfl⟩ | ⟨b, o, c, rfl, hc⟩
  · rw [run_slice_h w' t none 0 c (elem_of hs) k i h0 (by omega)]
    congr 1; funext a w''; simp [sliced, slcH]
  · rw [run_slice_h w' t _ n c (elem_of hs) k i h0 (by omega)]
    congr 1; funext a w''; simp [sliced, slcH]
theorem Sl.sliceHM (h : Sl w s v n cs) (hs : isS (P.underlying t) = true) (k k' : IntKind) (i m : Int) (h0 : 0 ≤ i) (h1 : i ≤ m) (h2 : m ≤ n) (w' : World) :
    (Instr.sliceAt t v none (some (.int k i)) (some (.int k' m))).run P w' = ((Go.sizeOf (elemT (P.underlying t))).run P w').andThen fun _ w' => .ok (slcHM v i.toNat m.toNat) w' := by
  rw [run_sliceAt_slice w' t v _ _ _ (elem_of hs), elemT_of hs]
  rcases h.val with ⟨c, rfl, rfl⟩ | ⟨b, o, c, rfl, hc⟩
  · rw [run_slice_hm w' t none 0 c (elem_of hs) k k' i m h0 h1 (by omega)]
    congr 1; funext a w''; simp [sliced, slcHM]
  · rw [run_slice_hm w' t _ n c (elem_of hs) k k' i m h0 h1 (by omega)]
    congr 1; funext a w''; simp [sliced, slcHM]
theorem Sl.takeH (h : Sl w s v n cs) (i : Nat) (h1 : i ≤ n) : Sl w s (slcH v i) i (cs.take (i * s)) := by
  have hl := h.len
  have : i * s ≤ n * s := Nat.mul_le_mul_right s h1
  refine ⟨by rw [List.length_take]; omega, ?_, ?_⟩
  · rcases h.val with ⟨c, rfl, rfl⟩ | ⟨b, o, c, rfl, hc⟩
    · exact .inl ⟨c, by have : i = 0 := by omega
                        subst this; rfl, by omega⟩
    · exact .inr ⟨b, o, c, rfl, by omega⟩
  · intro j u hj
    rw [List.getElem?_take] at hj
    split at hj
    · have hat := h.at_ j u hj
      rcases h.val with ⟨c, rfl, rfl⟩ | ⟨b, o, c, rfl, hc⟩ <;> exact hat
    · cases hj
theorem Sl.takeHM (h : Sl w s v n cs) (i m : Nat) (h1 : i ≤ m) (h2 : m ≤ n) : Sl w s (slcHM v i m) i (cs.take (i * s)) := by
  have hl := h.len
  have : i * s ≤ n * s := Nat.mul_le_mul_right s (by omega)
  refine ⟨by rw [List.length_take]; omega, ?_, ?_⟩
  · rcases h.val with ⟨c, rfl, rfl⟩ | ⟨b, o, c, rfl, hc⟩
    · exact .inl ⟨m, by have : i = 0 := by omega
                        subst this; rfl, by omega⟩
    · exact .inr ⟨b, o, m, rfl, by omega⟩
  · intro j u hj
    rw [List.getElem?_take] at hj
    split at hj
    · have hat := h.at_ j u hj
      rcases h.val with ⟨c, rfl, rfl⟩ | ⟨b, o, c, rfl, hc⟩ <;> exact hat
    · cases hj
theorem Sl.src (h : Sl w s v n cs) (hs : isS (P.underlying t) = true) (h1 : ∀ u ∈ cs, u.oneCell' = true) : Src P s t v n cs w := by
  rcases h.val with ⟨c, rfl, rfl⟩ | ⟨b, o, c, rfl, hc⟩
  · have : cs = [] := List.eq_nil_of_length_eq_zero (by simpa using h.len)
    subst this
    exact Src.ofNil w (elem_of hs) c
  · exact Src.ofSlice w (elem_of hs) ⟨b, o, none⟩ n c cs h.len (fun j u hj => by simpa [slB, slO] using h.at_ j u hj) h1
end
/-- An owned row can be read. -/
theorem sl_of_own {w : World} {base e s : Nat} {v : Value} {n : Nat} {xs : List Value} (h : w.ownsRow base e s v n xs) : Sl w s v n xs := by
  refine ⟨h.1, ?_, ?_⟩
  · rcases h.2 with ⟨rfl, rfl⟩ | ⟨g, cap, cur, rfl, _, _, hc, _⟩
    · exact .inl ⟨0, rfl, rfl⟩
    · exact .inr ⟨g, 0, cap, rfl, hc⟩
  · intro j u hj
    rcases h.2 with ⟨rfl, rfl⟩ | ⟨g, cap, cur, rfl, hb, hg, hc, _⟩
    · have : xs = [] := List.eq_nil_of_length_eq_zero (by simpa using h.1)
      subst this; simp at hj
    · have := h.cells (g := g) rfl j u hj
      simpa [slB, slO] using this
theorem own_ge {w : World} {base e s : Nat} {v : Value} {n : Nat} {xs : List Value} (h : w.ownsRow base e s v n xs) (h0 : slN v = false) : base ≤ slB v := by
  rcases h.2 with ⟨rfl, rfl⟩ | ⟨g, cap, cur, rfl, hb, hg, hc, _⟩
  · cases h0
  · exact hb
theorem own_keep {w w' : World} {base e s : Nat} {v : Value} {n : Nat} {xs : List Value} (h : w.ownsRow base e s v n xs) (hk : slN v = false → slB v < w.heap.size → w'.heap[slB v]? = w.heap[slB v]?) : w'.ownsRow base e s v n xs := by
  refine ⟨h.1, ?_⟩
  rcases h.2 with hn | ⟨g, cap, cur, rfl, hb, hg, rest⟩
  · exact .inl hn
  · exact .inr ⟨g, cap, cur, rfl, hb, (hk rfl (Array.getElem?_eq_some_iff.1 hg).1).trans hg, rest⟩
theorem own_ext {w w' : World} {base e s : Nat} {v : Value} {n : Nat} {xs : List Value} (h : w.ownsRow base e s v n xs) (he : Ext w w') : w'.ownsRow base e s v n xs := own_keep h fun _ hl => he.blk _ hl
theorem own_obj {w : World} {base e s : Nat} {v : Value} {n : Nat} {xs : List Value} (h : w.ownsRow base e s v n xs) (hn : slN v = false) : ∃ c, w.heap[slB v]? = some (.cells c e (0, 0)) := by
  rcases h.2 with ⟨rfl, rfl⟩ | ⟨g, cap, cur, rfl, hb, hg, rest⟩
  · cases hn
  · exact ⟨cur, hg⟩
theorem own_val {w : World} {base e s : Nat} {v : Value} {n : Nat} {xs : List Value} (h : w.ownsRow base e s v n xs) : ∃ a c, v = .slice a n c := by
  rcases h.2 with ⟨rfl, rfl⟩ | ⟨g, cap, cur, rfl, rest⟩
  · exact ⟨none, 0, rfl⟩
  · exact ⟨_, _, rfl⟩
theorem Sl.isSlice {w : World} {s : Nat} {v : Value} {n : Nat} {xs : List Value} (h : Sl w s v n xs) : ∃ a c, v = .slice a n c := by
  rcases h.val with ⟨c, rfl, rfl⟩ | ⟨b, o, c, rfl, _⟩
  · exact ⟨none, c, rfl⟩
  · exact ⟨_, _, rfl⟩
theorem own_thaw {w : World} {base e s : Nat} {v : Value} {n : Nat} {xs : List Value} (h : w.ownsRow base e s v n xs) (hn : 0 < n) (j : Nat) : w.frozen? ⟨slB v, j, none⟩ = false := by
  rcases h.2 with ⟨rfl, rfl⟩ | ⟨g, cap, cur, rfl, hb, hg, rest⟩
  · omega
  · simp [World.frozen?, slB, hg]
theorem own_nil {w : World} {base e s : Nat} {v : Value} {n : Nat} {xs : List Value} (h : w.ownsRow base e s v n xs) (hn : 0 < n) : slN v = false := by
  rcases h.2 with ⟨rfl, rfl⟩ | ⟨g, cap, cur, rfl, hb, hg, rest⟩
  · omega
  · rfl
theorem own_off {w : World} {base e s : Nat} {v : Value} {n : Nat} {xs : List Value} (h : w.ownsRow base e s v n xs) : slO v = 0 := by
  rcases h.2 with ⟨rfl, rfl⟩ | ⟨g, cap, cur, rfl, hb, hg, rest⟩ <;> rfl
@[simp] theorem slB_slcH (v : Value) (n : Nat) : slB (slcH v n) = slB v := by
  cases v with
  | slice a _ _ => cases a <;> rfl
  | _ => rfl
@[simp] theorem slO_slcH (v : Value) (n : Nat) : slO (slcH v n) = slO v := by
  cases v with
  | slice a _ _ => cases a <;> rfl
  | _ => rfl
@[simp] theorem slN_slcH (v : Value) (n : Nat) : slN (slcH v n) = slN v := by
  cases v with
  | slice a _ _ => cases a <;> rfl
  | _ => rfl
theorem own_lower {w : World} {base base' e s : Nat} {v : Value} {n : Nat} {xs : List Value} (h : w.ownsRow base e s v n xs) (hb : base' ≤ base) : w.ownsRow base' e s v n xs := by
  refine ⟨h.1, ?_⟩
  rcases h.2 with hn | ⟨g, cap, cur, rfl, hb', rest⟩
  · exact .inl hn
  · exact .inr ⟨g, cap, cur, rfl, by omega, rest⟩
theorem Sl.made (w : World) (cs : List Value) (t : TypeId) (s n : Nat) (h : cs.length = n * s) : Sl (w.alloc (.cells cs.toArray t)) s (.slice (some ⟨w.heap.size, 0, none⟩) n n) n cs :=
  ⟨h, .inr ⟨_, _, _, rfl, Nat.le_refl _⟩, fun j x hj => by simp [slB, slO, hj]⟩
theorem Sl.one (w : World) (u : Value) (t : TypeId) : Sl (w.alloc (.cells #[u] t)) 1 (.slice (some ⟨w.heap.size, 0, none⟩) 1 1) 1 [u] :=
  ⟨rfl, .inr ⟨_, _, _, rfl, Nat.le_refl _⟩, fun j x hj => by
    cases j with
    | zero => simp at hj; subst hj; simp [slB, slO]
    | succ j => simp at hj⟩
theorem grown_mod {w w' : World} {v : Value} (h : w.grownBy w' v.ownBlock) : Mod (fun k => slN v = false ∧ k = slB v) w w' := by
  refine ⟨h.os, h.tape, h.output, h.size, fun k hk hn => h.block k hk ?_⟩
  intro e
  apply hn
  unfold Value.ownBlock at e
  split at e
  · cases e; exact ⟨rfl, rfl⟩
  · cases e
def elOk (o : Option TypeInfo) (s : Nat) : Bool :=
  match o with
  | some i => (match i.zero with | some z => i.size == s && (z.cells.size == s && (decide (i.bytes ≤ 4096) && decide (0 < s))) | none => false)
  | none => false
theorem elOk_inv {o : Option TypeInfo} {s : Nat} (h : elOk o s = true) : (∃ i z, o = some i ∧ i.zero = some z ∧ i.size = s ∧ z.cells.size = s ∧ i.bytes ≤ 4096) ∧ 0 < s := by
  unfold elOk at h
  cases o with
  | none => cases h
  | some i =>
    simp only at h
    cases hz : i.zero with
    | none => rw [hz] at h; cases h
    | some z =>
      rw [hz] at h
      simp only [Bool.and_eq_true, beq_iff_eq, decide_eq_true_eq] at h
      exact ⟨⟨i, z, rfl, hz, h.1, h.2.1, h.2.2.1⟩, h.2.2.2⟩
/-- THE OWNER's append: a nil or an own row grows by what a slice holds. -/
theorem append_own {P : Program} {w : World} {base s : Nat} {t ty : TypeId} {v : Value} {n : Nat} {xs : List Value} {v2 : Value} {m : Nat} {ys : List Value} {e : TypeId} (hs : isS (P.underlying t) = true) (he : elemT (P.underlying t) = e) (hi : elOk (P.info? e) s = true)
    (hown : w.ownsRow base e s v n xs) (h2 : Sl w s v2 m ys) (h1 : ∀ u ∈ ys, u.oneCell' = true) (hb : (n + m) ≤ 1048576) (hbase : base ≤ w.heap.size) :
    ∃ v' w', (Builtin.append_ #[t, t] ty #[v, v2]).run P w = .ok v' w' ∧ w'.ownsRow base e s v' (n + m) (xs ++ ys) ∧ Mod (fun k => slN v = false ∧ k = slB v) w w' ∧
      (slN v' = false → (slN v = false ∧ slB v' = slB v) ∨ w.heap.size ≤ slB v') := by
  obtain ⟨⟨i, z, hi1, hi2, hi3, hi4, hi5⟩, hsz⟩ := elOk_inv hi
  have hel := elemT_of (P := P) hs
  rw [he] at hel
  subst hel
  rcases h2.val with ⟨c, rfl, rfl⟩ | ⟨b, o, c, rfl, hc⟩
  · have : ys = [] := List.eq_nil_of_length_eq_zero (by simpa using h2.len)
    subst this
    have hsrc := h2.src (P := P) hs h1
    rw [← hi3] at hsrc
    refine ⟨v, w, ?_, by simpa using hown, Mod.refl _ _, fun h => .inl ⟨h, rfl⟩⟩
    rcases hown.2 with ⟨rfl, rfl⟩ | ⟨g, cap, cur, rfl, hb, hg, hc, _⟩
    · exact run_append_nothing w t t ty (P.elem t) i (elem_of hs) hi1 none 0 0 (by omega) _ hsrc
    · exact run_append_nothing w t t ty (P.elem t) i (elem_of hs) hi1 _ n cap hc _ hsrc
  · obtain ⟨v', w', hr, ho, hg, _⟩ := run_append_own (P := P) w base t ty (P.elem t) i z s i.bytes (elem_of hs) hi1 hi2 hi3 rfl hi4 hsz v n xs hown ⟨b, o, none⟩ m c ys h2.len (fun j u hj => by simpa [slB, slO] using h2.at_ j u hj) h1
      (by simp only [maxLen]; omega) (by have := Nat.mul_le_mul hb hi5; omega) hbase
    refine ⟨v', w', hr, ho, grown_mod hg, ?_⟩
    have hsrc := h2.src (P := P) hs h1
    rw [← hi3] at hsrc
    rcases hown.2 with ⟨rfl, rfl⟩ | ⟨g, cap, cur, rfl, hbg, hgg, hnc, hcm, hcs, htake⟩
    · intro hn
      obtain ⟨v2, w2, hr2, ho2, _⟩ := run_append_own (P := P) w w.heap.size t ty (P.elem t) i z s i.bytes (elem_of hs) hi1 hi2 hi3 rfl hi4 hsz (.slice none 0 0) 0 [] (World.ownsRow_nil _ _ _ _) ⟨b, o, none⟩ m c ys h2.len (fun j u hj => by simpa [slB, slO] using h2.at_ j u hj) h1
        (by simp only [maxLen]; omega) (by have := Nat.mul_le_mul hb hi5; omega) (Nat.le_refl _)
      rw [hr] at hr2
      cases hr2
      exact .inr (own_ge ho2 hn)
    · by_cases hroom : n + m ≤ cap
      · have hlt : ∀ j, j < ys.length → n * i.size + j < cur.size := by
          intro j hj
          rw [h2.len] at hj
          rw [hcs, hi3]
          have : (n + m) * s ≤ cap * s := Nat.mul_le_mul_right _ hroom
          rw [Nat.add_mul] at this
          omega
        have hr2 := run_append_room_src (P := P) w t t ty (P.elem t) i (elem_of hs) hi1 g 0 n cap _ m ys hsrc hroom (fun j hj => by
          rw [cell_of_row w g _ cur (P.elem t) (0, 0) hgg]
          simp; simpa using hlt j hj) (fun j hj => by simp [World.frozen?, hgg])
        rw [hr] at hr2
        cases hr2
        exact fun _ => .inl ⟨rfl, rfl⟩
      · have hold : (Builtin.firstCells i.size n (.slice (some ⟨g, 0, none⟩) n cap)).run P w.drew = .ok xs.toArray w.drew :=
          run_firstCells_some w.drew i.size n ⟨g, 0, none⟩ n cap xs (by rw [hi3]; exact hown.1) (fun j u hj => by simpa using hown.cells (g := g) rfl j u hj)
        have hfit : Builtin.nextslicecap (n + m) cap * i.bytes ≤ 281474976710656 := growslice_fits (by omega) (by have := Nat.mul_le_mul hb hi5; omega)
        have hr2 := run_append_grow_src (P := P) w t t ty (P.elem t) i z (elem_of hs) hi1 hi2 (some ⟨g, 0, none⟩) n cap xs hold _ m ys hsrc (by omega) (by omega) hfit
        rw [hr] at hr2
        cases hr2
        exact fun _ => .inr (Nat.le_refl _)
/-- An append that finds no room, or nothing to append. -/
theorem append_full {P : Program} {w : World} {s : Nat} {t ty : TypeId} {v : Value} {n : Nat} {xs : List Value} {v2 : Value} {m : Nat} {ys : List Value} {e : TypeId} (hs : isS (P.underlying t) = true) (he : elemT (P.underlying t) = e) (hi : elOk (P.info? e) s = true)
    (hv : Sl w s v n xs) (hfull : slC v = n) (h2 : Sl w s v2 m ys) (h1 : ∀ u ∈ ys, u.oneCell' = true) (hb : (n + m) ≤ 1048576) :
    ∃ v' w', (Builtin.append_ #[t, t] ty #[v, v2]).run P w = .ok v' w' ∧ Sl w' s v' (n + m) (xs ++ ys) ∧ Ext w w' ∧ (slN v' = true → slN v = true) := by
  obtain ⟨⟨i, z, hi1, hi2, hi3, hi4, hi5⟩, hsz⟩ := elOk_inv hi
  have hel := elemT_of (P := P) hs
  rw [he] at hel
  subst hel
  by_cases hm : m = 0
  · subst hm
    have : ys = [] := List.eq_nil_of_length_eq_zero (by simpa using h2.len)
    subst this
    have hsrc := h2.src (P := P) hs h1
    rw [← hi3] at hsrc
    refine ⟨v, w, ?_, by simpa using hv, Ext.refl _, fun h => h⟩
    rcases hv.val with ⟨c, rfl, rfl⟩ | ⟨b, o, c, rfl, hc⟩
    · exact run_append_nothing w t t ty (P.elem t) i (elem_of hs) hi1 none 0 c (by omega) v2 hsrc
    · exact run_append_nothing w t t ty (P.elem t) i (elem_of hs) hi1 _ n c hc v2 hsrc
  · have hsrc := h2.src (P := P) hs h1
    rw [← hi3] at hsrc
    have hold : ∃ a, v = .slice a n n ∧ (Builtin.firstCells i.size n (.slice a n n)).run P w.drew = .ok xs.toArray w.drew := by
      rcases hv.val with ⟨c, rfl, rfl⟩ | ⟨b, o, c, rfl, hc⟩
      · have : c = 0 := hfull
        subst this
        have : xs = [] := List.eq_nil_of_length_eq_zero (by simpa using hv.len)
        subst this
        exact ⟨none, rfl, run_firstCells_none _ _ _ _ _⟩
      · have : c = n := hfull
        subst this
        exact ⟨_, rfl, run_firstCells_some w.drew i.size c ⟨b, o, none⟩ c c xs (by rw [hi3]; exact hv.len) (fun j u hj => by simpa [slB, slO] using hv.at_ j u hj)⟩
    obtain ⟨a, rfl, hold⟩ := hold
    have hfit : Builtin.nextslicecap (n + m) n * i.bytes ≤ 281474976710656 := growslice_fits (by omega) (by have := Nat.mul_le_mul hb hi5; omega)
    have hr := run_append_grow_src (P := P) w t t ty (P.elem t) i z (elem_of hs) hi1 hi2 a n n xs hold v2 m ys hsrc (by omega) (by omega) hfit
    refine ⟨_, _, hr, ⟨?_, .inr ⟨_, _, _, rfl, grownCap_ge _ _ _ _⟩, ?_⟩, ?_, fun h => by cases h⟩
    · rw [List.length_append, hv.len, h2.len, Nat.add_mul]
    · intro j u hj
      have hj' := (List.getElem?_eq_some_iff.1 hj).1
      simp only [slB, slO, Nat.zero_add]
      rw [cell_of_row _ w.heap.size j _ (P.elem t) (0, 0) (by simpa using World.alloc_heap_new w.drew _)]
      rw [Array.getElem?_append_left (by simpa using hj')]
      simpa using hj
    · exact ⟨rfl, rfl, rfl, by simp, fun k hk => Go.RowKit.Below.heap_alloc _ _ _ (by simpa using hk)⟩
@[simp] theorem VLt_drop (P : Program) (r : Option Nat) (ops : Array Oper) (Q : Post) (k : Nat) (o : Oper) (l : List Oper) (t) (ρ : Env) (ds : List Deferred) (w : World) :
    VLt P r ops Q (List.drop (k + 1) (o :: l)) t ρ ds w = VLt P r ops Q (List.drop k l) .mk ρ ds w := _root_.id rfl
@[simp] theorem VLt_drop0 (P : Program) (r : Option Nat) (ops : Array Oper) (Q : Post) (l : List Oper) (t) (ρ : Env) (ds : List Deferred) (w : World) :
    VLt P r ops Q (List.drop 0 l) t ρ ds w = VLt P r ops Q l .mk ρ ds w := _root_.id rfl
@[simp] theorem PLt_take (P : Program) (r : Option Nat) (ds : List Deferred) (ops : Array Oper) (w1 : World) (T : Env → Prop) (k : Nat) (o : Oper) (l : List Oper) (t) (σ : Env) :
    PLt P r ds ops w1 T (List.take (k + 1) (o :: l)) t σ = PLt P r ds ops w1 T (o :: List.take k l) .mk σ := _root_.id rfl
@[simp] theorem PLt_take0 (P : Program) (r : Option Nat) (ds : List Deferred) (ops : Array Oper) (w1 : World) (T : Env → Prop) (l : List Oper) (t) (σ : Env) :
    PLt P r ds ops w1 T (List.take 0 l) t σ = T σ := _root_.id rfl
section
variable {P : Program} {r : Option Nat} {ds : List Deferred} {Kp : World → World → Prop} {w0 : World} {ops : Array Oper} {T : Env → World → Prop}
theorem VA_mk {bs0 : List (List Nat)} {o : Oper} {os : List Oper} {A : Value → World → Prop} {As : List (Value → World → Prop)} {b : List Nat} {bs : List (List Nat)} {i : Nat} {acc : List (Nat × (World → Prop))} {ρ : Env}
    (h1 : ∀ w', Kp w0 w' → (∀ p ∈ acc, p.1 ∈ b → p.2 w') → GI (gw ops ρ o.guard) (VO P r o (fun ρ'' ds'' w'' => ds'' = ds ∧ Kp w' w'' ∧ A (dv ρ'' o.dst) w'' ∧ True) (fun _ _ _ _ => False) ρ ds w') (A undef w' ∧ True))
    (h2 : ∀ v, VA P r ds Kp (fun _ _ => True) bs0 w0 ops T os As bs (i + 1) (acc ++ [(i, A v)]) (put ρ o.dst v)) : VA P r ds Kp (fun _ _ => True) bs0 w0 ops T (o :: os) (A :: As) (b :: bs) i acc ρ :=
  ⟨fun _ w' hk _ _ ha => h1 w' hk ha, h2⟩
theorem VA_fin {bs0 : List (List Nat)} {i : Nat} {acc : List (Nat × (World → Prop))} {ρ : Env} (h : ∀ w', Kp w0 w' → (∀ p ∈ acc, p.2 w') → T ρ w') : VA P r ds Kp (fun _ _ => True) bs0 w0 ops T [] [] [] i acc ρ :=
  fun _ w' hk _ _ ha => h w' hk ha
variable {G : (Nat → Bool) → World → Prop}
theorem VA_mkG {bs0 : List (List Nat)} {o : Oper} {os : List Oper} {A : Value → World → Prop} {As : List (Value → World → Prop)} {b : List Nat} {bs : List (List Nat)} {i : Nat} {acc : List (Nat × (World → Prop))} {ρ : Env}
    (h1 : ∀ S w', Kp w0 w' → G S w' → nok bs0 S i → (∀ p ∈ acc, p.1 ∈ b → p.2 w') → GI (gw ops ρ o.guard) (VO P r o (fun ρ'' ds'' w'' => ds'' = ds ∧ Kp w' w'' ∧ A (dv ρ'' o.dst) w'' ∧ G (upd S i) w'') (fun _ _ _ _ => False) ρ ds w') (A undef w' ∧ G (upd S i) w'))
    (h2 : ∀ v, VA P r ds Kp G bs0 w0 ops T os As bs (i + 1) (acc ++ [(i, A v)]) (put ρ o.dst v)) : VA P r ds Kp G bs0 w0 ops T (o :: os) (A :: As) (b :: bs) i acc ρ := ⟨h1, h2⟩
theorem VA_finG {bs0 : List (List Nat)} {i : Nat} {acc : List (Nat × (World → Prop))} {ρ : Env} (h : ∀ S w', Kp w0 w' → G S w' → (∀ j, j < i → S j = true) → (∀ p ∈ acc, p.2 w') → T ρ w') : VA P r ds Kp G bs0 w0 ops T [] [] [] i acc ρ := h
end
/-- A variable of one cell. -/
structure Var (w : World) (b : Nat) (v : Value) : Prop where
  cell : w.cell? ⟨b, 0, none⟩ = some v
  thaw : w.frozen? ⟨b, 0, none⟩ = false
theorem Var.of_obj {w : World} {b : Nat} {v : Value} {t : TypeId} (h : w.heap[b]? = some (.cells #[v] t (0, 0))) : Var w b v := ⟨by simp [World.cell?, h], by simp [World.frozen?, h]⟩
theorem Var.lt {w : World} {b : Nat} {v : Value} (h : Var w b v) : b < w.heap.size := World.block_lt_of_cell? w _ h.cell
theorem Var.keep {w w' : World} {b : Nat} {v : Value} (h : Var w b v) (hb : w'.heap[b]? = w.heap[b]?) : Var w' b v :=
  ⟨(World.cell?_of_block (a := ⟨b, 0, none⟩) hb).trans h.cell, (World.frozen?_of_block (a := ⟨b, 0, none⟩) hb).trans h.thaw⟩
theorem Var.ext {w w' : World} {b : Nat} {v : Value} (h : Var w b v) (he : Ext w w') : Var w' b v := h.keep (he.blk b h.lt)
theorem Var.mod {w w' : World} {b : Nat} {v : Value} {S : Nat → Prop} (h : Var w b v) (he : Mod S w w') (hs : ¬ S b) : Var w' b v := h.keep (he.blk b h.lt hs)
theorem Var.agr {w w' : World} {b : Nat} {v : Value} {S : Nat → Prop} (h : Var w b v) (he : Agr S w w') (hs : S b) : Var w' b v := h.keep (he.blk b h.lt hs)
theorem Var.new (w : World) (v : Value) (t : TypeId) : Var (w.alloc (.cells #[v] t)) w.heap.size v := ⟨by simp, by simp⟩
theorem Var.set {w : World} {b : Nat} {v : Value} (h : Var w b v) (u : Value) : Var (w.setCell ⟨b, 0, none⟩ u) b u := by
  exact ⟨World.cell?_setCell_same w _ _ h.cell, by simpa using h.thaw⟩
theorem Ext.drew (w : World) : Ext w w.drew := ⟨rfl, rfl, rfl, Nat.le_refl _, fun _ _ => rfl⟩
theorem Ext.putObj {a w : World} (h : Ext a w) (r : Nat) (o : Obj) (hr : a.heap.size ≤ r) : Ext a (w.putObj r o) :=
  ⟨h.os, h.tape, h.out, by simpa using h.size, fun i hi => (World.putObj_heap_other (by omega)).trans (h.blk i hi)⟩
theorem Ext.var {w w' : World} {b : Nat} {v : Value} (he : Ext w w') (h : Var w b v) : Var w' b v := h.ext he
theorem Iter.ext {α : Type} {P : Program} {g : Value} {enc : α → List Value} {S Sp : List α → Prop} {Cap : Nat → Prop} {w w1 : World} (h : Iter P g enc S Sp Cap w) (he : Ext w w1) (hc : ∀ k, Cap k → k < w.heap.size) : Iter P g enc S Sp Cap w1 := by
  intro y C0 J Jx W hA hcap
  exact h y C0 J Jx W (he.agr.trans (hA.weaken fun i hi => Nat.lt_of_lt_of_le hi he.size)) (fun k hk => ⟨hc k hk, (hcap k hk).2⟩)
theorem wrap64 (n : Int) (h0 : -9223372036854775808 ≤ n) (h1 : n ≤ 9223372036854775807) : IntKind.i64.wrap n = n := by
  simp [IntKind.wrap, IntKind.bits, IntKind.signed]; omega
theorem wrap32u (n : Int) (h0 : 0 ≤ n) (h1 : n ≤ 4294967295) : IntKind.u32.wrap n = n := by
  simp [IntKind.wrap, IntKind.bits, IntKind.signed]; omega
theorem wrap8u (n : Int) (h0 : 0 ≤ n) (h1 : n ≤ 255) : IntKind.u8.wrap n = n := by
  simp [IntKind.wrap, IntKind.bits, IntKind.signed]; omega
theorem wrap64u (n : Int) (h0 : 0 ≤ n) (h1 : n ≤ 18446744073709551615) : IntKind.u64.wrap n = n := by
  simp [IntKind.wrap, IntKind.bits, IntKind.signed]; omega
def isInt : Option TypeDesc → Bool | some (.int _) => true | _ => false
@[simp] theorem isInt_is (k : IntKind) : isInt (some (.int k)) = true := rfl
@[simp] theorem r_conv_int {P : Program} {w : World} (src dst : TypeId) (q : IntKind) (n : Int) (hs : (P.underlying src).isSome = true) (hd : isInt (P.underlying dst) = true) :
    (convert src dst (.int q n)).run P w = .ok (.int (intT (P.underlying dst)) ((intT (P.underlying dst)).wrap n)) w := by
  obtain ⟨ds, hds⟩ := Option.isSome_iff_exists.1 hs
  cases hdd : P.underlying dst with
  | none => rw [hdd] at hd; cases hd
  | some d =>
    cases d with
    | int k => simp [convert, run_und hds, run_und hdd, Conv.intToInt]
    | _ => rw [hdd] at hd; cases hd
/-- A byte of a string, whichever. -/
theorem onRt_byte {P : Program} {w : World} {t : TypeId} {s : ByteArray} {q : IntKind} {n : Int} {K : Value → World → Prop} {tok : Tok K} (hs : isStr (P.underlying t) = true) (h0 : 0 ≤ n) (h1 : n.toNat < s.size)
    (h : ∀ b : Int, 0 ≤ b → b ≤ 255 → K (.int .u8 b) w) : onRt ((Instr.index t (.string s) (.int q n)).run P w) K tok := by
  obtain ⟨i, rfl⟩ := Int.eq_ofNat_of_zero_le h0
  rw [r_index_str P w t s q i hs (by simpa using h1)]
  have := (s[i]'(by simpa using h1)).toNat_lt
  exact h _ (by omega) (by omega)
@[simp] theorem gdv_undef (b : Bool) : gdv undef b = false := rfl
attribute [simp] Instr.build Instr.fill resultsE Go.Lib.run_min_ints Go.Lib.run_max_ints
/-- A function of the host's. -/
theorem FN_extern {P : Program} {f : FuncId} {fn : Func} {args : List Value} {w : World} {R : Ending → World → Prop} {e : Array Value → Sem Value} (hf : P.funcs[f]? = some fn) (hb : fn.body.isNone = true) (hn : (fn.name == "runtime.NumGoroutine") = false)
    (hx : (Extern.findNext fn).isNone = true) (he : Extern.find fn = some e) {v : Value} {w' : World} (hr : (e args.toArray).run P w = .ok v w') (h : R (.returned v) w') : FN P f args w R := by
  have this := run_callFunc_extern hf hn hb (by simpa using hx) he args.toArray w
  rw [hr] at this
  unfold FN
  rw [this]; exact h
/-- Slices that are built. -/
def idxs : Nat → List (Nat × Value) → Bool
  | _, [] => true
  | i, p :: ps => p.1 == i && idxs (i + 1) ps
@[simp] theorem idxs_nil (i : Nat) : idxs i [] = true := rfl
@[simp] theorem idxs_cons (i : Nat) (p : Nat × Value) (ps : List (Nat × Value)) : idxs i (p :: ps) = (p.1 == i && idxs (i + 1) ps) := rfl
theorem idxs_zip : ∀ (i : Nat) (ps : List (Nat × Value)), idxs i ps = true → ps = ((ps.map (·.2)).zipIdx i).map fun x => (x.2, x.1)
  | _, [], _ => rfl
  | i, p :: ps, h => by
    rw [idxs_cons, Bool.and_eq_true, beq_iff_eq] at h
    have := idxs_zip (i + 1) ps h.2
    simp only [List.map_cons, List.zipIdx_cons]
    rw [← this]
    obtain ⟨a, b⟩ := p
    simp only at h
    rw [h.1]
def bOk (n s : Nat) (ps : List (Nat × Value)) : Bool :=
  decide (ps.length = n) && (idxs 0 ps && (ps.all (fun p => p.2.cells.size == s) && (decide (0 < n * s) && decide (n * s ≤ 16777216))))
def bldS (P : Program) (w : World) (t : TypeId) (n : Nat) (ps : List (Nat × Value)) : Result Nat → Result Value → Result Value
  | .ok s _, .ok _ _ => if bOk n s ps then .ok (.slice (some ⟨w.heap.size, 0, none⟩) n n) (w.alloc (.cells (ps.flatMap fun p => p.2.cells.toList).toArray (elemT (P.underlying t)))) else (Instr.buildSlice t n ps.toArray).run P w
  | _, _ => (Instr.buildSlice t n ps.toArray).run P w
@[simp] theorem bldS_ok (P : Program) (w : World) (t : TypeId) (n : Nat) (ps : List (Nat × Value)) (s : Nat) (z : Value) (w1 w2 : World) (h : bOk n s ps = true) :
    bldS P w t n ps (.ok s w1) (.ok z w2) = .ok (.slice (some ⟨w.heap.size, 0, none⟩) n n) (w.alloc (.cells (ps.flatMap fun p => p.2.cells.toList).toArray (elemT (P.underlying t)))) := by
  show (if bOk n s ps = true then _ else _) = _; rw [if_pos h]
attribute [simp] bOk
@[simp] theorem r_buildSlice {P : Program} {w : World} {t : TypeId} (n : Nat) (ps : List (Nat × Value)) (hs : isS (P.underlying t) = true) :
    (Instr.buildSlice t n ps.toArray).run P w = bldS P w t n ps ((Go.sizeOf (elemT (P.underlying t))).run P w) ((zeroValue (elemT (P.underlying t))).run P w) := by
  cases hi : P.info? (elemT (P.underlying t)) with
  | none => simp [bldS, Go.sizeOf, typeInfo, hi]
  | some i =>
    cases hz : i.zero with
    | none => simp [bldS, zeroValue, Go.sizeOf, typeInfo, hi, hz]
    | some z =>
      have e1 : (Go.sizeOf (elemT (P.underlying t))).run P w = .ok i.size w := by simp [Go.sizeOf, typeInfo, hi]
      have e2 : (zeroValue (elemT (P.underlying t))).run P w = .ok z w := by simp [zeroValue, typeInfo, hi, hz]
      rw [e1, e2]
      unfold bldS
      by_cases hb : bOk n i.size ps = true
      · simp only [hb, if_true]
        have h := hb
        unfold bOk at h
        simp only [Bool.and_eq_true, decide_eq_true_eq, List.all_eq_true, beq_iff_eq] at h
        obtain ⟨h1, h2, h3, h5, h6⟩ := h
        have hpos : 0 < i.size := Nat.pos_of_mul_pos_left h5
        refine run_buildSlice w t _ n ps.toArray _ i z (isS_inv hs) hi hz (by omega) (by omega) ?_
        have := idxs_zip 0 ps h2
        have hf := Go.Great.fill_whole hpos (ps.map (·.2)) ((Array.range (n * i.size)).map (z.cells[· % z.cells.size]!)) (fun v hv => by
          obtain ⟨p, hp, rfl⟩ := List.mem_map.1 hv
          exact h3 p hp) (by simp [h1])
        rw [← this] at hf
        rw [List.flatMap_map] at hf
        exact hf
      · simp only [hb]; rfl
end Pk
