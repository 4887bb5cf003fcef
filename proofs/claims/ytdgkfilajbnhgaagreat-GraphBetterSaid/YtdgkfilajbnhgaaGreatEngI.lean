/-
 The engine, part I: slices.
-/
import Derived.Test.YtdgkfilajbnhgaaGreatEngF
import Derived.Great.BuildSlice
import Derived.Laws.AppendOwn
import Derived.Deep.AppendSrc
import Derived.Deep.Upon
import Derived.Laws.Slices
import Derived.Lib.MinMax
import Derived.Laws.Externs
import Derived.Maps.Range
import Derived.Sort.AssemblyPlain
namespace Pk
open Go

def slB : Value → Nat | .slice (some a) _ _ => a.block | _ => 0
def slO : Value → Nat | .slice (some a) _ _ => a.off | _ => 0
def slC : Value → Nat | .slice _ _ c => c | _ => 0
def slN : Value → Bool | .slice none _ _ => true | _ => false
def slcH (v : Value) (n : Nat) : Value := match v with | .slice a _ c => .slice a n c | v => v
def slcHM (v : Value) (n m : Nat) : Value := match v with | .slice a _ _ => .slice a n m | v => v
def slcL (v : Value) (l s : Nat) : Value := match v with | .slice a n c => .slice (if c = l then a else a.map (·.add (l * s))) (n - l) (c - l) | v => v

structure Sl (w : World) (s : Nat) (v : Value) (n : Nat) (cs : List Value) : Prop where
 len : cs.length = n * s
 val : (∃ c, v = .slice none 0 c ∧ n = 0) ∨ (∃ b o c, v = .slice (some ⟨b, o, none⟩) n c ∧ n ≤ c)
 at_ : ∀ j u, cs[j]? = some u → w.cell? ⟨slB v, slO v + j, none⟩ = some u
theorem Sl.nil (w : World) (s c : Nat) : Sl w s (.slice none 0 c) 0 [] := ⟨by simp, .inl ⟨c, rfl, rfl⟩, by simp⟩
theorem Sl.blk {w : World} {s : Nat} {v : Value} {n : Nat} {cs : List Value} (h : Sl w s v n cs) : slN v = true ∧ n = 0 ∨ ∃ b o c, v = .slice (some ⟨b, o, none⟩) n c ∧ n ≤ c := by
 rcases h.val with ⟨c, rfl, rfl⟩ | h
 ·exact .inl ⟨rfl, rfl⟩
 ·exact .inr h
theorem Sl.kept {w w' : World} {s : Nat} {v : Value} {n : Nat} {cs : List Value} (h : Sl w s v n cs) (hw : ∀ (a : Addr) (u : Value), a.block = slB v → w.cell? a = some u → w'.cell? a = some u) : Sl w' s v n cs :=
 ⟨h.len, h.val, fun j u hj => hw _ _ rfl (h.at_ j u hj)⟩
theorem Sl.ext {w w' : World} {s : Nat} {v : Value} {n : Nat} {cs : List Value} (h : Sl w s v n cs) (he : Ext w w') : Sl w' s v n cs := h.kept fun _ _ _ hu => he.cell_eq hu
theorem Sl.mod {w w' : World} {s : Nat} {v : Value} {n : Nat} {cs : List Value} {S : Nat → Prop} (h : Sl w s v n cs) (he : Mod S w w') (hs : ¬ S (slB v)) : Sl w' s v n cs :=
 h.kept fun a _ ha hu => he.cell hu (by rw [ha]; exact hs)
theorem Sl.agr {w w' : World} {s : Nat} {v : Value} {n : Nat} {cs : List Value} {S : Nat → Prop} (h : Sl w s v n cs) (he : Agr S w w') (hs : S (slB v)) : Sl w' s v n cs :=
 h.kept fun a _ ha hu => he.cell hu (by rw [ha]; exact hs)
theorem Sl.drew {w : World} {s : Nat} {v : Value} {n : Nat} {cs : List Value} (h : Sl w s v n cs) : Sl w.drew s v n cs := h.kept fun _ _ _ hu => by simpa using hu
theorem Sl.lt {w : World} {s : Nat} {v : Value} {n : Nat} {cs : List Value} (h : Sl w s v n cs) (h0 : 0 < cs.length) : slB v < w.heap.size :=
 World.block_lt_of_cell? w _ (h.at_ 0 cs[0] (by simp [h0]))
section
variable {P : Program} {w : World} {s : Nat} {v : Value} {n : Nat} {cs : List Value} {t : TypeId}
theorem Sl.isLen (h : Sl w s v n cs) (hs : isS (P.underlying t) = true) (ty : TypeId) (w' : World) : (Builtin.len_ #[t] ty #[v]).run P w' = .ok (.int .i64 n) w' := by
 rcases h.val with ⟨c, rfl, rfl⟩ | ⟨b, o, c, rfl, _⟩
 ·simpa using r_len_slice P w' t ty none 0 c hs
 ·exact r_len_slice P w' t ty _ n c hs
theorem Sl.index (h : Sl w s v n cs) (hs : isS (P.underlying t) = true) (k : IntKind) (i : Int) (h0 : 0 ≤ i) (h1 : i < n) (w' : World) :
  (Instr.indexAt t v (.int k i)).run P w' = ((Go.sizeOf (elemT (P.underlying t))).run P w').andThen fun n w' => .ok (.pointer (some ⟨slB v, slO v + i.toNat * n, none⟩)) w' := by
 rcases h.val with ⟨c, rfl, rfl⟩ | ⟨b, o, c, rfl, _⟩
 ·omega
 ·exact r_index_slice P w' t b o n c k i hs h0 h1
theorem Sl.isNil (h : Sl w s v n cs) (hs : isS (P.underlying t) = true) (w' : World) : (binOp .eql t v (.slice none 0 0)).run P w' = .ok (.bool (slN v)) w' := by
 rcases h.val with ⟨c, rfl, rfl⟩ | ⟨b, o, c, rfl, _⟩
 ·simpa [slN] using b_eql_slice P w' t none 0 c 0 0 hs
 ·simpa [slN] using b_eql_slice P w' t (some ⟨b, o, none⟩) n c 0 0 hs
theorem elem_of (hs : isS (P.underlying t) = true) : P.underlying t = some (.slice (P.elem t)) := by
 have := isS_inv hs
 have h2 : P.elem t = elemT (P.underlying t) := by unfold Program.elem; rw [this]; rfl
 rw [h2]; exact this
theorem elemT_of (hs : isS (P.underlying t) = true) : elemT (P.underlying t) = P.elem t := by
 have := elem_of hs
 rw [this]; rfl
theorem Sl.sliceH (h : Sl w s v n cs) (hs : isS (P.underlying t) = true) (k : IntKind) (i : Int) (h0 : 0 ≤ i) (h1 : i ≤ n) (w' : World) :
  (Instr.sliceAt t v none (some (.int k i)) none).run P w' = ((Go.sizeOf (elemT (P.underlying t))).run P w').andThen fun _ w' => .ok (slcH v i.toNat) w' := by
 rw [run_sliceAt_slice w' t v _ _ _ (elem_of hs), elemT_of hs]
 rcases h.val with ⟨c, rfl, rfl⟩ | ⟨b, o, c, rfl, hc⟩
 ·rw [run_slice_h w' t none 0 c (elem_of hs) k i h0 (by omega)]
  congr 1; funext a w''; simp [sliced, slcH]
 ·rw [run_slice_h w' t _ n c (elem_of hs) k i h0 (by omega)]
  congr 1; funext a w''; simp [sliced, slcH]
theorem Sl.sliceHM (h : Sl w s v n cs) (hs : isS (P.underlying t) = true) (k k' : IntKind) (i m : Int) (h0 : 0 ≤ i) (h1 : i ≤ m) (h2 : m ≤ n) (w' : World) :
  (Instr.sliceAt t v none (some (.int k i)) (some (.int k' m))).run P w' = ((Go.sizeOf (elemT (P.underlying t))).run P w').andThen fun _ w' => .ok (slcHM v i.toNat m.toNat) w' := by
 rw [run_sliceAt_slice w' t v _ _ _ (elem_of hs), elemT_of hs]
 rcases h.val with ⟨c, rfl, rfl⟩ | ⟨b, o, c, rfl, hc⟩
 ·rw [run_slice_hm w' t none 0 c (elem_of hs) k k' i m h0 h1 (by omega)]
  congr 1; funext a w''; simp [sliced, slcHM]
 ·rw [run_slice_hm w' t _ n c (elem_of hs) k k' i m h0 h1 (by omega)]
  congr 1; funext a w''; simp [sliced, slcHM]
theorem Sl.takeH (h : Sl w s v n cs) (i : Nat) (h1 : i ≤ n) : Sl w s (slcH v i) i (cs.take (i * s)) := by
 have hl := h.len
 have : i * s ≤ n * s := Nat.mul_le_mul_right s h1
 refine ⟨by rw [List.length_take]; omega, ?_, ?_⟩
 ·rcases h.val with ⟨c, rfl, rfl⟩ | ⟨b, o, c, rfl, hc⟩
  ·exact .inl ⟨c, by have : i = 0 := by omega
                     subst this; rfl, by omega⟩
  ·exact .inr ⟨b, o, c, rfl, by omega⟩
 ·intro j u hj
  rw [List.getElem?_take] at hj
  split at hj
  ·have hat := h.at_ j u hj
   rcases h.val with ⟨c, rfl, rfl⟩ | ⟨b, o, c, rfl, hc⟩ <;> exact hat
  ·cases hj
theorem Sl.takeHM (h : Sl w s v n cs) (i m : Nat) (h1 : i ≤ m) (h2 : m ≤ n) : Sl w s (slcHM v i m) i (cs.take (i * s)) := by
 have hl := h.len
 have : i * s ≤ n * s := Nat.mul_le_mul_right s (by omega)
 refine ⟨by rw [List.length_take]; omega, ?_, ?_⟩
 ·rcases h.val with ⟨c, rfl, rfl⟩ | ⟨b, o, c, rfl, hc⟩
  ·exact .inl ⟨m, by have : i = 0 := by omega
                     subst this; rfl, by omega⟩
  ·exact .inr ⟨b, o, m, rfl, by omega⟩
 ·intro j u hj
  rw [List.getElem?_take] at hj
  split at hj
  ·have hat := h.at_ j u hj
   rcases h.val with ⟨c, rfl, rfl⟩ | ⟨b, o, c, rfl, hc⟩ <;> exact hat
  ·cases hj
theorem Sl.src (h : Sl w s v n cs) (hs : isS (P.underlying t) = true) (h1 : ∀ u ∈ cs, u.oneCell' = true) : Src P s t v n cs w := by
 rcases h.val with ⟨c, rfl, rfl⟩ | ⟨b, o, c, rfl, hc⟩
 ·have : cs = [] := List.eq_nil_of_length_eq_zero (by simpa using h.len)
  subst this
  exact Src.ofNil w (elem_of hs) c
 ·exact Src.ofSlice w (elem_of hs) ⟨b, o, none⟩ n c cs h.len (fun j u hj => by simpa [slB, slO] using h.at_ j u hj) h1
end
theorem sl_of_own {w : World} {base e s : Nat} {v : Value} {n : Nat} {xs : List Value} (h : w.ownsRow base e s v n xs) : Sl w s v n xs := by
 refine ⟨h.1, ?_, ?_⟩
 ·rcases h.2 with ⟨rfl, rfl⟩ | ⟨g, cap, cur, rfl, _, _, hc, _⟩
  ·exact .inl ⟨0, rfl, rfl⟩
  ·exact .inr ⟨g, 0, cap, rfl, hc⟩
 ·intro j u hj
  rcases h.2 with ⟨rfl, rfl⟩ | ⟨g, cap, cur, rfl, hb, hg, hc, _⟩
  ·have : xs = [] := List.eq_nil_of_length_eq_zero (by simpa using h.1)
   subst this; simp at hj
  ·have := h.cells (g := g) rfl j u hj
   simpa [slB, slO] using this
theorem own_ge {w : World} {base e s : Nat} {v : Value} {n : Nat} {xs : List Value} (h : w.ownsRow base e s v n xs) (h0 : slN v = false) : base ≤ slB v := by
 rcases h.2 with ⟨rfl, rfl⟩ | ⟨g, cap, cur, rfl, hb, hg, hc, _⟩
 ·cases h0
 ·exact hb
theorem own_keep {w w' : World} {base e s : Nat} {v : Value} {n : Nat} {xs : List Value} (h : w.ownsRow base e s v n xs) (hk : slN v = false → slB v < w.heap.size → w'.heap[slB v]? = w.heap[slB v]?) : w'.ownsRow base e s v n xs := by
 refine ⟨h.1, ?_⟩
 rcases h.2 with hn | ⟨g, cap, cur, rfl, hb, hg, rest⟩
 ·exact .inl hn
 ·exact .inr ⟨g, cap, cur, rfl, hb, (hk rfl (Array.getElem?_eq_some_iff.1 hg).1).trans hg, rest⟩
theorem own_ext {w w' : World} {base e s : Nat} {v : Value} {n : Nat} {xs : List Value} (h : w.ownsRow base e s v n xs) (he : Ext w w') : w'.ownsRow base e s v n xs := own_keep h fun _ hl => he.blk _ hl
theorem own_obj {w : World} {base e s : Nat} {v : Value} {n : Nat} {xs : List Value} (h : w.ownsRow base e s v n xs) (hn : slN v = false) : ∃ c, w.heap[slB v]? = some (.cells c e (0, 0)) := by
 rcases h.2 with ⟨rfl, rfl⟩ | ⟨g, cap, cur, rfl, hb, hg, rest⟩
 ·cases hn
 ·exact ⟨cur, hg⟩
theorem own_val {w : World} {base e s : Nat} {v : Value} {n : Nat} {xs : List Value} (h : w.ownsRow base e s v n xs) : ∃ a c, v = .slice a n c := by
 rcases h.2 with ⟨rfl, rfl⟩ | ⟨g, cap, cur, rfl, rest⟩
 ·exact ⟨none, 0, rfl⟩
 ·exact ⟨_, _, rfl⟩
theorem Sl.isSlice {w : World} {s : Nat} {v : Value} {n : Nat} {xs : List Value} (h : Sl w s v n xs) : ∃ a c, v = .slice a n c := by
 rcases h.val with ⟨c, rfl, rfl⟩ | ⟨b, o, c, rfl, _⟩
 ·exact ⟨none, c, rfl⟩
 ·exact ⟨_, _, rfl⟩
theorem own_thaw {w : World} {base e s : Nat} {v : Value} {n : Nat} {xs : List Value} (h : w.ownsRow base e s v n xs) (hn : 0 < n) (j : Nat) : w.frozen? ⟨slB v, j, none⟩ = false := by
 rcases h.2 with ⟨rfl, rfl⟩ | ⟨g, cap, cur, rfl, hb, hg, rest⟩
 ·omega
 ·simp [World.frozen?, slB, hg]
theorem own_nil {w : World} {base e s : Nat} {v : Value} {n : Nat} {xs : List Value} (h : w.ownsRow base e s v n xs) (hn : 0 < n) : slN v = false := by
 rcases h.2 with ⟨rfl, rfl⟩ | ⟨g, cap, cur, rfl, hb, hg, rest⟩
 ·omega
 ·rfl
theorem own_off {w : World} {base e s : Nat} {v : Value} {n : Nat} {xs : List Value} (h : w.ownsRow base e s v n xs) : slO v = 0 := by
 rcases h.2 with ⟨rfl, rfl⟩ | ⟨g, cap, cur, rfl, hb, hg, rest⟩ <;> rfl
@[simp] theorem slB_slcH (v : Value) (n : Nat) : slB (slcH v n) = slB v := by
 cases v with
 | slice a _ _ => cases a <;> rfl
 | _ => rfl
@[simp] theorem slO_slcH (v : Value) (n : Nat) : slO (slcH v n) = slO v := by
 cases v with
 | slice a _ _ => cases a <;> rfl
 | _ => rfl
@[simp] theorem slN_slcH (v : Value) (n : Nat) : slN (slcH v n) = slN v := by
 cases v with
 | slice a _ _ => cases a <;> rfl
 | _ => rfl
theorem own_lower {w : World} {base base' e s : Nat} {v : Value} {n : Nat} {xs : List Value} (h : w.ownsRow base e s v n xs) (hb : base' ≤ base) : w.ownsRow base' e s v n xs := by
 refine ⟨h.1, ?_⟩
 rcases h.2 with hn | ⟨g, cap, cur, rfl, hb', rest⟩
 ·exact .inl hn
 ·exact .inr ⟨g, cap, cur, rfl, by omega, rest⟩
theorem Sl.made (w : World) (cs : List Value) (t : TypeId) (s n : Nat) (h : cs.length = n * s) : Sl (w.alloc (.cells cs.toArray t)) s (.slice (some ⟨w.heap.size, 0, none⟩) n n) n cs :=
 ⟨h, .inr ⟨_, _, _, rfl, Nat.le_refl _⟩, fun j x hj => by simp [slB, slO, hj]⟩
theorem Sl.one (w : World) (u : Value) (t : TypeId) : Sl (w.alloc (.cells #[u] t)) 1 (.slice (some ⟨w.heap.size, 0, none⟩) 1 1) 1 [u] :=
 ⟨rfl, .inr ⟨_, _, _, rfl, Nat.le_refl _⟩, fun j x hj => by
  cases j with
  | zero => simp at hj; subst hj; simp [slB, slO]
  | succ j => simp at hj⟩
theorem grown_mod {w w' : World} {v : Value} (h : w.grownBy w' v.ownBlock) : Mod (fun k => slN v = false ∧ k = slB v) w w' := by
 refine ⟨h.os, h.tape, h.output, h.size, fun k hk hn => h.block k hk ?_⟩
 intro e
 apply hn
 unfold Value.ownBlock at e
 split at e
 ·cases e; exact ⟨rfl, rfl⟩
 ·cases e
def elOk (o : Option TypeInfo) (s : Nat) : Bool :=
 match o with
 | some i => (match i.zero with | some z => i.size == s && (z.cells.size == s && (decide (i.bytes ≤ 4096) && decide (0 < s))) | none => false)
 | none => false
theorem elOk_inv {o : Option TypeInfo} {s : Nat} (h : elOk o s = true) : (∃ i z, o = some i ∧ i.zero = some z ∧ i.size = s ∧ z.cells.size = s ∧ i.bytes ≤ 4096) ∧ 0 < s := by
 unfold elOk at h
 cases o with
 | none => cases h
 | some i =>
  simp only at h
  cases hz : i.zero with
  | none => rw [hz] at h; cases h
  | some z =>
   rw [hz] at h
   simp only [Bool.and_eq_true, beq_iff_eq, decide_eq_true_eq] at h
   exact ⟨⟨i, z, rfl, hz, h.1, h.2.1, h.2.2.1⟩, h.2.2.2⟩
theorem append_own {P : Program} {w : World} {base s : Nat} {t ty : TypeId} {v : Value} {n : Nat} {xs : List Value} {v2 : Value} {m : Nat} {ys : List Value} {e : TypeId} (hs : isS (P.underlying t) = true) (he : elemT (P.underlying t) = e) (hi : elOk (P.info? e) s = true)
  (hown : w.ownsRow base e s v n xs) (h2 : Sl w s v2 m ys) (h1 : ∀ u ∈ ys, u.oneCell' = true) (hb : (n + m) ≤ 1048576) (hbase : base ≤ w.heap.size) :
  ∃ v' w', (Builtin.append_ #[t, t] ty #[v, v2]).run P w = .ok v' w' ∧ w'.ownsRow base e s v' (n + m) (xs ++ ys) ∧ Mod (fun k => slN v = false ∧ k = slB v) w w' ∧
   (slN v' = false → (slN v = false ∧ slB v' = slB v) ∨ w.heap.size ≤ slB v') := by
 obtain ⟨⟨i, z, hi1, hi2, hi3, hi4, hi5⟩, hsz⟩ := elOk_inv hi
 have hel := elemT_of (P := P) hs
 rw [he] at hel
 subst hel
 rcases h2.val with ⟨c, rfl, rfl⟩ | ⟨b, o, c, rfl, hc⟩
 ·have : ys = [] := List.eq_nil_of_length_eq_zero (by simpa using h2.len)
  subst this
  have hsrc := h2.src (P := P) hs h1
  rw [← hi3] at hsrc
  refine ⟨v, w, ?_, by simpa using hown, Mod.refl _ _, fun h => .inl ⟨h, rfl⟩⟩
  rcases hown.2 with ⟨rfl, rfl⟩ | ⟨g, cap, cur, rfl, hb, hg, hc, _⟩
  ·exact run_append_nothing w t t ty (P.elem t) i (elem_of hs) hi1 none 0 0 (by omega) _ hsrc
  ·exact run_append_nothing w t t ty (P.elem t) i (elem_of hs) hi1 _ n cap hc _ hsrc
 ·obtain ⟨v', w', hr, ho, hg, _⟩ := run_append_own (P := P) w base t ty (P.elem t) i z s i.bytes (elem_of hs) hi1 hi2 hi3 rfl hi4 hsz v n xs hown ⟨b, o, none⟩ m c ys h2.len (fun j u hj => by simpa [slB, slO] using h2.at_ j u hj) h1
   (by simp only [maxLen]; omega) (by have := Nat.mul_le_mul hb hi5; omega) hbase
  refine ⟨v', w', hr, ho, grown_mod hg, ?_⟩
  have hsrc := h2.src (P := P) hs h1
  rw [← hi3] at hsrc
  rcases hown.2 with ⟨rfl, rfl⟩ | ⟨g, cap, cur, rfl, hbg, hgg, hnc, hcm, hcs, htake⟩
  ·intro hn
   obtain ⟨v2, w2, hr2, ho2, _⟩ := run_append_own (P := P) w w.heap.size t ty (P.elem t) i z s i.bytes (elem_of hs) hi1 hi2 hi3 rfl hi4 hsz (.slice none 0 0) 0 [] (World.ownsRow_nil _ _ _ _) ⟨b, o, none⟩ m c ys h2.len (fun j u hj => by simpa [slB, slO] using h2.at_ j u hj) h1
    (by simp only [maxLen]; omega) (by have := Nat.mul_le_mul hb hi5; omega) (Nat.le_refl _)
   rw [hr] at hr2
   cases hr2
   exact .inr (own_ge ho2 hn)
  ·by_cases hroom : n + m ≤ cap
   ·have hlt : ∀ j, j < ys.length → n * i.size + j < cur.size := by
     intro j hj
     rw [h2.len] at hj
     rw [hcs, hi3]
     have : (n + m) * s ≤ cap * s := Nat.mul_le_mul_right _ hroom
     rw [Nat.add_mul] at this
     omega
    have hr2 := run_append_room_src (P := P) w t t ty (P.elem t) i (elem_of hs) hi1 g 0 n cap _ m ys hsrc hroom (fun j hj => by
     rw [cell_of_row w g _ cur (P.elem t) (0, 0) hgg]
     simp; simpa using hlt j hj) (fun j hj => by simp [World.frozen?, hgg])
    rw [hr] at hr2
    cases hr2
    exact fun _ => .inl ⟨rfl, rfl⟩
   ·have hold : (Builtin.firstCells i.size n (.slice (some ⟨g, 0, none⟩) n cap)).run P w.drew = .ok xs.toArray w.drew :=
     run_firstCells_some w.drew i.size n ⟨g, 0, none⟩ n cap xs (by rw [hi3]; exact hown.1) (fun j u hj => by simpa using hown.cells (g := g) rfl j u hj)
    have hfit : Builtin.nextslicecap (n + m) cap * i.bytes ≤ 281474976710656 := growslice_fits (by omega) (by have := Nat.mul_le_mul hb hi5; omega)
    have hr2 := run_append_grow_src (P := P) w t t ty (P.elem t) i z (elem_of hs) hi1 hi2 (some ⟨g, 0, none⟩) n cap xs hold _ m ys hsrc (by omega) (by omega) hfit
    rw [hr] at hr2
    cases hr2
    exact fun _ => .inr (Nat.le_refl _)
theorem append_full {P : Program} {w : World} {s : Nat} {t ty : TypeId} {v : Value} {n : Nat} {xs : List Value} {v2 : Value} {m : Nat} {ys : List Value} {e : TypeId} (hs : isS (P.underlying t) = true) (he : elemT (P.underlying t) = e) (hi : elOk (P.info? e) s = true)
  (hv : Sl w s v n xs) (hfull : slC v = n) (h2 : Sl w s v2 m ys) (h1 : ∀ u ∈ ys, u.oneCell' = true) (hb : (n + m) ≤ 1048576) :
  ∃ v' w', (Builtin.append_ #[t, t] ty #[v, v2]).run P w = .ok v' w' ∧ Sl w' s v' (n + m) (xs ++ ys) ∧ Ext w w' ∧ (slN v' = true → slN v = true) := by
 obtain ⟨⟨i, z, hi1, hi2, hi3, hi4, hi5⟩, hsz⟩ := elOk_inv hi
 have hel := elemT_of (P := P) hs
 rw [he] at hel
 subst hel
 by_cases hm : m = 0
 ·subst hm
  have : ys = [] := List.eq_nil_of_length_eq_zero (by simpa using h2.len)
  subst this
  have hsrc := h2.src (P := P) hs h1
  rw [← hi3] at hsrc
  refine ⟨v, w, ?_, by simpa using hv, Ext.refl _, fun h => h⟩
  rcases hv.val with ⟨c, rfl, rfl⟩ | ⟨b, o, c, rfl, hc⟩
  ·exact run_append_nothing w t t ty (P.elem t) i (elem_of hs) hi1 none 0 c (by omega) v2 hsrc
  ·exact run_append_nothing w t t ty (P.elem t) i (elem_of hs) hi1 _ n c hc v2 hsrc
 ·have hsrc := h2.src (P := P) hs h1
  rw [← hi3] at hsrc
  have hold : ∃ a, v = .slice a n n ∧ (Builtin.firstCells i.size n (.slice a n n)).run P w.drew = .ok xs.toArray w.drew := by
   rcases hv.val with ⟨c, rfl, rfl⟩ | ⟨b, o, c, rfl, hc⟩
   ·have : c = 0 := hfull
    subst this
    have : xs = [] := List.eq_nil_of_length_eq_zero (by simpa using hv.len)
    subst this
    exact ⟨none, rfl, run_firstCells_none _ _ _ _ _⟩
   ·have : c = n := hfull
    subst this
    exact ⟨_, rfl, run_firstCells_some w.drew i.size c ⟨b, o, none⟩ c c xs (by rw [hi3]; exact hv.len) (fun j u hj => by simpa [slB, slO] using hv.at_ j u hj)⟩
  obtain ⟨a, rfl, hold⟩ := hold
  have hfit : Builtin.nextslicecap (n + m) n * i.bytes ≤ 281474976710656 := growslice_fits (by omega) (by have := Nat.mul_le_mul hb hi5; omega)
  have hr := run_append_grow_src (P := P) w t t ty (P.elem t) i z (elem_of hs) hi1 hi2 a n n xs hold v2 m ys hsrc (by omega) (by omega) hfit
  refine ⟨_, _, hr, ⟨?_, .inr ⟨_, _, _, rfl, grownCap_ge _ _ _ _⟩, ?_⟩, ?_, fun h => by cases h⟩
  ·rw [List.length_append, hv.len, h2.len, Nat.add_mul]
  ·intro j u hj
   have hj' := (List.getElem?_eq_some_iff.1 hj).1
   simp only [slB, slO, Nat.zero_add]
   rw [cell_of_row _ w.heap.size j _ (P.elem t) (0, 0) (by simpa using World.alloc_heap_new w.drew _)]
   rw [Array.getElem?_append_left (by simpa using hj')]
   simpa using hj
  ·exact ⟨rfl, rfl, rfl, by simp, fun k hk => Go.RowKit.Below.heap_alloc _ _ _ (by simpa using hk)⟩
@[simp] theorem VLt_drop (P : Program) (r : Option Nat) (ops : Array Oper) (Q : Post) (k : Nat) (o : Oper) (l : List Oper) (t) (ρ : Env) (ds : List Deferred) (w : World) :
  VLt P r ops Q (List.drop (k + 1) (o :: l)) t ρ ds w = VLt P r ops Q (List.drop k l) .mk ρ ds w := _root_.id rfl
@[simp] theorem VLt_drop0 (P : Program) (r : Option Nat) (ops : Array Oper) (Q : Post) (l : List Oper) (t) (ρ : Env) (ds : List Deferred) (w : World) :
  VLt P r ops Q (List.drop 0 l) t ρ ds w = VLt P r ops Q l .mk ρ ds w := _root_.id rfl
@[simp] theorem PLt_take (P : Program) (r : Option Nat) (ds : List Deferred) (ops : Array Oper) (w1 : World) (T : Env → Prop) (k : Nat) (o : Oper) (l : List Oper) (t) (σ : Env) :
  PLt P r ds ops w1 T (List.take (k + 1) (o :: l)) t σ = PLt P r ds ops w1 T (o :: List.take k l) .mk σ := _root_.id rfl
@[simp] theorem PLt_take0 (P : Program) (r : Option Nat) (ds : List Deferred) (ops : Array Oper) (w1 : World) (T : Env → Prop) (l : List Oper) (t) (σ : Env) :
  PLt P r ds ops w1 T (List.take 0 l) t σ = T σ := _root_.id rfl
section
variable {P : Program} {r : Option Nat} {ds : List Deferred} {Kp : World → World → Prop} {w0 : World} {ops : Array Oper} {T : Env → World → Prop}
variable {G : (Nat → Bool) → World → Prop}
end
structure Var (w : World) (b : Nat) (v : Value) : Prop where
 cell : w.cell? ⟨b, 0, none⟩ = some v
 thaw : w.frozen? ⟨b, 0, none⟩ = false
theorem Var.of_obj {w : World} {b : Nat} {v : Value} {t : TypeId} (h : w.heap[b]? = some (.cells #[v] t (0, 0))) : Var w b v := ⟨by simp [World.cell?, h], by simp [World.frozen?, h]⟩
theorem Var.lt {w : World} {b : Nat} {v : Value} (h : Var w b v) : b < w.heap.size := World.block_lt_of_cell? w _ h.cell
theorem Var.keep {w w' : World} {b : Nat} {v : Value} (h : Var w b v) (hb : w'.heap[b]? = w.heap[b]?) : Var w' b v :=
 ⟨(World.cell?_of_block (a := ⟨b, 0, none⟩) hb).trans h.cell, (World.frozen?_of_block (a := ⟨b, 0, none⟩) hb).trans h.thaw⟩
theorem Var.ext {w w' : World} {b : Nat} {v : Value} (h : Var w b v) (he : Ext w w') : Var w' b v := h.keep (he.blk b h.lt)
theorem Var.mod {w w' : World} {b : Nat} {v : Value} {S : Nat → Prop} (h : Var w b v) (he : Mod S w w') (hs : ¬ S b) : Var w' b v := h.keep (he.blk b h.lt hs)
theorem Var.agr {w w' : World} {b : Nat} {v : Value} {S : Nat → Prop} (h : Var w b v) (he : Agr S w w') (hs : S b) : Var w' b v := h.keep (he.blk b h.lt hs)
theorem Var.new (w : World) (v : Value) (t : TypeId) : Var (w.alloc (.cells #[v] t)) w.heap.size v := ⟨by simp, by simp⟩
theorem Var.set {w : World} {b : Nat} {v : Value} (h : Var w b v) (u : Value) : Var (w.setCell ⟨b, 0, none⟩ u) b u := by
 exact ⟨World.cell?_setCell_same w _ _ h.cell, by simpa using h.thaw⟩
theorem Ext.drew (w : World) : Ext w w.drew := ⟨rfl, rfl, rfl, Nat.le_refl _, fun _ _ => rfl⟩
theorem Ext.putObj {a w : World} (h : Ext a w) (r : Nat) (o : Obj) (hr : a.heap.size ≤ r) : Ext a (w.putObj r o) :=
 ⟨h.os, h.tape, h.out, by simpa using h.size, fun i hi => (World.putObj_heap_other (by omega)).trans (h.blk i hi)⟩
theorem Ext.var {w w' : World} {b : Nat} {v : Value} (he : Ext w w') (h : Var w b v) : Var w' b v := h.ext he
theorem Iter.ext {α : Type} {P : Program} {g : Value} {enc : α → List Value} {S Sp : List α → Prop} {Cap : Nat → Prop} {w w1 : World} (h : Iter P g enc S Sp Cap w) (he : Ext w w1) (hc : ∀ k, Cap k → k < w.heap.size) : Iter P g enc S Sp Cap w1 := by
 intro y C0 J Jx W hA hcap
 exact h y C0 J Jx W (he.agr.trans (hA.weaken fun i hi => Nat.lt_of_lt_of_le hi he.size)) (fun k hk => ⟨hc k hk, (hcap k hk).2⟩)
theorem wrap64 (n : Int) (h0 : -9223372036854775808 ≤ n) (h1 : n ≤ 9223372036854775807) : IntKind.i64.wrap n = n := by
 simp [IntKind.wrap, IntKind.bits, IntKind.signed]; omega
theorem wrap8u (n : Int) (h0 : 0 ≤ n) (h1 : n ≤ 255) : IntKind.u8.wrap n = n := by
 simp [IntKind.wrap, IntKind.bits, IntKind.signed]; omega
theorem wrap64u (n : Int) (h0 : 0 ≤ n) (h1 : n ≤ 18446744073709551615) : IntKind.u64.wrap n = n := by
 simp [IntKind.wrap, IntKind.bits, IntKind.signed]; omega
def isInt : Option TypeDesc → Bool | some (.int _) => true | _ => false
@[simp] theorem isInt_is (k : IntKind) : isInt (some (.int k)) = true := rfl
@[simp] theorem r_conv_int {P : Program} {w : World} (src dst : TypeId) (q : IntKind) (n : Int) (hs : (P.underlying src).isSome = true) (hd : isInt (P.underlying dst) = true) :
  (convert src dst (.int q n)).run P w = .ok (.int (intT (P.underlying dst)) ((intT (P.underlying dst)).wrap n)) w := by
 obtain ⟨ds, hds⟩ := Option.isSome_iff_exists.1 hs
 cases hdd : P.underlying dst with
 | none => rw [hdd] at hd; cases hd
 | some d =>
  cases d with
  | int k => simp [convert, run_und hds, run_und hdd, Conv.intToInt]
  | _ => rw [hdd] at hd; cases hd
@[simp] theorem gdv_undef (b : Bool) : gdv undef b = false := rfl
attribute [simp] Instr.build Instr.fill resultsE Go.Lib.run_min_ints Go.Lib.run_max_ints
theorem FN_extern {P : Program} {f : FuncId} {fn : Func} {args : List Value} {w : World} {R : Ending → World → Prop} {e : Array Value → Sem Value} (hf : P.funcs[f]? = some fn) (hb : fn.body.isNone = true) (hn : (fn.name == "runtime.NumGoroutine") = false)
  (hx : (Extern.findNext fn).isNone = true) (he : Extern.find fn = some e) {v : Value} {w' : World} (hr : (e args.toArray).run P w = .ok v w') (h : R (.returned v) w') : FN P f args w R := by
 have this := run_callFunc_extern hf hn hb (by simpa using hx) he args.toArray w
 rw [hr] at this
 unfold FN
 rw [this]; exact h
def idxs : Nat → List (Nat × Value) → Bool
 | _, [] => true
 | i, p :: ps => p.1 == i && idxs (i + 1) ps
@[simp] theorem idxs_nil (i : Nat) : idxs i [] = true := rfl
@[simp] theorem idxs_cons (i : Nat) (p : Nat × Value) (ps : List (Nat × Value)) : idxs i (p :: ps) = (p.1 == i && idxs (i + 1) ps) := rfl
theorem idxs_zip : ∀ (i : Nat) (ps : List (Nat × Value)), idxs i ps = true → ps = ((ps.map (·.2)).zipIdx i).map fun x => (x.2, x.1)
 | _, [], _ => rfl
 | i, p :: ps, h => by
  rw [idxs_cons, Bool.and_eq_true, beq_iff_eq] at h
  have := idxs_zip (i + 1) ps h.2
  simp only [List.map_cons, List.zipIdx_cons]
  rw [← this]
  obtain ⟨a, b⟩ := p
  simp only at h
  rw [h.1]
def bOk (n s : Nat) (ps : List (Nat × Value)) : Bool :=
 decide (ps.length = n) && (idxs 0 ps && (ps.all (fun p => p.2.cells.size == s) && (decide (0 < n * s) && decide (n * s ≤ 16777216))))
def bldS (P : Program) (w : World) (t : TypeId) (n : Nat) (ps : List (Nat × Value)) : Result Nat → Result Value → Result Value
 | .ok s _, .ok _ _ => if bOk n s ps then .ok (.slice (some ⟨w.heap.size, 0, none⟩) n n) (w.alloc (.cells (ps.flatMap fun p => p.2.cells.toList).toArray (elemT (P.underlying t)))) else (Instr.buildSlice t n ps.toArray).run P w
 | _, _ => (Instr.buildSlice t n ps.toArray).run P w
@[simp] theorem bldS_ok (P : Program) (w : World) (t : TypeId) (n : Nat) (ps : List (Nat × Value)) (s : Nat) (z : Value) (w1 w2 : World) (h : bOk n s ps = true) :
  bldS P w t n ps (.ok s w1) (.ok z w2) = .ok (.slice (some ⟨w.heap.size, 0, none⟩) n n) (w.alloc (.cells (ps.flatMap fun p => p.2.cells.toList).toArray (elemT (P.underlying t)))) := by
 show (if bOk n s ps = true then _ else _) = _; rw [if_pos h]
attribute [simp] bOk
@[simp] theorem r_buildSlice {P : Program} {w : World} {t : TypeId} (n : Nat) (ps : List (Nat × Value)) (hs : isS (P.underlying t) = true) :
  (Instr.buildSlice t n ps.toArray).run P w = bldS P w t n ps ((Go.sizeOf (elemT (P.underlying t))).run P w) ((zeroValue (elemT (P.underlying t))).run P w) := by
 cases hi : P.info? (elemT (P.underlying t)) with
 | none => simp [bldS, Go.sizeOf, typeInfo, hi]
 | some i =>
  cases hz : i.zero with
  | none => simp [bldS, zeroValue, Go.sizeOf, typeInfo, hi, hz]
  | some z =>
   have e1 : (Go.sizeOf (elemT (P.underlying t))).run P w = .ok i.size w := by simp [Go.sizeOf, typeInfo, hi]
   have e2 : (zeroValue (elemT (P.underlying t))).run P w = .ok z w := by simp [zeroValue, typeInfo, hi, hz]
   rw [e1, e2]
   unfold bldS
   by_cases hb : bOk n i.size ps = true
   ·simp only [hb, if_true]
    have h := hb
    unfold bOk at h
    simp only [Bool.and_eq_true, decide_eq_true_eq, List.all_eq_true, beq_iff_eq] at h
    obtain ⟨h1, h2, h3, h5, h6⟩ := h
    have hpos : 0 < i.size := Nat.pos_of_mul_pos_left h5
    refine run_buildSlice w t _ n ps.toArray _ i z (isS_inv hs) hi hz (by omega) (by omega) ?_
    have := idxs_zip 0 ps h2
    have hf := Go.Great.fill_whole hpos (ps.map (·.2)) ((Array.range (n * i.size)).map (z.cells[· % z.cells.size]!)) (fun v hv => by
     obtain ⟨p, hp, rfl⟩ := List.mem_map.1 hv
     exact h3 p hp) (by simp [h1])
    rw [← this] at hf
    rw [List.flatMap_map] at hf
    exact hf
   ·simp only [hb]; rfl
end Pk
namespace Pk
open Go

def MIter {κ ν : Type} (ek : κ → Value) (ew : ν → Value) (w : World) (b r : Nat) (m : List (κ × ν)) (idxs : List Nat) : Prop :=
 ∃ es clock seen, w.heap[r]? = some (.map es clock) ∧ es.toList.map (fun e => (e.key, e.val)) = m.map (fun p => (ek p.1, ew p.2)) ∧ (es.toList.map (·.born)).Pairwise (· < ·) ∧ (∀ e ∈ es.toList, e.born < clock) ∧
  w.heap[b]? = some (.mapIter (some r) clock seen clock) ∧ (∀ i ∈ idxs, i < m.length) ∧ idxs.Nodup ∧ seen.toList = idxs.map (fun i => (es.toList.map (·.born)).getD i 0)
section
variable {κ ν : Type} {ek : κ → Value} {ew : ν → Value} {P : Program} {w : World} {b r : Nat} {m : List (κ × ν)} {idxs : List Nat}
theorem MIter.keep {w' : World} (h : MIter ek ew w b r m idxs) (h1 : w'.heap[r]? = w.heap[r]?) (h2 : w'.heap[b]? = w.heap[b]?) : MIter ek ew w' b r m idxs := by
 obtain ⟨es, c, s, a1, a2, a3, a4, a5, a6⟩ := h
 exact ⟨es, c, s, h1.trans a1, a2, a3, a4, h2.trans a5, a6⟩
theorem MIter.lt (h : MIter ek ew w b r m idxs) : r < w.heap.size ∧ b < w.heap.size := by
 obtain ⟨es, c, s, a1, a2, a3, a4, a5, a6⟩ := h
 exact ⟨(Array.getElem?_eq_some_iff.1 a1).1, (Array.getElem?_eq_some_iff.1 a5).1⟩
theorem MIter.mod {w' : World} {S : Nat → Prop} (h : MIter ek ew w b r m idxs) (hM : Mod S w w') (h1 : ¬ S r) (h2 : ¬ S b) : MIter ek ew w' b r m idxs := h.keep (hM.blk _ h.lt.1 h1) (hM.blk _ h.lt.2 h2)
theorem MIter.obj (h : MIter ek ew w b r m idxs) : ∃ a c s d, w.heap[b]? = some (.mapIter a c s d) := by
 obtain ⟨es, c, s, a1, a2, a3, a4, a5, a6⟩ := h
 exact ⟨_, _, _, _, a5⟩
theorem MapAt.range (h : MapAt ek ew w r m) {T K E : TypeId} (hT : P.underlying T = some (.map K E)) :
  ∃ o, (Instr.range T (.map (some r))).run P w = .ok (.pointer (some ⟨w.heap.size, 0, none⟩)) (w.alloc o) ∧ MIter ek ew (w.alloc o) w.heap.size r m [] := by
 have hlt := h.lt
 obtain ⟨⟨es, c, h1, h2, h3, h4⟩, h5⟩ := h
 exact ⟨_, run_range_map w T K E r es c hT h1, es, c, #[], ((Ext.refl w).alloc _).obj h1, h2, h3, h4, World.alloc_heap_new w _, by simp, List.nodup_nil, rfl⟩
theorem MIter.next (h : MIter ek ew w b r m idxs) (ty : TypeId) :
  (idxs.Perm (List.range m.length) ∧ (Instr.next (.pointer (some ⟨b, 0, none⟩)) false ty).run P w = .ok (.tuple #[.bool false]) w) ∨
  ∃ (i : Nat) (p : κ × ν) (w' : World), m[i]? = some p ∧ i ∉ idxs ∧ (Instr.next (.pointer (some ⟨b, 0, none⟩)) false ty).run P w = .ok (.tuple #[.bool true, ek p.1, ew p.2]) w' ∧ MIter ek ew w' b r m (idxs ++ [i]) ∧ Mod (· = b) w w' ∧
   (Instr.entry (.pointer (some ⟨b, 0, none⟩))).run P w' = .ok (.tuple #[ek p.1, ew p.2]) w' ∧ w'.heap.size = w.heap.size := by
 obtain ⟨es, c, s, a1, a2, a3, a4, a5, a6, a7, a8⟩ := h
 have hlen : es.toList.length = m.length := by have := congrArg List.length a2; simpa using this
 have hbn : (es.toList.map (·.born)).Nodup := a3.imp (fun h => by omega)
 have hseen : ∀ i (hi : i < es.toList.length), s.contains (es.toList[i]).born = true ↔ i ∈ idxs := by
  intro i hi
  rw [← Array.contains_toList, a8, List.contains_iff_mem, List.mem_map]
  constructor
  ·rintro ⟨j, hj, e⟩
   have hjl := a6 j hj
   have : (es.toList.map (·.born))[j]'(by simp; rw [← Array.length_toList]; omega) = (es.toList.map (·.born))[i]'(by simpa using hi) := by
    rw [List.getD_eq_getElem?_getD, List.getElem?_eq_getElem (by rw [List.length_map]; omega)] at e
    simpa using e
   have := (List.getElem_inj hbn).1 this
   rwa [← this]
  ·intro hi'
   refine ⟨i, hi', ?_⟩
   rw [List.getD_eq_getElem?_getD, List.getElem?_map, List.getElem?_eq_getElem hi]; rfl
 rcases run_next_at (P := P) w ty b r c c s es c a5 a1 a4 (Nat.le_refl _) with ⟨h0, hrun⟩ | ⟨e, he, w1, hal, hrun⟩
 ·left
  refine ⟨(List.perm_ext_iff_of_nodup a7 List.nodup_range).2 fun i => ⟨fun hi => by simpa using a6 i hi, fun hi => ?_⟩, hrun⟩
  have hi' : i < es.toList.length := by rw [hlen]; simpa using hi
  refine (hseen i hi').1 ?_
  exact all_seen es s h0 _ (List.getElem_mem hi')
 ·right
  obtain ⟨hem, hes⟩ := Go.mem_left he
  obtain ⟨i, hi, rfl⟩ := List.mem_iff_getElem.1 hem
  have him : i < m.length := by omega
  have hkv : ((es.toList[i]).key, (es.toList[i]).val) = (ek m[i].1, ew m[i].2) := by
   have := congrArg (·[i]?) a2
   simp only [List.getElem?_map, List.getElem?_eq_getElem hi, List.getElem?_eq_getElem him, Option.map_some, Option.some.injEq] at this
   exact this
  have hk := congrArg Prod.fst hkv
  have hv := congrArg Prod.snd hkv
  simp only at hk hv
  rw [hk, hv] at hrun
  have hne : b ≠ r := by
   rintro rfl
   rw [a1] at a5; cases a5
  have hr1 : w1.heap[b]? = some (.mapIter (some r) c s c) := by rcases hal with rfl | rfl <;> exact a5
  have hb1 : w1.heap[r]? = some (.map es c) := by rcases hal with rfl | rfl <;> exact a1
  have hset := Go.MapKept.heap_set (o' := .mapIter (some r) c (s.push (es.toList[i]).born) c) hr1
  have hb' : (Go.ChangeMaps.setBlock w1 b (.mapIter (some r) c (s.push (es.toList[i]).born) c)).heap[r]? = some (.map es c) := (hset.2 r (Ne.symm hne)).trans hb1
  have hent := run_entry_at (P := P) (Go.ChangeMaps.setBlock w1 b (.mapIter (some r) c (s.push (es.toList[i]).born) c)) b r c s es c (es.toList[i]) hset.1 hb' hem hbn
  rw [hk, hv] at hent
  have hni : i ∉ idxs := fun hc => by
   have := (hseen i hi).2 hc
   rw [hes] at this; cases this
  refine ⟨i, m[i], _, List.getElem?_eq_getElem him, hni, hrun, ⟨es, c, _, hb', a2, a3, a4, hset.1, ?_, ?_, ?_⟩, ?_, hent, ?_⟩
  ·intro j hj
   rcases List.mem_append.1 hj with hj | hj
   ·exact a6 j hj
   ·rw [List.mem_singleton] at hj; omega
  ·rw [List.nodup_append]
   refine ⟨a7, by simp, fun a ha b hb => ?_⟩
   rw [List.mem_singleton] at hb
   subst hb
   rintro rfl
   exact hni ha
  ·rw [Array.toList_push, a8, List.map_append, List.map_singleton]
   congr 2
   rw [List.getD_eq_getElem?_getD, List.getElem?_map, List.getElem?_eq_getElem hi]; rfl
  ·rcases hal with rfl | rfl <;> exact ⟨rfl, rfl, rfl, by simp [Go.ChangeMaps.setBlock], fun k _ hk => hset.2 k hk⟩
  ·rcases hal with rfl | rfl <;> simp [Go.ChangeMaps.setBlock]
theorem nodup_le : ∀ (n : Nat) (l : List Nat), l.Nodup → (∀ i ∈ l, i < n) → l.length ≤ n
 | 0, [], _, _ => Nat.le_refl _
 | 0, a :: _, _, h => by have := h a (by simp); omega
 | n + 1, l, hn, h => by
  have h1 := nodup_le n (l.erase n) (hn.erase n) fun i hi => by
   have h2 := h i (List.mem_of_mem_erase hi)
   have h3 : i ≠ n := fun e => by subst e; exact (hn.not_mem_erase) hi
   omega
  have := List.length_erase_of_mem (a := n) (l := l)
  by_cases hm : n ∈ l
  ·have := this hm; omega
  ·rw [List.erase_of_not_mem hm] at h1; omega
theorem MIter.bound (h : MIter ek ew w b r m idxs) : idxs.length ≤ m.length := by
 obtain ⟨es, c, s, a1, a2, a3, a4, a5, a6, a7, a8⟩ := h
 exact nodup_le _ _ a7 a6
end
end Pk
namespace Pk
open Go
def place (v : Value) (j : Nat) : Addr := ⟨slB v, slO v + j, none⟩
structure Row (q : IntKind) (w : World) (v : Value) (n : Nat) (f : Nat → Int) : Prop where
 cell : ∀ j, j < n → w.cell? (place v j) = some (.int q (f j))
 thaw : ∀ j, j < n → w.frozen? (place v j) = false
def swap (f : Nat → Int) (i j : Nat) : Nat → Int := fun k => if k = i then f j else if k = j then f i else f k
theorem swap_o (f : Nat → Int) {i j k : Nat} (h1 : k ≠ i) (h2 : k ≠ j) : swap f i j k = f k := by unfold swap; rw [if_neg h1, if_neg h2]
inductive Shuf (a b : Nat) : (Nat → Int) → (Nat → Int) → Prop
 | refl (f : Nat → Int) : Shuf a b f f
 | step {f g : Nat → Int} (h : Shuf a b f g) (i j : Nat) (hi : a ≤ i ∧ i < b) (hj : a ≤ j ∧ j < b) : Shuf a b f (swap g i j)
theorem Shuf.trans {a b : Nat} {f g k : Nat → Int} (h1 : Shuf a b f g) (h2 : Shuf a b g k) : Shuf a b f k := by
 induction h2 with
 | refl => exact h1
 | step _ i j hi hj ih => exact .step ih i j hi hj
theorem Shuf.off {a b : Nat} {f g : Nat → Int} (h : Shuf a b f g) {k : Nat} (hk : k < a ∨ b ≤ k) : g k = f k := by
 induction h with
 | refl => rfl
 | step _ i j hi hj ih => rw [swap_o _ (by omega) (by omega)]; exact ih
end Pk
namespace Pk
open Go

def isIntV : Value → Bool | .int _ _ => true | _ => false
@[simp] theorem isIntV_int (k : IntKind) (n : Int) : isIntV (.int k n) = true := rfl
def iV (σ : Env) (o : Oper) : Bool := match o.op with
 | .binOp _ _ x y _ => isIntV (ev σ x) && isIntV (ev σ y)
 | _ => true
section
variable (σ : Env) (d : Option Tmp) (ty : TypeId) (pos : String) (af : Array Edge) (gd : Option (Nat × Bool))
@[simp ↓] theorem iV_move (x : Operand) : iV σ ⟨d, .move x, ty, pos, af, gd⟩ = true := _root_.id rfl
@[simp ↓] theorem iV_assign (x : Operand) : iV σ ⟨d, .assign x, ty, pos, af, gd⟩ = true := _root_.id rfl
@[simp ↓] theorem iV_load (t : TypeId) (x : Operand) : iV σ ⟨d, .load t x, ty, pos, af, gd⟩ = true := _root_.id rfl
@[simp ↓] theorem iV_indexAddr (t : TypeId) (x y : Operand) : iV σ ⟨d, .indexAddr t x y, ty, pos, af, gd⟩ = true := _root_.id rfl
@[simp ↓] theorem iV_nilCheck (x : Operand) : iV σ ⟨d, .nilCheck x, ty, pos, af, gd⟩ = true := _root_.id rfl
@[simp ↓] theorem iV_binOp (p : BinOp) (t t' : TypeId) (x y : Operand) : iV σ ⟨d, .binOp p t x y t', ty, pos, af, gd⟩ = (isIntV (ev σ x) && isIntV (ev σ y)) := _root_.id rfl
end
def free : Op → Bool
 | .move _ | .assign _ | .indexAddr _ _ _ => true
 | .binOp p _ _ _ _ => match p with | .add | .sub | .mul => true | _ => false
 | _ => false

def Calm {α : Type} (s : Sem α) : Prop := ∀ P w v w', s.run P w = .ok v w' → ∀ W, s.run P W = .ok v W
def Never {α : Type} (s : Sem α) : Prop := ∀ P w v w', s.run P w = .ok v w' → False
theorem Never.calm {α : Type} {s : Sem α} (h : Never s) : Calm s := fun P w v w' e => (h P w v w' e).elim
theorem calm_pure {α : Type} (a : α) : Calm (pure a : Sem α) := fun P w v w' e W => by
 rw [Sem.run_pure] at e ⊢; cases e; rfl
theorem calm_bind {α β : Type} {s : Sem α} {f : α → Sem β} (hs : Calm s) (hf : ∀ a, Calm (f a)) : Calm (s >>= f) := fun P w v w' e W => by
 rw [Sem.run_bind] at e ⊢
 cases h : s.run P w with
 | ok a w1 => rw [h] at e; rw [hs P w a w1 h W]; exact hf a P w1 v w' e W
 | halt x w1 => rw [h] at e; cases e
theorem never_bind {α β : Type} {s : Sem α} {f : α → Sem β} (hf : ∀ a, Never (f a)) : Never (s >>= f) := fun P w v w' e => by
 rw [Sem.run_bind] at e
 cases h : s.run P w with
 | ok a w1 => rw [h] at e; exact hf a P w1 v w' e
 | halt x w1 => rw [h] at e; cases e
theorem never_stuck {α : Type} (m : String) : Never (stuck m : Sem α) := fun P w v w' e => by cases e
theorem never_unsupported {α : Type} (m) : Never (unsupported m : Sem α) := fun P w v w' e => by cases e
theorem never_rt {α : Type} (x y : Int) (s : Bool) (c : BoundsCode) : Never (runtimePanic (.bounds x y s c) : Sem α) := fun P w v w' e => by cases e
theorem never_bounds {α : Type} (k : IntKind) (x y : Int) (c : BoundsCode) : Never (boundsPanic k x y c : Sem α) := by
 unfold boundsPanic
 dsimp only
 split
 ·exact never_bind fun s => never_rt _ _ _ _
 ·exact never_bind fun s => never_rt _ _ _ _
theorem calm_und (t : TypeId) : Calm (underlying t) := fun P w v w' e W => by
 cases h : P.underlying t with
 | none => simp [underlying, program, Sem.run, h] at e
 | some d => rw [run_und h] at e ⊢; cases e; rfl
theorem calm_info (t : TypeId) : Calm (typeInfo t) := fun P w v w' e W => by
 cases h : P.info? t with
 | none => simp [typeInfo, program, Sem.run, h] at e
 | some d => simp [typeInfo, program, Sem.run, h] at e ⊢; exact e.1
theorem calm_size (t : TypeId) : Calm (Go.sizeOf t) := calm_bind (calm_info t) fun _ => calm_pure _
theorem calm_asInt (v : Value) : Calm (asIntOf v) := by
 unfold asIntOf
 split
 ·exact calm_pure _
 ·exact (never_unsupported _).calm
 ·exact (never_stuck _).calm
theorem calm_addr (v : Value) : Calm (Instr.sureAddr v) := by
 unfold Instr.sureAddr
 split
 ·exact calm_pure _
 ·exact (never_stuck _).calm
theorem calm_index (t : TypeId) (x i : Value) : Calm (Instr.indexAt t x i) := by
 unfold Instr.indexAt
 refine calm_bind (calm_asInt i) fun kn => ?_
 obtain ⟨k, n⟩ := kn
 refine calm_bind (calm_und t) fun u => ?_
 dsimp only
 have hj : ∀ (b : Option Addr) (l : Nat) (e : TypeId), Calm (do
   let __do_lift ← underlying t
   have tiny : Bool := decide (l ≤ 1) && match __do_lift with | TypeDesc.array len elem => true | x => false
   match b with
    | some a =>
     if 0 ≤ n ∧ n < ↑l then do
      let __do_lift ← Go.sizeOf e
      pure (Value.pointer (some (a.add (n.toNat * __do_lift))))
     else
      if tiny = true then unsupported (Unsupported.noEntry "op/indexAddr.an index out of range at an array of length 0 or 1 (ledger 616)")
      else boundsPanic k n (↑l) BoundsCode.index
    | none => boundsPanic k n 0 BoundsCode.index : Sem Value) := by
  intro b l e
  refine calm_bind (calm_und t) fun u' => ?_
  dsimp only
  cases b with
  | none => exact (never_bounds _ _ _ _).calm
  | some a =>
   dsimp only
   by_cases h : 0 ≤ n ∧ n < ↑l
   ·rw [if_pos h]; exact calm_bind (calm_size _) fun _ => calm_pure _
   ·rw [if_neg h]
    split <;> split <;> first | exact (never_unsupported _).calm | exact (never_bounds _ _ _ _).calm
 split
 ·exact calm_bind (calm_addr _) fun a => calm_bind (calm_pure _) fun q => hj q.1 q.2.1 q.2.2
 ·exact calm_bind (calm_pure _) fun q => hj q.1 q.2.1 q.2.2
 ·exact calm_bind (never_stuck _).calm fun q => hj q.1 q.2.1 q.2.2
theorem calm_arith {p : BinOp} (hp : free (.binOp p 0 (.const undef) (.const undef) 0) = true) (t : TypeId) (k k' : IntKind) (a b : Int) : Calm (binOp p t (.int k a) (.int k' b)) := by
 cases p <;> first | (cases hp; done) | skip
 all_goals
  unfold binOp
  simp only
  split
  ·exact (never_stuck _).calm
  ·exact calm_pure _
theorem calm_guard {p : BinOp} (hp : free (.binOp p 0 (.const undef) (.const undef) 0) = true) (t : TypeId) (x y : Operand) (a b : Value) : Calm (eqGuard p t x y a b) := by
 cases p <;> first | (cases hp; done) | exact calm_pure _
theorem calm_onR {P : Program} {s : Sem Value} (hs : Calm s) {w : World} {k k' : Value → World → Prop} (h : onR (s.run P w) k) (W : World) (hk : ∀ v w', k v w' → k' v W) : onR (s.run P W) k' := by
 cases e : s.run P w with
 | ok v w' =>
  rw [e] at h
  rw [hs P w v w' e W]
  exact hk _ _ h
 | halt x w' => rw [e] at h; exact h.elim
theorem VO_calm {P : Program} {r : Option Nat} {o : Oper} {k : Value → List Deferred → Prop} {ρ : Env} {ds : List Deferred} {w : World} (hf : free o.op = true) (hi : iV ρ o = true) (hd : o.dst.isSome = true)
  (h : VO P r o (fun ρ'' ds'' _ => k (dv ρ'' o.dst) ds'') (fun _ _ _ _ => False) ρ ds w) (W : World) : VO P r o (fun ρ'' ds'' w'' => w'' = W ∧ k (dv ρ'' o.dst) ds'') (fun _ _ _ _ => False) ρ ds W := by
 obtain ⟨dst, op, ty, pos, aft, gd⟩ := o
 cases op with
 | move x => exact ⟨rfl, h⟩
 | assign x => exact ⟨rfl, h⟩
 | indexAddr t x i => exact calm_onR (calm_index t _ _) (k := fun v w' => k (dv (put ρ dst v) dst) ds) h W fun v w' h' => ⟨rfl, h'⟩
 | binOp p t x y t' =>
  have hi' := Bool.and_eq_true_iff.1 hi
  have hfp : free (.binOp p 0 (.const undef) (.const undef) 0) = true := hf
  have hc : Calm (do eqGuard p t x y (ev ρ x) (ev ρ y); binOp p t (ev ρ x) (ev ρ y)) := by
   refine calm_bind (calm_guard hfp _ _ _ _ _) fun _ => ?_
   cases hx : ev ρ x with
   | int k1 a =>
    cases hy : ev ρ y with
    | int k2 b => exact calm_arith hfp _ _ _ _ _
    | _ => rw [hy] at hi'; cases hi'.2
   | _ => rw [hx] at hi'; cases hi'.1
  exact calm_onR hc (k := fun v w' => k (dv (put ρ dst v) dst) ds) h W fun v w' h' => ⟨rfl, h'⟩
 | _ => cases hf
def PS (P : Program) (r : Option Nat) (ds : List Deferred) (ops : Array Oper) (w1 : World) (T : Env → Prop) : List Oper → Env → Prop
 | [], σ => T σ
 | o :: os, σ => GI (gw ops σ o.guard) (iV σ o = true ∧ VO P r o (fun ρ'' ds'' w'' => (ds'' = ds ∧ w'' = w1) ∧ PS P r ds ops w1 T os ρ'') (fun _ _ _ _ => False) σ ds w1) (PS P r ds ops w1 T os (put σ o.dst undef))
def PSt (P : Program) (r : Option Nat) (ds : List Deferred) (ops : Array Oper) (w1 : World) (T : Env → Prop) (l : List Oper) (_ : Tok (PProd.mk ops (PProd.mk T l))) (σ : Env) : Prop := PS P r ds ops w1 T l σ
@[simp ↓] theorem PS_tok (P : Program) (r : Option Nat) (ds : List Deferred) (ops : Array Oper) (w1 : World) (T : Env → Prop) (l : List Oper) (σ : Env) : PS P r ds ops w1 T l σ = PSt P r ds ops w1 T l .mk σ := _root_.id rfl
@[simp] theorem PSt_nil (P : Program) (r : Option Nat) (ds : List Deferred) (ops : Array Oper) (w1 : World) (T : Env → Prop) (t) (σ : Env) : PSt P r ds ops w1 T [] t σ = T σ := _root_.id rfl
@[simp] theorem PSt_cons (P : Program) (r : Option Nat) (ds : List Deferred) (ops : Array Oper) (w1 : World) (T : Env → Prop) (o : Oper) (os : List Oper) (t) (σ : Env) :
  PSt P r ds ops w1 T (o :: os) t σ = GIt (gw ops σ o.guard) (iV σ o = true ∧ VO P r o (fun ρ'' ds'' w'' => (ds'' = ds ∧ w'' = w1) ∧ PS P r ds ops w1 T os ρ'') (fun _ _ _ _ => False) σ ds w1) (PS P r ds ops w1 T os (put σ o.dst undef)) .mk := _root_.id rfl
@[simp] theorem PSt_take (P : Program) (r : Option Nat) (ds : List Deferred) (ops : Array Oper) (w1 : World) (T : Env → Prop) (k : Nat) (o : Oper) (l : List Oper) (t) (σ : Env) :
  PSt P r ds ops w1 T ((o :: l).take (k + 1)) t σ = PSt P r ds ops w1 T (o :: l.take k) .mk σ := _root_.id rfl
@[simp] theorem PSt_take0 (P : Program) (r : Option Nat) (ds : List Deferred) (ops : Array Oper) (w1 : World) (T : Env → Prop) (l : List Oper) (t) (σ : Env) :
  PSt P r ds ops w1 T (l.take 0) t σ = T σ := _root_.id rfl
def SCs (P : Program) (r : Option Nat) (ds : List Deferred) (ops : Array Oper) (w1 : World) (T : Env → Prop) : List Oper → List Value → Env → Prop
 | o :: os, c :: cs, σ => GI (gw ops σ o.guard) (iV σ o = true ∧ VO P r o (fun ρ'' ds'' w'' => ds'' = ds ∧ w'' = w1 ∧ dv ρ'' o.dst = c) (fun _ _ _ _ => False) σ ds w1) (c = undef) ∧ SCs P r ds ops w1 T os cs (put σ o.dst c)
 | [], [], σ => T σ
 | _, _, _ => False
section
variable {P : Program} {r : Option Nat} {ds : List Deferred} {ops : List Oper} {w1 : World} {T : Env → Prop} {m : Nat} {bs : List (List Nat)}
theorem SCs_length : ∀ {l : List Oper} {cs : List Value} {σ : Env}, SCs P r ds ops.toArray w1 T l cs σ → cs.length = l.length
 | [], [], _, _ => rfl
 | [], _ :: _, _, h => h.elim
 | _ :: _, [], _, h => h.elim
 | _ :: _, _ :: _, _, h => congrArg (· + 1) (SCs_length h.2)
theorem PS_SCs : ∀ (l : List Oper) (σ : Env), (∀ o ∈ l, plain o.op = true ∧ o.dst.isSome = true) → PS P r ds ops.toArray w1 T l σ → ∃ cs σ', T σ' ∧ SCs P r ds ops.toArray w1 (fun e => e = σ') l cs σ
 | [], σ, _, h => ⟨[], σ, h, rfl⟩
 | o :: l, σ, hp, h => by
  obtain ⟨d, hd⟩ := Option.isSome_iff_exists.1 (hp o (by simp)).2
  unfold PS at h
  cases hg : gw ops.toArray σ o.guard with
  | true =>
   rw [hg, GI_true] at h
   obtain ⟨hi, h⟩ := h
   obtain ⟨v, w', ⟨⟨h1, h2⟩, h3⟩, h4⟩ := VO_det (hp o (by simp)).1 h
   obtain ⟨cs, σ', hT, hcs⟩ := PS_SCs l _ (fun o ho => hp o (by simp [ho])) h3
   refine ⟨v :: cs, σ', hT, ?_, hcs⟩
   rw [hg, GI_true]
   refine ⟨hi, h4 _ _ ⟨rfl, h2, ?_⟩⟩
   rw [hd]; simp
  | false =>
   rw [hg, GI_false] at h
   obtain ⟨cs, σ', hT, hcs⟩ := PS_SCs l _ (fun o ho => hp o (by simp [ho])) h
   refine ⟨undef :: cs, σ', hT, ?_, hcs⟩
   rw [hg, GI_false]
theorem iV_env {o : Oper} {ρ ρ' : Env} (h : ∀ t ∈ tmpsOf o, ρ t = ρ' t) : iV ρ o = iV ρ' o := by
 obtain ⟨dst, op, ty, pos, aft, gd⟩ := o
 cases op with
 | binOp p t x y t' =>
  have hx : ∀ z ∈ (Op.binOp p t x y t').operands, ev ρ z = ev ρ' z := by
   intro z hz
   cases z with
   | tmp t => exact h t (List.mem_filterMap.2 ⟨.tmp t, Array.mem_toList_iff.2 hz, rfl⟩)
   | _ => rfl
  simp only [iV]
  rw [hx x (by simp [Op.operands]), hx y (by simp [Op.operands])]
 | _ => rfl
def storeOk (ops : List Oper) (m : Nat) (bs : List (List Nat)) : Bool :=
 (ops.take m).all (fun o => plain o.op && o.dst.isSome) && (List.range m).all (fun i => (bsAt bs m).contains i || ((ops[i]?).map fun o => free o.op).getD false) &&
 (match ops[m]? with | some o => plain o.op && (o.dst.isNone && o.guard.isNone) | none => false)
theorem SCs_VA (hb : befsOk ops (m + 1) bs = true) (hfree : ∀ i, i < m → i ∈ bsAt bs m ∨ ∃ o, ops[i]? = some o ∧ free o.op = true) {st : Oper} (hst : ops[m]? = some st) (hsd : st.dst = none) (hsg : st.guard = none) (hsp : plain st.op = true)
  {W1 : World} {σ' : Env} {U : Env → World → Prop} (hU : U σ' W1) (hrun : VO P r st (fun _ ds'' w'' => ds'' = ds ∧ w'' = W1) (fun _ _ _ _ => False) σ' ds w1) : ∀ (l : List Oper) (cs : List Value) (i : Nat) (bs' : List (List Nat)) (acc : List (Nat × (World → Prop))) (ρ σ : Env),
  (∀ o ∈ l, plain o.op = true ∧ o.dst.isSome = true) → (∀ k, k < l.length → l[k]? = ops[i + k]?) → i + l.length = m → bs'.length = l.length + 1 → (∀ k, k < l.length + 1 → bs'[k]? = bs[i + k]?) →
  SCs P r ds ops.toArray w1 (fun e => e = σ') l cs σ →
  (∀ j, j < i → ∀ d, dstAt ops j = some d → ∃ p ∈ acc, p.1 = j ∧ ∀ w', p.2 w' → ρ d = σ d) →
  (∀ t, (∀ j, j < i → dstAt ops j ≠ some t) → ρ t = σ t) →
  VA P r ds (fun _ _ => True) (fun S W => W = if S m then W1 else w1) bs w1 ops.toArray U (l ++ [st]) (cs.map (fun c v _ => v = c) ++ [fun _ _ => True]) bs' i acc ρ
 | [], [], i, [b], acc, ρ, σ, _, _, hm, _, hbs, h, ha, hr => by
  simp at hm
  subst hm
  have hσ : σ = σ' := h
  subst hσ
  have hbi : bsAt bs i = b := by
   have := hbs 0 (by simp)
   simp at this
   unfold bsAt; rw [List.getD_eq_getElem?_getD, ← this]; rfl
  obtain ⟨o', ho', -, hb3, hb4, hb5, hb6⟩ := befsOk_head hb (Nat.lt_succ_self i)
  rw [hst] at ho'; cases ho'
  refine ⟨?_, ?_⟩
  ·intro S w' _ hG hn hacc
   have hSm : S i = false := hn.1
   simp only [hSm, Bool.false_eq_true, if_false] at hG
   subst hG
   rw [hsg, gw_none, GI_true]
   have hslot : ∀ t ∈ tmpsOf st, σ t = ρ t := by
    intro t ht
    by_cases hx : ∃ j, j < i ∧ dstAt ops j = some t
    ·obtain ⟨j, hj, hdj⟩ := hx
     obtain ⟨p, hp, h1, h2⟩ := ha j hj t hdj
     rcases hb4 t ht j (by omega) hdj with h3 | h3
     ·exact (h2 _ (hacc p hp (by rw [h1, ← hbi]; exact h3))).symm
     ·obtain ⟨oj, _, _, hbj, _⟩ := befsOk_head hb (show j < i + 1 by omega)
      have := (hbj i h3).1
      omega
    ·exact (hr t fun j hj hdj => hx ⟨j, hj, hdj⟩).symm
   have := VO_env (k := fun _ ds'' w'' => ds'' = ds ∧ w'' = W1) (ρ' := ρ) hslot hrun
   obtain ⟨v, w2, h1, h2⟩ := VO_det hsp this
   exact h2 _ _ ⟨h1.1.1, trivial, trivial, by simp [h1.1.2]⟩
  ·intro v S w' _ hG hS hacc
   have hSm : S i = true := hS i (by omega)
   simp only [hSm, if_true] at hG
   subst hG
   have : put ρ st.dst v = σ := by
    rw [hsd, put_none]
    funext t
    by_cases ht : ∃ j, j < i ∧ dstAt ops j = some t
    ·obtain ⟨j, hj, hd⟩ := ht
     obtain ⟨p, hp, _, h2⟩ := ha j hj t hd
     exact h2 _ (hacc p (List.mem_append_left _ hp))
    ·exact hr t fun j hj hd => ht ⟨j, hj, hd⟩
   rw [this]; exact hU
 | [], _ :: _, _, _, _, _, _, _, _, _, _, _, h, _, _ => h.elim
 | [], [], _, [], _, _, _, _, _, _, h, _, _, _, _ => by simp at h
 | [], [], _, _ :: _ :: _, _, _, _, _, _, _, h, _, _, _, _ => by simp at h
 | _ :: _, [], _, _, _, _, _, _, _, _, _, _, h, _, _ => h.elim
 | _ :: _, _ :: _, _, [], _, _, _, _, _, _, h, _, _, _, _ => by simp at h
 | o :: l, c :: cs, i, b :: bs', acc, ρ, σ, hp, hl, hm, hbl, hbs, h, ha, hr => by
  have hi : i < m := by simp at hm; omega
  have ho : ops[i]? = some o := by have := hl 0 (by simp); simpa using this.symm
  have hbi : bsAt bs i = b := by
   have := hbs 0 (by simp)
   simp at this
   unfold bsAt; rw [List.getD_eq_getElem?_getD, ← this]; rfl
  obtain ⟨o', ho', -, hb3, hb4, hb5, hb6⟩ := befsOk_head hb (show i < m + 1 by omega)
  rw [ho] at ho'; cases ho'
  obtain ⟨d, hd⟩ := Option.isSome_iff_exists.1 (hp o (by simp)).2
  have hdi : dstAt ops i = some d := by rw [dstAt_get, ho]; exact hd
  refine ⟨?_, ?_⟩
  ·intro S w' _ hG hn hacc
   have hslot : ∀ t, (∀ j, j < m + 1 → dstAt ops j = some t → j ∈ bsAt bs i ∨ i ∈ bsAt bs j) → σ t = ρ t := by
    intro t ht
    by_cases hx : ∃ j, j < i ∧ dstAt ops j = some t
    ·obtain ⟨j, hj, hdj⟩ := hx
     obtain ⟨p, hp, h1, h2⟩ := ha j hj t hdj
     rcases ht j (by omega) hdj with h3 | h3
     ·exact (h2 _ (hacc p hp (by rw [h1, ← hbi]; exact h3))).symm
     ·obtain ⟨oj, _, _, hbj, _⟩ := befsOk_head hb (show j < m + 1 by omega)
      have := (hbj i h3).1
      omega
    ·exact (hr t fun j hj hdj => hx ⟨j, hj, hdj⟩).symm
   have hgw : gw ops.toArray σ o.guard = gw ops.toArray ρ o.guard := by
    refine gw_env fun j b' hg dj hdj => hslot dj fun k hkm hk2 => ?_
    have hj1 := hb5 j b' hg
    have hj2 := (hb3 j hj1).1
    have := head_uniq hb hkm (by omega) hk2 hdj
    subst this
    exact .inl hj1
   have hop : ∀ t ∈ tmpsOf o, σ t = ρ t := fun t ht => hslot t fun j hj hdj => hb4 t ht j hj hdj
   have hG' : ∀ w'', w'' = w' → w'' = if upd S i m then W1 else w1 := by
    rintro _ rfl
    have : decide (m = i) = false := by simp; omega
    simp only [upd_at, this, Bool.false_or]
    exact hG
   have hs := h.1
   rw [← hgw]
   cases hg : gw ops.toArray σ o.guard with
   | true =>
    rw [hg, GI_true] at hs
    rw [GI_true]
    obtain ⟨hiv, hs⟩ := hs
    rw [iV_env hop] at hiv
    cases hSm : S m with
    | false =>
     simp only [hSm, Bool.false_eq_true, if_false] at hG
     subst hG
     have := VO_env (k := fun v ds'' w'' => ds'' = ds ∧ w'' = w' ∧ v = c) (ρ' := ρ) hop hs
     obtain ⟨v, w2, h1, h2⟩ := VO_det (hp o (by simp)).1 this
     exact h2 _ _ ⟨h1.1.1, trivial, h1.1.2.2, hG' _ h1.1.2.1⟩
    | true =>
     have hfr : free o.op = true := by
      rcases hfree i hi with h1 | ⟨o2, h1, h2⟩
      ·have := hn.2.2 m h1
       rw [hSm] at this; cases this
      ·rw [ho] at h1; cases h1; exact h2
     have := VO_env (k := fun v ds'' w'' => ds'' = ds ∧ w'' = w1 ∧ v = c) (ρ' := ρ) hop hs
     have h3 : VO P r o (fun ρ'' ds'' _ => ds'' = ds ∧ dv ρ'' o.dst = c) (fun _ _ _ _ => False) ρ ds w1 := by
      obtain ⟨v, w2, h1, h2⟩ := VO_det (hp o (by simp)).1 this
      exact h2 _ _ ⟨h1.1.1, h1.1.2.2⟩
     have h4 := VO_calm (k := fun v ds'' => ds'' = ds ∧ v = c) hfr hiv (hp o (by simp)).2 h3 w'
     obtain ⟨v, w2, h1, h2⟩ := VO_det (hp o (by simp)).1 h4
     exact h2 _ _ ⟨h1.2.1, trivial, h1.2.2, hG' _ h1.1⟩
   | false =>
    rw [hg, GI_false] at hs
    rw [GI_false]
    exact ⟨hs.symm, hG' _ rfl⟩
  ·intro v
   refine SCs_VA hb hfree hst hsd hsg hsp hU hrun l cs (i + 1) bs' _ (put ρ o.dst v) (put σ o.dst c) (fun o ho => hp o (by simp [ho])) ?_ (by simp at hm; omega) (by simpa using hbl) ?_ h.2 ?_ ?_
   ·intro k hk
    have := hl (k + 1) (by simpa using hk)
    rw [List.getElem?_cons_succ] at this
    rw [this]; congr 1; omega
   ·intro k hk
    have := hbs (k + 1) (by simpa using hk)
    rw [List.getElem?_cons_succ] at this
    rw [this]; congr 1; omega
   ·intro j hj d' hd'
    rw [hd]
    by_cases hji : j = i
    ·subst hji
     rw [hdi] at hd'; cases hd'
     exact ⟨_, List.mem_append_right _ (List.mem_singleton.2 rfl), rfl, fun w' h' => by simpa using h'⟩
    ·have hne : d' ≠ d := by
      rintro rfl
      exact hji (head_uniq hb (by omega) (by omega) hd' hdi)
     obtain ⟨p, hp, h1, h2⟩ := ha j (by omega) d' hd'
     exact ⟨p, List.mem_append_left _ hp, h1, fun w' h' => by simpa [hne] using h2 w' h'⟩
   ·intro t ht
    have hne : t ≠ d := by
     rintro rfl
     exact ht i (by omega) hdi
    rw [hd]
    simpa [hne] using hr t fun j hj => ht j (by omega)
theorem WC_drawS {n : Nat} {id : Nat} {Q : Post} {ρ : Env} {w : World} (m : Nat) (hm : P.follows .mixedOrders = true) (hb : (befsOk ops (m + 1) (befs ops (m + 1)) && storeOk ops m (befs ops (m + 1))) = true)
  (h : PS P r ds ops.toArray w.drew (fun ρ' => VL P r ops.toArray Q (ops.drop m) ρ' ds w.drew) (ops.take m) ρ) : WC P n r (.region id ops.toArray true) Q ρ ds w := by
 rw [Bool.and_eq_true] at hb
 obtain ⟨hb, hs⟩ := hb
 obtain ⟨hbl, hml⟩ := befsOk_bs hb
 unfold storeOk at hs
 rw [Bool.and_eq_true, Bool.and_eq_true] at hs
 obtain ⟨⟨hs1, hs2⟩, hs3⟩ := hs
 have hp : ∀ o ∈ ops.take m, plain o.op = true ∧ o.dst.isSome = true := fun o ho => Bool.and_eq_true_iff.1 (List.all_eq_true.1 hs1 o ho)
 have hst : ∃ st, ops[m]? = some st ∧ plain st.op = true ∧ st.dst = none ∧ st.guard = none := by
  cases ho : ops[m]? with
  | none => rw [ho] at hs3; cases hs3
  | some o =>
   rw [ho] at hs3
   simp only [Bool.and_eq_true, Option.isNone_iff_eq_none] at hs3
   exact ⟨o, rfl, hs3.1, hs3.2.1, hs3.2.2⟩
 obtain ⟨st, ho, hsp, hsd, hsg⟩ := hst
 have hfree : ∀ i, i < m → i ∈ bsAt (befs ops (m + 1)) m ∨ ∃ o, ops[i]? = some o ∧ free o.op = true := by
  intro i hi
  have := List.all_eq_true.1 hs2 i (by simpa using hi)
  rw [Bool.or_eq_true] at this
  rcases this with h1 | h1
  ·exact .inl (by simpa using h1)
  ·right
   cases ho : ops[i]? with
   | none => rw [ho] at h1; cases h1
   | some o => rw [ho] at h1; exact ⟨o, rfl, h1⟩
 have hmlt : m < ops.length := by omega
 have hdrop : ops.drop m = st :: ops.drop (m + 1) := by
  rw [List.drop_eq_getElem_cons hmlt]
  congr 1
  rw [List.getElem?_eq_getElem hmlt] at ho
  exact Option.some.inj ho
 obtain ⟨cs, σ', hT, hcs⟩ := PS_SCs (ops.take m) ρ hp h
 rw [hdrop] at hT
 unfold VL at hT
 rw [hsg, gw_none, GI_true] at hT
 obtain ⟨v, W1, hU, hrun⟩ := VO_det hsp hT
 rw [hsd, put_none] at hU
 have hlen := SCs_length hcs
 have htk : ops.take (m + 1) = ops.take m ++ [st] := by rw [List.take_add_one, ho]; rfl
 refine WC_draw (m + 1) (befs ops (m + 1)) (cs.map (fun c v _ => v = c) ++ [fun _ _ => True]) (fun _ _ => True) hm hb (by simp [hlen]; omega) (G := fun S W => W = if S m then W1 else w.drew) (w0 := w.drew) trivial (fun _ => trivial) (fun a b c _ _ => trivial) ?_ (by simp) ?_
 ·intro A hA v a b h1 _
  rcases List.mem_append.1 hA with hA | hA
  ·obtain ⟨c, _, rfl⟩ := List.mem_map.1 hA
   exact h1
  ·rw [List.mem_singleton] at hA; subst hA; trivial
 ·rw [htk]
  exact SCs_VA (U := fun ρ' w' => VL P r ops.toArray Q (ops.drop (m + 1)) ρ' ds w') hb hfree ho hsd hsg hsp hU (hrun _ _ ⟨rfl, rfl⟩) (ops.take m) cs 0 (befs ops (m + 1)) [] ρ ρ hp
   (fun k hk => by rw [List.getElem?_take, if_pos (by simp at hk; omega)]; simp) (by simp; omega) (by rw [hbl]; simp; omega) (fun k hk => by simp) hcs (fun j hj => by omega) (fun t _ => rfl)
end
end Pk
namespace Pk
open Go
def at_ (d : Array Int) (j : Nat) : Int := d[j]!
def Sv (v : Value) : Nat → Prop := fun k => slN v = false ∧ k = slB v
structure Arr (q : IntKind) (w : World) (v : Value) (d : Array Int) : Prop where
 val : (∃ c, v = .slice none 0 c ∧ d.size = 0) ∨ ∃ b o c, v = .slice (some ⟨b, o, none⟩) d.size c
 cell : ∀ j, j < d.size → w.cell? ⟨slB v, slO v + j, none⟩ = some (.int q (at_ d j))
 thaw : ∀ j, j < d.size → w.frozen? ⟨slB v, slO v + j, none⟩ = false
section
variable {q : IntKind} {w : World} {v : Value} {d : Array Int} {P : Program} {t : TypeId}
theorem Arr.drew (h : Arr q w v d) : Arr q w.drew v d := ⟨h.val, fun j hj => by simpa using h.cell j hj, fun j hj => by simpa using h.thaw j hj⟩
theorem Arr.keep {w' : World} (h : Arr q w v d) (hw : slN v = false → w'.heap[slB v]? = w.heap[slB v]?) : Arr q w' v d := by
 rcases h.val with ⟨c, rfl, h0⟩ | ⟨b, o, c, rfl⟩
 ·exact ⟨h.val, fun j hj => by omega, fun j hj => by omega⟩
 ·have hb := hw rfl
  exact ⟨h.val, fun j hj => by have := h.cell j hj; unfold World.cell? at this ⊢; simp only at this ⊢; rw [hb]; exact this,
   fun j hj => by have := h.thaw j hj; unfold World.frozen? at this ⊢; simp only at this ⊢; rw [hb]; exact this⟩
theorem Arr.lt (h : Arr q w v d) (h0 : 0 < d.size) : slB v < w.heap.size := World.block_lt_of_cell? _ _ (h.cell 0 h0)
theorem Arr.ext {w' : World} (h : Arr q w v d) (he : Ext w w') : Arr q w' v d := by
 by_cases h0 : 0 < d.size
 ·exact h.keep fun _ => he.blk _ (h.lt h0)
 ·exact ⟨h.val, fun j hj => by omega, fun j hj => by omega⟩
theorem Arr.index (h : Arr q w v d) (hs : isS (P.underlying t) = true) (hz : ∀ W, (Go.sizeOf (elemT (P.underlying t))).run P W = .ok 1 W) (j : Nat) (hj : j < d.size) (W : World) :
  (Instr.indexAt t v (.int .i64 (j : Int))).run P W = .ok (.pointer (some ⟨slB v, slO v + j, none⟩)) W := by
 rcases h.val with ⟨c, rfl, h0⟩ | ⟨b, o, c, rfl⟩
 ·omega
 ·rw [r_index_slice P W t b o d.size c .i64 j hs (by omega) (by omega), hz]
  simp [slB, slO]
theorem Arr.isLen (h : Arr q w v d) (hs : isS (P.underlying t) = true) (ty : TypeId) (W : World) : (Builtin.len_ #[t] ty #[v]).run P W = .ok (.int .i64 d.size) W := by
 rcases h.val with ⟨c, rfl, h0⟩ | ⟨b, o, c, rfl⟩
 ·rw [h0]; simp [hs]
 ·simp [hs]
theorem Arr.sizeq {w' : World} {d' : Array Int} (h : Arr q w v d) (h' : Arr q w' v d') : d.size = d'.size := by
 rcases h.val with ⟨c, rfl, h0⟩ | ⟨b, o, c, rfl⟩
 ·rcases h'.val with ⟨c', h1, h2⟩ | ⟨b', o', c', h1⟩
  ·omega
  ·cases h1
 ·rcases h'.val with ⟨c', h1, h2⟩ | ⟨b', o', c', h1⟩
  ·cases h1
  ·injection h1
theorem at_swp (d : Array Int) {i j : Nat} (hi : i < d.size) (hj : j < d.size) (k : Nat) : at_ (Sort.swp d i j) k = if k = j then at_ d i else if k = i then at_ d j else at_ d k := by
 unfold at_
 by_cases h1 : k = j
 ·subst h1; rw [if_pos rfl]; exact Sort.swp_right d i k hj
 ·rw [if_neg h1]
  by_cases h2 : k = i
  ·subst h2; rw [if_pos rfl]; exact Sort.swp_left d k j hi h1
  ·rw [if_neg h2]; exact Sort.swp_other d i j k h2 h1
theorem Arr.facts (h : Arr q w v d) (i j : Nat) (hi : i < d.size) (hj : j < d.size) :
  w.cell? ⟨slB v, slO v + i, none⟩ = some (.int q (at_ d i)) ∧ w.cell? ⟨slB v, slO v + j, none⟩ = some (.int q (at_ d j)) ∧ w.frozen? ⟨slB v, slO v + i, none⟩ = false ∧
  (w.setCell ⟨slB v, slO v + i, none⟩ (.int q (at_ d j))).cell? ⟨slB v, slO v + j, none⟩ = some (.int q (at_ d j)) ∧ w.frozen? ⟨slB v, slO v + j, none⟩ = false := by
 refine ⟨h.cell i hi, h.cell j hj, h.thaw i hi, ?_, h.thaw j hj⟩
 by_cases e : j = i
 ·subst e; exact World.cell?_setCell_same _ _ _ (h.cell j hj)
 ·rw [World.cell?_setCell_other _ _ _ _ (by simp only [ne_eq, Addr.mk.injEq, and_true, true_and]; omega)]; exact h.cell j hj
theorem Arr.swap (h : Arr q w v d) {i j : Nat} (hi : i < d.size) (hj : j < d.size) :
  Arr q ((w.setCell ⟨slB v, slO v + i, none⟩ (.int q (at_ d j))).setCell ⟨slB v, slO v + j, none⟩ (.int q (at_ d i))) v (Sort.swp d i j) := by
 refine ⟨by rw [Sort.size_swp]; exact h.val, fun k hk => ?_, fun k hk => by rw [World.frozen?_setCell, World.frozen?_setCell]; rw [Sort.size_swp] at hk; exact h.thaw k hk⟩
 rw [Sort.size_swp] at hk
 rw [at_swp d hi hj]
 obtain ⟨-, -, -, c2, -⟩ := h.facts i j hi hj
 by_cases h1 : k = j
 ·subst h1
  rw [World.cell?_setCell_same _ _ _ c2, if_pos rfl]
 ·rw [World.cell?_setCell_other _ _ _ _ (by simp only [ne_eq, Addr.mk.injEq, and_true, true_and]; omega), if_neg h1]
  by_cases h2 : k = i
  ·subst h2
   rw [World.cell?_setCell_same _ _ _ (h.cell k hk), if_pos rfl]
  ·rw [World.cell?_setCell_other _ _ _ _ (by simp only [ne_eq, Addr.mk.injEq, and_true, true_and]; omega), if_neg h2]
   exact h.cell k hk
theorem Arr.mswap {w0 : World} (h : Arr q w v d) (hM : Mod (Sv v) w0 w) {i j : Nat} (hi : i < d.size) (x y : Value) : Mod (Sv v) w0 ((w.setCell ⟨slB v, slO v + i, none⟩ x).setCell ⟨slB v, slO v + j, none⟩ y) := by
 have hn : Sv v (slB v) := by
  refine ⟨?_, rfl⟩
  rcases h.val with ⟨c, rfl, h0⟩ | ⟨b, o, c, rfl⟩
  ·omega
  ·rfl
 exact (hM.setCell _ _ (.inl hn)).setCell _ _ (.inl hn)
def Dr (w W : World) : Prop := W = w.drew
theorem Arr.dr {W : World} (h : Arr q w v d) (hd : Dr w W) : Arr q W v d := by rw [hd]; exact h.drew
theorem Mod.dr {S : Nat → Prop} {w0 w W : World} (h : Mod S w0 w) (hd : Dr w W) : Mod S w0 W := by rw [hd]; exact h.trans (Ext.drew w).mod
theorem Ext.dr {w0 w W : World} (h : Ext w0 w) (hd : Dr w W) : Ext w0 W := by rw [hd]; exact h.trans (Ext.drew w)
section
variable {r : Option Nat} {ds : List Deferred} {ops : List Oper}
theorem WC_drS {n : Nat} {id : Nat} {Q : Post} {ρ : Env} {w : World} (m : Nat) (hm : P.follows .mixedOrders = true) (hb : (befsOk ops (m + 1) (befs ops (m + 1)) && storeOk ops m (befs ops (m + 1))) = true)
  (h : ∀ W, Dr w W → PS P r ds ops.toArray W (fun ρ' => VL P r ops.toArray Q (ops.drop m) ρ' ds W) (ops.take m) ρ) : WC P n r (.region id ops.toArray true) Q ρ ds w := WC_drawS m hm hb (h _ rfl)
theorem WC_drQ {n : Nat} {id : Nat} {Q : Post} {ρ : Env} {w : World} (m : Nat) (hm : P.follows .mixedOrders = true) (hb : (befsOk ops m (befs ops m) && (ops.take m).all (fun o => plain o.op && o.dst.isSome)) = true)
  (h : ∀ W, Dr w W → PL P r ds ops.toArray W (fun ρ' => VL P r ops.toArray Q (ops.drop m) ρ' ds W) (ops.take m) ρ) : WC P n r (.region id ops.toArray true) Q ρ ds w := WC_drawQ m hm hb (h _ rfl)
end
theorem wnat (n : Int) (k : Nat) (h : n = k) (hk : k ≤ 9223372036854775807) : IntKind.i64.wrap n = (k : Int) := by subst h; exact wrap64 _ (by omega) (by omega)
end
section
variable (lt : Int → Int → Bool)
theorem sift_stop {hi first root : Nat} {d : Array Int} (h : hi ≤ 2 * root + 1) : Sort.siftDown lt hi first root d = d := by
 rw [Sort.siftDown, dif_pos (by omega)]
theorem sift_go {hi first root c : Nat} {d : Array Int} (hc : c < hi) (h : c = if (decide (2 * root + 2 < hi) && lt (at_ d (first + (2 * root + 1))) (at_ d (first + (2 * root + 2)))) = true then 2 * root + 2 else 2 * root + 1) :
  Sort.siftDown lt hi first root d = if lt (at_ d (first + root)) (at_ d (first + c)) = true then Sort.siftDown lt hi first c (Sort.swp d (first + root) (first + c)) else d := by
 have h1 : ¬ 2 * root + 1 ≥ hi := by split at h <;> omega
 rw [Sort.siftDown, dif_neg h1]
 have e : first + (2 * root + 1) + 1 = first + (2 * root + 2) := by omega
 have e2 : 2 * root + 1 + 1 = 2 * root + 2 := by omega
 rw [e, e2]
 by_cases hb : (decide (2 * root + 2 < hi) && lt (at_ d (first + (2 * root + 1))) (at_ d (first + (2 * root + 2)))) = true
 ·rw [if_pos hb] at h
  subst h
  have hb' : (decide (2 * root + 2 < hi) && lt d[first + (2 * root + 1)]! d[first + (2 * root + 2)]!) = true := hb
  rw [if_pos hb', dif_pos hc]
  by_cases hl : lt (at_ d (first + root)) (at_ d (first + (2 * root + 2))) = true
  ·have hl' : lt d[first + root]! d[first + (2 * root + 2)]! = true := hl
   rw [if_pos hl, hl']; rfl
  ·have hl' : lt d[first + root]! d[first + (2 * root + 2)]! = false := Bool.eq_false_iff.2 hl
   rw [if_neg hl, hl']; rfl
 ·rw [if_neg hb] at h
  subst h
  have hb' : ¬ (decide (2 * root + 2 < hi) && lt d[first + (2 * root + 1)]! d[first + (2 * root + 2)]!) = true := hb
  rw [if_neg hb']
  by_cases hl : lt (at_ d (first + root)) (at_ d (first + (2 * root + 1))) = true
  ·have hl' : lt d[first + root]! d[first + (2 * root + 1)]! = true := hl
   rw [if_pos hl, hl']; rfl
  ·have hl' : lt d[first + root]! d[first + (2 * root + 1)]! = false := Bool.eq_false_iff.2 hl
   rw [if_neg hl, hl']; rfl
end
theorem size_swp (d : Array Int) (i j : Nat) : (Sort.swp d i j).size = d.size := Sort.size_swp d i j
theorem WC_gen {P : Program} {n : Nat} {r : Option Nat} {c : Code} {Q : Post} {ρ : Env} {ds : List Deferred} {w : World} (F : Env → Prop) (hF : F ρ) (h : ∀ σ, F σ → WC P n r c Q σ ds w) : WC P n r c Q ρ ds w := h ρ hF
def xorI (k : IntKind) (a b : Int) : Int := k.wrap (BitVec.ofInt k.bits a ^^^ BitVec.ofInt k.bits b).toNat
def andI (k : IntKind) (a b : Int) : Int := k.wrap (BitVec.ofInt k.bits a &&& BitVec.ofInt k.bits b).toNat
def orI (k : IntKind) (a b : Int) : Int := k.wrap (BitVec.ofInt k.bits a ||| BitVec.ofInt k.bits b).toNat
def shlI (k : IntKind) (a b : Int) : Int := k.wrap (a * 2 ^ (min b.toNat k.bits))
def shrI (k : IntKind) (a b : Int) : Int := a.fdiv (2 ^ (min b.toNat k.bits))
section
variable (P : Program) (w : World) (t : TypeId)
@[simp] theorem b_xor (k : IntKind) (a b : Int) : (binOp .xor t (.int k a) (.int k b)).run P w = .ok (.int k (xorI k a b)) w := by simp [binOp, Op.intBits, xorI]
@[simp] theorem b_and (k : IntKind) (a b : Int) : (binOp .and t (.int k a) (.int k b)).run P w = .ok (.int k (andI k a b)) w := by simp [binOp, Op.intBits, andI]
@[simp] theorem b_or (k : IntKind) (a b : Int) : (binOp .or t (.int k a) (.int k b)).run P w = .ok (.int k (orI k a b)) w := by simp [binOp, Op.intBits, orI]
@[simp] theorem b_shl (k yk : IntKind) (a b : Int) (h : 0 ≤ b) : (binOp .shl t (.int k a) (.int yk b)).run P w = .ok (.int k (shlI k a b)) w := by
 have : ¬ b < 0 := by omega
 simp [binOp, Op.shift, shlI, this]
@[simp] theorem b_shr (k yk : IntKind) (a b : Int) (h : 0 ≤ b) : (binOp .shr t (.int k a) (.int yk b)).run P w = .ok (.int k (shrI k a b)) w := by
 have : ¬ b < 0 := by omega
 simp [binOp, Op.shift, shrI, this]
end
theorem andI_le {a b : Int} (h0 : 0 ≤ b) (h1 : b ≤ 18446744073709551615) : 0 ≤ andI .u64 a b ∧ andI .u64 a b ≤ b := by
 unfold andI
 have e : (BitVec.ofInt IntKind.u64.bits b).toNat = b.toNat := by
  show (BitVec.ofInt 64 b).toNat = b.toNat
  rw [BitVec.toNat_ofInt]
  omega
 have : (BitVec.ofInt IntKind.u64.bits a &&& BitVec.ofInt IntKind.u64.bits b).toNat ≤ b.toNat := by
  rw [BitVec.toNat_and, e]
  exact Nat.and_le_right
 rw [wrap64u _ (by omega) (by omega)]
 omega
theorem shlI_one {n : Nat} (h : n < 64) : shlI .u64 1 (n : Int) = ((2 ^ n : Nat) : Int) := by
 unfold shlI
 have e : min (n : Int).toNat IntKind.u64.bits = n := by simp [IntKind.bits]; omega
 rw [e]
 have : 2 ^ n < 2 ^ 64 := Nat.pow_lt_pow_right (by decide) h
 have hc : (1 * 2 ^ n : Int) = ((2 ^ n : Nat) : Int) := by rw [Int.one_mul, Int.natCast_pow]; rfl
 rw [hc]
 generalize 2 ^ n = N at this ⊢
 rw [wrap64u _ (by omega) (by omega)]
def tabOk (s : ByteArray) : Bool := (List.range 256).all fun n => decide (n < s.size) && (decide (n < 2 ^ (s.data.toList.getD n 0).toNat) && ((n == 0 || decide (2 ^ (s.data.toList.getD n 0).toNat ≤ 2 * n)) && decide ((s.data.toList.getD n 0).toNat ≤ 8)))
theorem onRt_tab {P : Program} {w : World} {t : TypeId} {s : ByteArray} {q : IntKind} {n : Nat} {K : Value → World → Prop} {tok : Tok K} (hs : isStr (P.underlying t) = true) (h1 : n < 256) (hok : tabOk s = true)
  (h : ∀ b : Nat, n < 2 ^ b → n = 0 ∨ 2 ^ b ≤ 2 * n → b ≤ 8 → K (.int .u8 b) w) : onRt ((Instr.index t (.string s) (.int q (n : Int))).run P w) K tok := by
 have h2 := List.all_eq_true.1 hok n (by simpa using h1)
 simp only [Bool.and_eq_true, Bool.or_eq_true, decide_eq_true_eq, beq_iff_eq] at h2
 obtain ⟨hlt, a1, a2, a3⟩ := h2
 rw [r_index_str P w t s q n hs hlt]
 rw [onRt_ok]
 have e : (s[n]'hlt) = s.data.toList.getD n 0 := by
  have : n < s.data.toList.length := by simpa using hlt
  rw [List.getD_eq_getElem?_getD, List.getElem?_eq_getElem this]
  rfl
 rw [e]
 exact h _ a1 a2 a3
section
variable (lt : Int → Int → Bool)
theorem pis_step (a b s i : Nat) (d : Array Int) {i2 : Nat} (h : i2 = Sort.scanSorted lt d b i) : Sort.partialIns lt a b (s + 1) i d = if i2 = b then (d, true) else if b - a < 50 then (d, false) else
  Sort.partialIns lt a b s i2 (if b - i2 ≥ 2 then Sort.shiftUp lt b (i2 + 1) (if i2 - a ≥ 2 then Sort.shiftDown lt (i2 - 1) (Sort.swp d i2 (i2 - 1)) else Sort.swp d i2 (i2 - 1)) else (if i2 - a ≥ 2 then Sort.shiftDown lt (i2 - 1) (Sort.swp d i2 (i2 - 1)) else Sort.swp d i2 (i2 - 1))) := by
 subst h; rw [Sort.partialIns]
theorem pis_end (a b i : Nat) (d : Array Int) : Sort.partialIns lt a b 0 i d = (d, false) := by rw [Sort.partialIns]
theorem scan_go {b i p : Nat} {d : Array Int} (h : i < b) (hp : i = p + 1) (hl : lt (at_ d i) (at_ d p) = false) : Sort.scanSorted lt d b (i + 1) = Sort.scanSorted lt d b i := by
 subst hp
 conv => rhs; rw [Sort.scanSorted]
 have hl' : lt d[p + 1]! d[p + 1 - 1]! = false := hl
 rw [hl', if_pos (by simp [h])]
theorem scan_end {b i p : Nat} {d : Array Int} (hp : i = p + 1) (h : ¬ i < b ∨ lt (at_ d i) (at_ d p) = true) : Sort.scanSorted lt d b i = i := by
 subst hp
 rw [Sort.scanSorted]
 rcases h with h | h
 ·rw [if_neg (by simp [h])]
 ·have hl' : lt d[p + 1]! d[p + 1 - 1]! = true := h
  rw [hl', if_neg (by simp)]
theorem down_zero (d : Array Int) : Sort.shiftDown lt 0 d = d := by rw [Sort.shiftDown]
theorem down_step {j p : Nat} {d : Array Int} (hp : j = p + 1) : Sort.shiftDown lt j d = if lt (at_ d j) (at_ d p) = true then Sort.shiftDown lt p (Sort.swp d j p) else d := by
 subst hp
 rw [Sort.shiftDown]
 by_cases h : lt (at_ d (p + 1)) (at_ d p) = true
 ·have h' : lt d[p + 1]! d[p]! = true := h
  rw [if_pos h, h']; rfl
 ·have h' : lt d[p + 1]! d[p]! = false := Bool.eq_false_iff.2 h
  rw [if_neg h, h']; rfl
theorem up_end {b j : Nat} {d : Array Int} (h : ¬ j < b) : Sort.shiftUp lt b j d = d := by rw [Sort.shiftUp, if_neg h]
theorem up_step {b j p : Nat} {d : Array Int} (h : j < b) (hp : j = p + 1) : Sort.shiftUp lt b j d = if lt (at_ d j) (at_ d p) = true then Sort.shiftUp lt b (j + 1) (Sort.swp d j p) else d := by
 subst hp
 rw [Sort.shiftUp, if_pos h]
 by_cases h : lt (at_ d (p + 1)) (at_ d p) = true
 ·have h' : lt d[p + 1]! d[p + 1 - 1]! = true := h
  rw [if_pos h, h']; rfl
 ·have h' : lt d[p + 1]! d[p + 1 - 1]! = false := Bool.eq_false_iff.2 h
  rw [if_neg h, h']; rfl
end
section
variable (p : Int → Bool)
theorem su_go {j i : Nat} {d : Array Int} (h : i ≤ j) (hp : p (at_ d i) = true) : Sort.scanUp p d j (i + 1) = Sort.scanUp p d j i := by
 conv => rhs; rw [Sort.scanUp]
 have hp' : p d[i]! = true := hp
 rw [hp', if_pos (by simp [h])]
theorem su_end {j i : Nat} {d : Array Int} (h : ¬ i ≤ j ∨ p (at_ d i) = false) : Sort.scanUp p d j i = i := by
 rw [Sort.scanUp]
 rcases h with h | h
 ·rw [if_neg (by simp [h])]
 ·have hp' : p d[i]! = false := h
  rw [hp', if_neg (by simp)]
theorem sd_go {j i k : Nat} {d : Array Int} (h : i ≤ j) (hk : j = k + 1) (hp : p (at_ d j) = true) : Sort.scanDown p d i k = Sort.scanDown p d i j := by
 subst hk
 conv => rhs; rw [Sort.scanDown]
 have hp' : p d[k + 1]! = true := hp
 rw [hp', if_pos (by simp [h])]
theorem sd_end {j i : Nat} {d : Array Int} (h : ¬ i ≤ j ∨ p (at_ d j) = false) : Sort.scanDown p d i j = j := by
 cases j with
 | zero => rw [Sort.scanDown]
 | succ k =>
  rw [Sort.scanDown]
  rcases h with h | h
  ·rw [if_neg (by simp [h])]
  ·have hp' : p d[k + 1]! = false := h
   rw [hp', if_neg (by simp)]
end
theorem with_tail {T G : Prop} (h1 : T → G) (h2 : T) : G := h1 h2
end Pk
namespace Pk
open Go

def overC (c : Array Value) : Nat → List Value → Array Value
 | _, [] => c
 | o, v :: r => overC (c.setIfInBounds o v) (o + 1) r
theorem overC_size : ∀ (vs : List Value) (c : Array Value) (o : Nat), (overC c o vs).size = c.size
 | [], _, _ => rfl
 | _ :: r, c, o => by rw [overC, overC_size r]; simp
theorem overC_get : ∀ (vs : List Value) (c : Array Value) (o j : Nat), o + vs.length ≤ c.size → (overC c o vs)[j]? = if o ≤ j ∧ j < o + vs.length then vs[j - o]? else c[j]?
 | [], c, o, j, _ => by
  have : ¬ (o ≤ j ∧ j < o + ([] : List Value).length) := by simp only [List.length_nil, Nat.add_zero]; omega
  rw [if_neg this]; rfl
 | v :: r, c, o, j, h => by
  have h' : o + 1 + r.length ≤ c.size := by simp at h; omega
  rw [overC, overC_get r _ (o + 1) j (by simpa using h')]
  by_cases h1 : j = o
  ·subst h1
   rw [if_neg (by omega), if_pos (by simp)]
   have : j < c.size := by omega
   simp [this]
  ·by_cases h2 : o + 1 ≤ j ∧ j < o + 1 + r.length
   ·rw [if_pos h2, if_pos (by simp; omega)]
    have : j - o = j - (o + 1) + 1 := by omega
    rw [this]; rfl
   ·rw [if_neg h2, if_neg (by simp; omega)]
    rw [Array.getElem?_setIfInBounds_ne (Ne.symm h1)]
theorem heap_over : ∀ (vs : List Value) (w : World) (b o : Nat) (c : Array Value) (t : TypeId) (fr : Nat × Nat), w.heap[b]? = some (.cells c t fr) → (w.setCells b o vs).heap[b]? = some (.cells (overC c o vs) t fr)
 | [], _, _, _, _, _, _, h => h
 | v :: r, w, b, o, c, t, fr, h => by
  show ((w.setCell ⟨b, o, none⟩ v).setCells b (o + 1) r).heap[b]? = _
  refine heap_over r _ b (o + 1) (c.setIfInBounds o v) t fr ?_
  have hlt : b < w.heap.size := (Array.getElem?_eq_some_iff.1 h).1
  unfold World.setCell
  simp only [Array.getElem?_modify, if_pos]
  rw [h]
  rfl
theorem heap_over_other (vs : List Value) (w : World) (g o : Nat) {i : Nat} (hi : i < w.heap.size) (hne : i ≠ g) : (w.setCells g o vs).heap[i]? = w.heap[i]? := World.heap_setCells_other w g o vs hi hne
theorem over_size (w : World) (g o : Nat) : ∀ (vs : List Value), (w.setCells g o vs).heap.size = w.heap.size := by
 intro vs
 induction vs generalizing w o with
 | nil => rfl
 | cons v r ih => show ((w.setCell ⟨g, o, none⟩ v).setCells g (o + 1) r).heap.size = _; rw [ih]; simp
theorem over_tape (w : World) (g o : Nat) : ∀ (vs : List Value), (w.setCells g o vs).tape = w.tape := by
 intro vs
 induction vs generalizing w o with
 | nil => rfl
 | cons v r ih => show ((w.setCell ⟨g, o, none⟩ v).setCells g (o + 1) r).tape = _; rw [ih]; rfl

def Ch (base : Nat) (e : TypeId) (s : Nat) (Z : List Value) (W : World) (v : Value) (n : Nat) : Prop := W.ownsRow base e s v n (Z.take (n * s)) ∧ (n = 0 → slC v = 0)
structure Kc (base : Nat) (X : Nat → Bool) (e : TypeId) (s : Nat) (Z : List Value) (a b : World) : Prop where
 old : Agr (fun k => k < base ∧ X k = false) a b
 one : ∀ g, base ≤ g → ∀ c t fr, a.heap[g]? = some (.cells c t fr) → c.size ≤ s → b.heap[g]? = some (.cells c t fr)
 row : ∀ v n, n * s ≤ Z.length → Ch base e s Z a v n → Ch base e s Z b v n
variable {base : Nat} {X : Nat → Bool} {e : TypeId} {s : Nat} {Z : List Value}
theorem Kc.refl (a : World) : Kc base X e s Z a a := ⟨Agr.refl _ _, fun _ _ _ _ _ h _ => h, fun _ _ _ h => h⟩
theorem Kc.trans {a b c : World} (h : Kc base X e s Z a b) (k : Kc base X e s Z b c) : Kc base X e s Z a c :=
 ⟨h.old.trans k.old, fun g hg c t fr h1 h2 => k.one g hg c t fr (h.one g hg c t fr h1 h2) h2, fun v n hn hr => k.row v n hn (h.row v n hn hr)⟩
theorem Kc.of_ext {a b : World} (h : Ext a b) : Kc base X e s Z a b :=
 ⟨h.agr, fun g _ c t fr h1 _ => h.obj h1, fun v n _ hr => ⟨own_ext hr.1 h, hr.2⟩⟩
theorem Ch.start (W : World) (hb : base ≤ W.heap.size) : Ch base e s Z (W.alloc (.cells #[] e (0, 0))) (.slice (some ⟨W.heap.size, 0, none⟩) 0 0) 0 :=
 ⟨⟨by simp, .inr ⟨W.heap.size, 0, #[], rfl, hb, World.alloc_heap_new W _, Nat.le_refl _, by simp [maxLen], by simp, by simp⟩⟩, fun _ => rfl⟩
theorem Ch.nil (W : World) : Ch base e s Z W (.slice none 0 0) 0 := ⟨by simpa using World.ownsRow_nil W base e s, fun _ => rfl⟩
theorem Ch.append {P : Program} {w : World} {t ty : TypeId} {v : Value} {n : Nat} {v2 : Value} {m : Nat} {ys : List Value} (hs : isS (P.underlying t) = true) (he : elemT (P.underlying t) = e) (hi : elOk (P.info? e) s = true)
  (hc : Ch base e s Z w v n) (h2 : Sl w s v2 m ys) (h1 : ∀ u ∈ ys, u.oneCell' = true) (hy : Z.take ((n + m) * s) = Z.take (n * s) ++ ys) (hZ : (n + m) * s ≤ Z.length) (hb : (n + m) ≤ 1048576) (hbase : base ≤ w.heap.size) :
  ∃ v' w', (Builtin.append_ #[t, t] ty #[v, v2]).run P w = .ok v' w' ∧ Ch base e s Z w' v' (n + m) ∧ Kc base X e s Z w w' := by
 obtain ⟨v', w', hr, ho, hM, hnew⟩ := append_own (P := P) (t := t) (ty := ty) hs he hi hc.1 h2 h1 hb hbase
 rw [← hy] at ho
 obtain ⟨⟨i, z, hi1, hi2, hi3, hi4, hi5⟩, hsz⟩ := elOk_inv hi
 have hel := elemT_of (P := P) hs
 rw [he] at hel
 have hsrc := h2.src (P := P) hs h1
 rw [← hi3] at hsrc
 by_cases hm : m = 0
 ·subst hm
  have hys : ys = [] := List.eq_nil_of_length_eq_zero (by simpa using h2.len)
  have hr2 : (Builtin.append_ #[t, t] ty #[v, v2]).run P w = .ok v w := by
   rcases hc.1.2 with ⟨rfl, rfl⟩ | ⟨g, cap, cur, rfl, hg0, hg, hc', _⟩
   ·exact run_append_nothing w t t ty (P.elem t) i (elem_of hs) (hel ▸ hi1) none 0 0 (by omega) v2 (hys ▸ hsrc)
   ·exact run_append_nothing w t t ty (P.elem t) i (elem_of hs) (hel ▸ hi1) _ n cap hc' v2 (hys ▸ hsrc)
  rw [hr] at hr2
  cases hr2
  exact ⟨_, _, hr, ⟨ho, fun h0 => hc.2 (by omega)⟩, Kc.refl _⟩
 ·refine ⟨v', w', hr, ⟨ho, fun h0 => by omega⟩, ?_⟩
  by_cases hin : slN v' = false ∧ slN v = false ∧ slB v' = slB v ∧ ¬ w.heap.size ≤ slB v'
  ·-- in its place
   obtain ⟨_, hnv, hsb, hlt0⟩ := hin
   rcases hc.1.2 with ⟨rfl, -⟩ | ⟨g, cap, cur, rfl, hg0, hg, hc', hcm, hcs, htk⟩
   ·cases hnv
   ·by_cases hroom : n + m ≤ cap
    ·have hn0 : n ≠ 0 := fun h0 => by have := hc.2 h0; simp only [slC] at this; omega
     have hlt : ∀ j, j < ys.length → n * i.size + j < cur.size := by
      intro j hj
      rw [h2.len] at hj
      rw [hcs, hi3]
      have : (n + m) * s ≤ cap * s := Nat.mul_le_mul_right _ hroom
      rw [Nat.add_mul] at this
      omega
     have hr2 := run_append_room_src (P := P) w t t ty (P.elem t) i (elem_of hs) (hel ▸ hi1) g 0 n cap v2 m ys hsrc hroom (fun j hj => by
      rw [cell_of_row w g _ cur e (0, 0) hg]
      simp; simpa using hlt j hj) (fun j hj => by simp [World.frozen?, hg])
     rw [hr] at hr2
     cases hr2
     rw [Nat.zero_add, hi3]
     have hgl : g < w.heap.size := (Array.getElem?_eq_some_iff.1 hg).1
     have hle : n * s + ys.length ≤ cur.size := by
      rw [h2.len, hcs]
      have : (n + m) * s ≤ cap * s := Nat.mul_le_mul_right _ hroom
      rw [Nat.add_mul] at this
      omega
     have hnew := heap_over ys w g (n * s) cur e (0, 0) hg
     refine ⟨⟨World.os_setCells _ _ _ _, over_tape _ _ _ _, World.output_setCells _ _ _ _, by rw [over_size]; exact Nat.le_refl _, fun b hb hbb => heap_over_other _ _ _ _ hb (by have := hbb.1; omega)⟩, ?_, ?_⟩
     ·intro g' hg' c t' fr h1' h2'
      by_cases hgg : g' = g
      ·subst hgg
       rw [hg] at h1'; cases h1'
       have : 2 * s ≤ cap * s := Nat.mul_le_mul_right _ (by omega)
       omega
      ·rw [heap_over_other _ _ _ _ (Array.getElem?_eq_some_iff.1 h1').1 hgg]; exact h1'
     ·rintro v1 n1 hn1 ⟨⟨a1, a2⟩, a3⟩
      refine ⟨⟨a1, ?_⟩, a3⟩
      rcases a2 with a2 | ⟨g1, cap1, cur1, rfl, b1, b2, b3, b4, b5, b6⟩
      ·exact .inl a2
      ·by_cases hgg : g1 = g
       ·subst hgg
        rw [hg] at b2; cases b2
        refine .inr ⟨g1, cap1, _, rfl, b1, hnew, b3, b4, by rw [overC_size]; exact b5, ?_⟩
        apply List.ext_getElem?
        intro j
        rw [List.getElem?_take, List.getElem?_take]
        by_cases hj : j < n1 * s
        ·rw [if_pos hj, if_pos hj, Array.getElem?_toList, overC_get _ _ _ _ hle]
         by_cases hjj : n * s ≤ j ∧ j < n * s + ys.length
         ·rw [if_pos hjj]
          have hZ' : (Z.take ((n + m) * s))[j]? = Z[j]? := by
           rw [List.getElem?_take, if_pos]
           rw [Nat.add_mul, ← h2.len]; exact hjj.2
          rw [← hZ', hy, List.getElem?_append_right (by rw [List.length_take]; omega)]
          have : (Z.take (n * s)).length = n * s := by rw [List.length_take]; rw [Nat.add_mul] at hZ; omega
          rw [this]
         ·rw [if_neg hjj]
          have := congrArg (fun l => l[j]?) b6
          simp only [List.getElem?_take, if_pos hj, Array.getElem?_toList] at this
          exact this
        ·rw [if_neg hj, if_neg hj]
       ·exact .inr ⟨g1, cap1, cur1, rfl, b1, by rw [heap_over_other _ _ _ _ (Array.getElem?_eq_some_iff.1 b2).1 hgg]; exact b2, b3, b4, b5, b6⟩
    ·-- a new row: it lies behind
     exfalso
     have hold : (Builtin.firstCells i.size n (.slice (some ⟨g, 0, none⟩) n cap)).run P w.drew = .ok (Z.take (n * s)).toArray w.drew :=
      run_firstCells_some w.drew i.size n ⟨g, 0, none⟩ n cap _ (by rw [hi3]; exact hc.1.1) (fun j u hj => by simpa using hc.1.cells (g := g) rfl j u hj)
     have hfit : Builtin.nextslicecap (n + m) cap * i.bytes ≤ 281474976710656 := growslice_fits (by omega) (by have := Nat.mul_le_mul hb hi5; omega)
     have hr2 := run_append_grow_src (P := P) w t t ty (P.elem t) i z (elem_of hs) (hel ▸ hi1) hi2 (some ⟨g, 0, none⟩) n cap _ hold v2 m ys hsrc (by omega) (by omega) hfit
     rw [hr] at hr2
     cases hr2
     exact hlt0 (Nat.le_refl _)
  ·-- a new row
   have hE : Ext w w' := by
    have grow : ∀ (a : Option Addr) (cap : Nat) (olds : List Value), v = .slice a n cap → cap < n + m → (Builtin.firstCells i.size n (.slice a n cap)).run P w.drew = .ok olds.toArray w.drew → Ext w w' := by
     intro a cap olds hv hcap hold
     have hfit : Builtin.nextslicecap (n + m) cap * i.bytes ≤ 281474976710656 := growslice_fits (by omega) (by have := Nat.mul_le_mul hb hi5; omega)
     have hr2 := run_append_grow_src (P := P) w t t ty (P.elem t) i z (elem_of hs) (hel ▸ hi1) hi2 a n cap olds hold v2 m ys hsrc hcap (by omega) hfit
     rw [hv, hr2] at hr
     cases hr
     exact ⟨rfl, rfl, rfl, by simp, fun k hk => Go.RowKit.Below.heap_alloc _ _ _ (by simpa using hk)⟩
    rcases hc.1.2 with ⟨rfl, rfl⟩ | ⟨g, cap, cur, rfl, hg0, hg, hc', hcm, hcs, htk⟩
    ·exact grow none 0 [] rfl (by omega) (run_firstCells_none _ _ _ _ _)
    ·by_cases hroom : n + m ≤ cap
     ·exfalso
      have hlt : ∀ j, j < ys.length → n * i.size + j < cur.size := by
       intro j hj
       rw [h2.len] at hj
       rw [hcs, hi3]
       have : (n + m) * s ≤ cap * s := Nat.mul_le_mul_right _ hroom
       rw [Nat.add_mul] at this
       omega
      have hr2 := run_append_room_src (P := P) w t t ty (P.elem t) i (elem_of hs) (hel ▸ hi1) g 0 n cap v2 m ys hsrc hroom (fun j hj => by
       rw [cell_of_row w g _ cur e (0, 0) hg]
       simp; simpa using hlt j hj) (fun j hj => by simp [World.frozen?, hg])
      rw [hr] at hr2
      cases hr2
      exact hin ⟨rfl, rfl, rfl, by have := (Array.getElem?_eq_some_iff.1 hg).1; simp only [slB]; omega⟩
     ·exact grow _ cap _ rfl (by omega) (run_firstCells_some w.drew i.size n ⟨g, 0, none⟩ n cap _ (by rw [hi3]; exact hc.1.1) (fun j u hj => by simpa using hc.1.cells (g := g) rfl j u hj))
   exact Kc.of_ext hE
end Pk
