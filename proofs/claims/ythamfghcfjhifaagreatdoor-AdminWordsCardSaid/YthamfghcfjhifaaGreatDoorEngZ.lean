/-
  The engine, part Z: parts of a row of one's own; an append that finds room; cells cleared.
-/
import Derived.Test.YthamfghcfjhifaaGreatDoorEngY
import Derived.Laws.IdiomCopy
namespace Pk
open Go
theorem prod_eta {α β : Type} (p : α × β) : (p.1, p.2) = p := rfl
theorem agr_any {w w' : World} (h : Mod (fun _ => True) w w') : Agr (fun _ => true = false) w w' := h.agr fun _ hi => by cases hi
theorem Mod.setC {a w : World} {b : Nat} (h : Mod (fun k => k = b) a w) (i : Nat) (v : Value) : Mod (fun k => k = b) a (w.setCell ⟨b, i, none⟩ v) := h.setCell _ _ (.inl rfl)
theorem Mod.any {w w' : World} (h : Mod (fun _ => True) w w') (p : Addr) (v : Value) : Mod (fun _ => True) w (w'.setCell p v) := h.setCell p v (.inl trivial)
section
variable {P : Program} {t : TypeId}
theorem sl_lh (hs : isS (P.underlying t) = true) (a : Option Addr) (n c : Nat) (k k' : IntKind) (l h : Int) (h0 : 0 ≤ l) (h1 : l ≤ h) (h2 : h ≤ c) (W : World) :
    (Instr.sliceAt t (.slice a n c) (some (.int k l)) (some (.int k' h)) none).run P W = ((Go.sizeOf (elemT (P.underlying t))).run P W).andThen fun s w => .ok (sliced a l.toNat h.toNat c s) w := by
  rw [run_sliceAt_slice W t _ _ _ _ (elem_of hs), elemT_of hs, run_slice_lh W t a n c (elem_of hs) k k' l h h0 h1 h2]
theorem sl_l (hs : isS (P.underlying t) = true) (a : Option Addr) (n c : Nat) (k : IntKind) (l : Int) (h0 : 0 ≤ l) (h1 : l ≤ n) (W : World) :
    (Instr.sliceAt t (.slice a n c) (some (.int k l)) none none).run P W = ((Go.sizeOf (elemT (P.underlying t))).run P W).andThen fun s w => .ok (sliced a l.toNat n c s) w := by
  rw [run_sliceAt_slice W t _ _ _ _ (elem_of hs), elemT_of hs, run_slice_l W t a n c (elem_of hs) k l h0 h1]
theorem sl_lhm (hs : isS (P.underlying t) = true) (a : Option Addr) (n c : Nat) (k k' k'' : IntKind) (l h m : Int) (h0 : 0 ≤ l) (h1 : l ≤ h) (h2 : h ≤ m) (h3 : m ≤ c) (W : World) :
    (Instr.sliceAt t (.slice a n c) (some (.int k l)) (some (.int k' h)) (some (.int k'' m))).run P W = ((Go.sizeOf (elemT (P.underlying t))).run P W).andThen fun s w => .ok (sliced a l.toNat h.toNat m.toNat s) w := by
  rw [run_sliceAt_slice W t _ _ _ _ (elem_of hs), elemT_of hs, run_slice_lhm W t a n c (elem_of hs) k k' k'' l h m h0 h1 h2 h3]
end
/-- The first few of a row of one's own. -/
theorem own_take {w : World} {base e s g n cap : Nat} {xs : List Value} (h : w.ownsRow base e s (.slice (some ⟨g, 0, none⟩) n cap) n xs) (i : Nat) (hi : i ≤ n) : w.ownsRow base e s (.slice (some ⟨g, 0, none⟩) i cap) i (xs.take (i * s)) := by
  obtain ⟨h1, h2⟩ := h
  rcases h2 with ⟨h2, _⟩ | ⟨g', cap', cur, h2, a1, a2, a3, a4, a5, a6⟩
  · cases h2
  · cases h2
    have hm : i * s ≤ n * s := Nat.mul_le_mul_right _ hi
    refine ⟨by rw [List.length_take]; omega, .inr ⟨g, cap, cur, rfl, a1, a2, by omega, a4, a5, ?_⟩⟩
    rw [← a6, List.take_take, Nat.min_eq_left hm]
/-- What stands behind the first few can be read. -/
theorem own_drop {w : World} {base e s g n cap : Nat} {xs : List Value} (h : w.ownsRow base e s (.slice (some ⟨g, 0, none⟩) n cap) n xs) (i : Nat) (hi : i ≤ n) : Sl w s (sliced (some ⟨g, 0, none⟩) i n cap s) (n - i) (xs.drop (i * s)) := by
  have hS := sl_of_own h
  obtain ⟨h1, h2⟩ := h
  rcases h2 with ⟨h2, _⟩ | ⟨g', cap', cur, h2, a1, a2, a3, a4, a5, a6⟩
  · cases h2
  · cases h2
    have hm : i * s ≤ n * s := Nat.mul_le_mul_right _ hi
    refine ⟨by rw [List.length_drop, h1, Nat.sub_mul], .inr ?_, ?_⟩
    · unfold sliced
      split
      · exact ⟨g, 0, _, rfl, by omega⟩
      · exact ⟨g, 0 + i * s, cap - i, by simp, by omega⟩
    · intro j u hj
      rw [List.getElem?_drop] at hj
      have hc := hS.at_ _ u hj
      simp only [slB, slO, Nat.zero_add] at hc
      by_cases hci : cap = i
      · have hlt := (List.getElem?_eq_some_iff.1 hj).1
        have : n = i := by omega
        subst this
        omega
      · have : sliced (some ⟨g, 0, none⟩) i n cap s = .slice (some ⟨g, 0 + i * s, none⟩) (n - i) (cap - i) := by
          unfold sliced; rw [if_neg hci]; simp
        rw [this]
        simpa [slB, slO] using hc
/-- An append to a row of one's own that has room. -/
theorem append_room {P : Program} {w : World} {base s : Nat} {t ty : TypeId} {n cap g : Nat} {xs : List Value} {v2 : Value} {m : Nat} {ys : List Value} {e : TypeId} (hs : isS (P.underlying t) = true) (he : elemT (P.underlying t) = e) (hi : elOk (P.info? e) s = true)
    (hown : w.ownsRow base e s (.slice (some ⟨g, 0, none⟩) n cap) n xs) (h2 : Sl w s v2 m ys) (h1 : ∀ u ∈ ys, u.oneCell' = true) (hb : (n + m) ≤ 1048576) (hbase : base ≤ w.heap.size) (hroom : n + m ≤ cap) :
    ∃ w', (Builtin.append_ #[t, t] ty #[.slice (some ⟨g, 0, none⟩) n cap, v2]).run P w = .ok (.slice (some ⟨g, 0, none⟩) (n + m) cap) w' ∧ w'.ownsRow base e s (.slice (some ⟨g, 0, none⟩) (n + m) cap) (n + m) (xs ++ ys) ∧ Mod (· = g) w w' ∧ w'.heap.size = w.heap.size := by
  obtain ⟨v', w', hr, ho, hM, -⟩ := append_own (ty := ty) hs he hi hown h2 h1 hb hbase
  obtain ⟨⟨i, z, hi1, hi2, hi3, hi4, hi5⟩, hsz⟩ := elOk_inv hi
  have hel := elemT_of (P := P) hs
  rw [he] at hel
  subst hel
  have hM' : Mod (· = g) w w' := hM.weaken fun k hk => hk.2
  have hsrc := h2.src (P := P) hs h1
  rw [← hi3] at hsrc
  rcases hown.2 with ⟨hc, _⟩ | ⟨g', cap', cur, hc, hbg, hgg, hnc, hcm, hcs, htake⟩
  · cases hc
  · cases hc
    have hlt : ∀ j, j < ys.length → n * i.size + j < cur.size := by
      intro j hj
      rw [h2.len] at hj
      rw [hcs, hi3]
      have : (n + m) * s ≤ cap * s := Nat.mul_le_mul_right _ hroom
      rw [Nat.add_mul] at this
      omega
    have hr2 := run_append_room_src (P := P) w t t ty (P.elem t) i (elem_of hs) hi1 g 0 n cap _ m ys hsrc hroom (fun j hj => by
      rw [cell_of_row w g _ cur (P.elem t) (0, 0) hgg]
      simp; simpa using hlt j hj) (fun j hj => by simp [World.frozen?, hgg])
    rw [hr] at hr2
    cases hr2
    exact ⟨_, hr, ho, hM', over_size _ _ _ _⟩
theorem mod_setCells (w : World) (g o : Nat) (vs : List Value) : Mod (· = g) w (w.setCells g o vs) := by
  refine ⟨?_, over_tape w g o vs, ?_, by rw [over_size]; exact Nat.le_refl _, fun b hb hs => heap_over_other vs w g o hb hs⟩
  · induction vs generalizing w o with
    | nil => rfl
    | cons v r ih => show ((w.setCell ⟨g, o, none⟩ v).setCells g (o + 1) r).os = _; rw [ih]; rfl
  · induction vs generalizing w o with
    | nil => rfl
    | cons v r ih => show ((w.setCell ⟨g, o, none⟩ v).setCells g (o + 1) r).output = _; rw [ih]; rfl
/-- What is written behind a row of one's own leaves it. -/
theorem own_behind {w : World} {base e s g n cap o : Nat} {xs vs : List Value} (h : w.ownsRow base e s (.slice (some ⟨g, 0, none⟩) n cap) n xs) (ho : n * s ≤ o) (hv : o + vs.length ≤ cap * s) : (w.setCells g o vs).ownsRow base e s (.slice (some ⟨g, 0, none⟩) n cap) n xs := by
  obtain ⟨h1, h2⟩ := h
  rcases h2 with ⟨h2, _⟩ | ⟨g', cap', cur, h2, a1, a2, a3, a4, a5, a6⟩
  · cases h2
  · cases h2
    refine ⟨h1, .inr ⟨g, cap, overC cur o vs, rfl, a1, heap_over vs w g o cur e (0, 0) a2, a3, a4, by rw [overC_size]; exact a5, ?_⟩⟩
    rw [← a6]
    apply List.ext_getElem?
    intro k
    simp only [List.getElem?_take, Array.getElem?_toList]
    by_cases hk : k < n * s
    · rw [if_pos hk, if_pos hk, overC_get _ _ _ _ (by omega), if_neg (by omega)]
    · rw [if_neg hk, if_neg hk]
/-- The last one behind a row, cleared. -/
theorem clear_tail {P : Program} {w : World} {base s : Nat} {t ty : TypeId} {n cap g : Nat} {xs : List Value} {e : TypeId} {z : Value} (hs : isS (P.underlying t) = true) (he : elemT (P.underlying t) = e) (hz : (zeroValue e).run P w = .ok z w) (hzs : z.cells.size = s) (h0 : 0 < s) (hz1 : ∀ u ∈ z.cells.toList, u.oneCell' = true)
    (hown : w.ownsRow base e s (.slice (some ⟨g, 0, none⟩) n cap) n xs) (hc : n < cap) :
    ∃ w', (Builtin.clear_ #[t] ty #[sliced (some ⟨g, 0, none⟩) n (n + 1) cap s]).run P w = .ok (.tuple #[]) w' ∧ w'.ownsRow base e s (.slice (some ⟨g, 0, none⟩) n cap) n xs ∧ Mod (· = g) w w' ∧ w'.heap.size = w.heap.size := by
  have hel := isS_inv hs
  rw [he] at hel
  have hu := run_und hel w
  have hsl : sliced (some ⟨g, 0, none⟩) n (n + 1) cap s = .slice (some ⟨g, n * s, none⟩) 1 (cap - n) := by
    unfold sliced; rw [if_neg (by omega)]; simp
  have hz2 : (Builtin.zeroCells z.cells 1).toList = z.cells.toList := by
    unfold Builtin.zeroCells
    apply List.ext_getElem?
    intro k
    simp only [Nat.one_mul, Array.toList_map, List.getElem?_map, Array.getElem?_toList, Array.getElem?_range]
    by_cases hk : k < z.cells.size
    · simp [-Value.cells, hk, Nat.mod_eq_of_lt hk]
    · simp [-Value.cells, hk]
  have hlen : z.cells.toList.length = s := by simpa using hzs
  have hms : n * s + s ≤ cap * s := by
    have : (n + 1) * s ≤ cap * s := Nat.mul_le_mul_right _ (by omega)
    rwa [Nat.add_mul, Nat.one_mul] at this
  obtain ⟨a1, a2⟩ := id hown
  rcases a2 with ⟨a2, _⟩ | ⟨g', cap', cur, a2, b1, b2, b3, b4, b5, b6⟩
  · cases a2
  · cases a2
    have hst := run_storeCells_cells (P := P) g (n * s) z.cells.toList 0 w (fun j hj => by
        have : n * s + 0 + j < cur.size := by omega
        simp [World.cell?, b2]; omega) (fun j hj => by simp [World.frozen?, b2]) hz1
    simp only [Nat.add_zero] at hst
    refine ⟨w.setCells g (n * s) z.cells.toList, ?_, own_behind hown (Nat.le_refl _) (by omega), mod_setCells _ _ _ _, over_size _ _ _ _⟩
    rw [hsl]
    simp [-Value.cells, Builtin.clear_, hu, hz, hz2, hst]
/-- An element of an array's value. -/
theorem r_index_arr {P : Program} {t e : TypeId} {n s : Nat} {m : Nat} {l : List CK} (h : P.underlying t = some (.array n e)) (w : World) (hs : (Go.sizeOf e).run P w = .ok s w) (hf : flatQ P m e = some l) (hc : P.cellsOf e = l.length) (cs : Array Value) (k : IntKind) (i : Int)
    (h0 : 0 ≤ i) (h1 : i < n) (hx : i.toNat * s + l.length ≤ cs.size) : (Instr.index t (.agg cs) (.int k i)).run P w = .ok (mkV P e ((cs.toList.drop (i.toNat * s)).take l.length)) w := by
  have hu := run_und h w
  have hp := run_part_flat w hf hc cs (i.toNat * s) hx
  simp [Instr.index, hu, h0, h1, hs, hp]
end Pk
