/-
  Contracts of the functions that the law reaches, step by step.
-/
import Derived.Test.YthamfghcfjhifaaGreatDoorOpA
import Derived.Test.YthamfghcfjhifaaGreatDoorAgT
namespace Go.Proofs
open Go.ChangeShapes Go.WideShapes Go.ChangeAt Go.RowKit Go.Deep Pk
set_option maxRecDepth 10000
/-- A measure of what is read, by its parts. -/
structure Bulk {H : Type} (bulk : DataW H → Nat) : Prop where
  int : ∀ k n, 1 ≤ bulk (.lit (.int k n))
  str : ∀ b, b.length + 1 ≤ bulk (.lit (.string b))
  nil : 1 ≤ bulk .nil
  slice : ∀ e s, (e.map bulk).sum + 1 ≤ bulk (.slice e s)
  agg : ∀ e, (e.map bulk).sum + 1 ≤ bulk (.agg e)
theorem sum_ge {α : Type} (f : Nat → Nat) : ∀ (E : List α) (g : α → Nat), (∀ i x, E[i]? = some x → f i ≤ g x) → ((List.range E.length).map f).sum ≤ (E.map g).sum := by
  intro E g h
  have : ∀ n, n ≤ E.length → ((List.range n).map f).sum ≤ ((E.take n).map g).sum := by
    intro n
    induction n with
    | zero => intro _; simp
    | succ n ih =>
      intro hn
      have h1 := ih (by omega)
      have h2 := h n E[n] (List.getElem?_eq_getElem (by omega))
      rw [List.range_succ, List.map_append, List.sum_append, List.take_add_one, List.getElem?_eq_getElem (by omega)]
      simp only [Option.toList_some, List.map_append, List.sum_append, List.map_cons, List.map_nil, List.sum_cons, List.sum_nil]
      omega
  have := this E.length (Nat.le_refl _)
  rwa [List.take_length] at this
section
variable {H : Type} {enc : TypeId × Value → H} {P : Program}
theorem open_rawS {bulk : DataW H → Nat} (hB : Bulk bulk) {W : World} {x : DataW H × List MemPlace} {fuel : Nat} {cs : List Value} {t e : TypeId} {z : Nat} (ht : P.underlying t = some (.slice e)) (hc : P.cellsOf e = z) (h0 : 0 < z)
    (hf : DataW.trod enc P W 0 (fun _ => true) true fuel t cs = some x) :
    ∃ (a : Option Addr) (len cap : Nat) (f : Nat → List Value) (E : List (DataW H)), cs = [.slice a len cap] ∧ len ≤ maxLen ∧ SlB W z (.slice a len cap) len ((List.range len).flatMap f) ∧ E.length = len ∧ (E.map bulk).sum + 1 ≤ bulk x.1 ∧ ∀ i, i < len → (f i).length = z ∧ ∃ n y, n < fuel ∧ DataW.trod enc P W 0 (fun _ => true) true n e (f i) = some y ∧ E[i]? = some y.1 := by
  obtain ⟨a, len, cap, f, hcs, hle, hS, hall⟩ := open_rawG ht hc h0 hf
  rcases DataW.trod_slice ht hf with ⟨h1, rfl⟩ | ⟨a', len', cap', elems, rest, n, hn, h1, rfl, hb, hle', hm, hlen, hel, -, -⟩
  · rw [hcs] at h1
    simp only [List.cons.injEq, Value.slice.injEq, and_true] at h1
    obtain ⟨rfl, rfl, rfl⟩ := h1
    exact ⟨_, _, _, f, [], hcs, hle, hS, rfl, by simpa using hB.nil, fun i hi => by omega⟩
  · rw [hcs] at h1
    simp only [List.cons.injEq, Value.slice.injEq, and_true] at h1
    obtain ⟨rfl, rfl, rfl⟩ := h1
    refine ⟨_, _, _, f, elems.map (·.1), hcs, hle, hS, by simpa using hlen, hB.slice _ _, fun i hi => ?_⟩
    obtain ⟨hfl, -⟩ := hall i hi
    have h2 := hel i hi
    rw [List.getElem?_eq_getElem (by omega)] at h2
    obtain ⟨cs', h3, h4⟩ := Option.bind_eq_some_iff.1 h2
    rw [hc] at h3
    obtain ⟨_, hl2, hcell⟩ := World.cells?_some h3
    have e : cs' = f i := by
      refine List.ext_getElem (by omega) fun j h5 h6 => ?_
      have h7 := hcell j (by omega)
      have hfm := flatMap_at (s := z) f len fun k hk => (hall k hk).1
      have h8 := hS.at_ (i * z + j) (f i)[j] (by
        rw [hfm.2 i j hi (by omega)]
        exact List.getElem?_eq_getElem h6)
      have ha : ∃ b o, a' = ⟨b, o, none⟩ := by
        obtain ⟨ao, c, hv, -, hh⟩ := hS.val
        cases hv
        obtain ⟨b, o, hbo⟩ := hh (by omega)
        cases hbo
        exact ⟨b, o, rfl⟩
      obtain ⟨b, o, rfl⟩ := ha
      rw [add_add] at h7
      simp only [add_mk, slB, slO] at h7 h8
      rw [h8] at h7
      have h9 := List.getElem?_eq_getElem h5
      rw [← h7] at h9
      exact (Option.some.inj h9).symm
    rw [e] at h4
    exact ⟨hfl, n, elems[i], by omega, h4, by rw [List.getElem?_map, List.getElem?_eq_getElem (by omega)]; rfl⟩
end
/-- An item that is given, and how much it holds. -/
theorem open_itemS {H : Type} {enc : TypeId × Value → H} {bulk : DataW H → Nat} (hB : Bulk bulk) {W : World} : ∀ (m fuel : Nat) (cs : List Value) (x : DataW H × List MemPlace), fuel ≤ m → DataW.trod enc Tryz.prog W 0 (fun _ => true) true fuel 51 cs = some x → ∃ t, ItC W t cs ∧ ItOk t ∧ szT t ≤ bulk x.1 := by
  intro m
  induction m with
  | zero =>
    intro fuel cs x hm h
    obtain rfl : fuel = 0 := by omega
    simp [DataW.trod] at h
  | succ m ih =>
    intro fuel cs x hm h
    obtain ⟨y0, y1, y2, y3, y4, n, hn, hl, h0, h1, h2, h3, h4⟩ := trod_struct5 Tryz.underlying51 h
    have hx1 : x.1 = .agg [y0.1, y1.1, y2.1, y3.1, y4.1] := by
      obtain ⟨xs, n', hn', hx, -, hlen, hf⟩ := DataW.trod_struct Tryz.underlying51 h
      obtain rfl : n' = n := by omega
      have e0 := h0.symm.trans (hf 0 _ rfl)
      have e1 := h1.symm.trans (hf 1 _ rfl)
      have e2 := h2.symm.trans (hf 2 _ rfl)
      have e3 := h3.symm.trans (hf 3 _ rfl)
      have e4 := h4.symm.trans (hf 4 _ rfl)
      have hlen' : xs.length = 5 := hlen
      match xs, hlen' with
      | [z0, z1, z2, z3, z4], _ =>
        simp at e0 e1 e2 e3 e4
        subst e0; subst e1; subst e2; subst e3; subst e4
        rw [hx]; rfl
    have k5 : Tryz.prog.cellsOf 51 = 5 := by kernel_rfl
    have k0 : Tryz.prog.cellsOf 49 = 1 := by kernel_rfl
    have k1 : Tryz.prog.cellsOf 26 = 1 := by kernel_rfl
    have k2 : Tryz.prog.cellsOf 31 = 1 := by kernel_rfl
    have k3 : Tryz.prog.cellsOf 9 = 1 := by kernel_rfl
    have k4 : Tryz.prog.cellsOf 48 = 1 := by kernel_rfl
    have kb : Tryz.prog.cellsOf 5 = 1 := by kernel_rfl
    rw [k5] at hl
    rcases cs with _ | ⟨c0, _ | ⟨c1, _ | ⟨c2, _ | ⟨c3, _ | ⟨c4, _ | _⟩⟩⟩⟩⟩ <;> simp at hl
    simp only [k0, k1, k2, k3, k4] at h0 h1 h2 h3 h4
    have h0' : DataW.trod enc Tryz.prog W 0 (fun _ => true) true n 49 [c0] = some y0 := h0
    have h1' : DataW.trod enc Tryz.prog W 0 (fun _ => true) true n 26 [c1] = some y1 := h1
    have h2' : DataW.trod enc Tryz.prog W 0 (fun _ => true) true n 31 [c2] = some y2 := h2
    have h3' : DataW.trod enc Tryz.prog W 0 (fun _ => true) true n 9 [c3] = some y3 := h3
    have h4' : DataW.trod enc Tryz.prog W 0 (fun _ => true) true n 48 [c4] = some y4 := h4
    obtain ⟨k, e0, d0, wk⟩ := DataW.trod_int Tryz.underlying49 h0'
    obtain ⟨nn, e1, d1, wn⟩ := DataW.trod_int Tryz.underlying26 h1'
    obtain ⟨s, e3, d3, -⟩ := DataW.trod_string Tryz.underlying9 h3'
    obtain ⟨a2, l2, p2, f2, E2, e2, hm2, hs2, hE2, hb2, hf2⟩ := open_rawS hB Tryz.underlying31 kb (by decide) h2'
    obtain ⟨a4, l4, p4, f4, E4, e4, hm4, hs4, hE4, hb4, hf4⟩ := open_rawS hB Tryz.underlying48 k5 (by decide) h4'
    simp only [List.cons.injEq, and_true] at e0 e1 e2 e3 e4
    subst e0; subst e1; subst e2; subst e3; subst e4
    have each2 : ∀ i, i < l2 → ∃ b : Int, f2 i = [u8 b] ∧ (0 ≤ b ∧ b ≤ 255) := fun i hi => by
      obtain ⟨-, n', y, -, h, -⟩ := hf2 i hi
      obtain ⟨b, e, -, w⟩ := DataW.trod_int Tryz.underlying5 h
      exact ⟨b, e, bounds_u8 w⟩
    obtain ⟨gb, hgb⟩ := choose_lt each2
    have each4 : ∀ i, i < l4 → ∃ t, ItC W t (f4 i) ∧ ItOk t ∧ ∃ d, E4[i]? = some d ∧ szT t ≤ bulk d := fun i hi => by
      obtain ⟨-, n', y, hlt, h, hE⟩ := hf4 i hi
      obtain ⟨t, h1, h2, h3⟩ := ih n' _ y (by omega) h
      exact ⟨t, h1, h2, _, hE, h3⟩
    obtain ⟨gi, hgi⟩ := choose_lt each4
    have hmx : maxLen = 9223372036854775807 := by decide
    have hsum2 : l2 ≤ (E2.map bulk).sum := by
      have := sum_ge (fun _ => 1) E2 bulk fun i d hd => by
        have hi := (List.getElem?_eq_some_iff.1 hd).1
        obtain ⟨-, n', y, -, h, hE⟩ := hf2 i (by omega)
        obtain ⟨b, -, e, -⟩ := DataW.trod_int Tryz.underlying5 h
        rw [hE] at hd
        cases hd
        rw [e]
        exact hB.int _ _
      have e : ((List.range E2.length).map fun _ => 1).sum = E2.length := by
        clear this
        induction E2.length with
        | zero => rfl
        | succ n ih => rw [List.range_succ, List.map_append, List.sum_append, ih]; rfl
      omega
    have hszL : ∀ n, n ≤ l4 → szL ((List.range n).map gi) = ((List.range n).map fun i => szT (gi i)).sum := by
      intro n
      induction n with
      | zero => intro _; simp [szL]
      | succ n ihn =>
        intro hn
        have happ : ∀ (a b : List It), szL (a ++ b) = szL a + szL b := by
          intro a b
          induction a with
          | nil => simp [szL]
          | cons x a iha => rw [List.cons_append, szL, szL, iha]; omega
        rw [List.range_succ, List.map_append, List.map_append, happ, List.sum_append, ihn (by omega)]
        simp [szL]
    have hsum4 : szL ((List.range l4).map gi) ≤ (E4.map bulk).sum := by
      rw [hszL l4 (Nat.le_refl _), ← hE4]
      refine sum_ge (fun i => szT (gi i)) E4 bulk fun i d hd => ?_
      have hi := (List.getElem?_eq_some_iff.1 hd).1
      obtain ⟨d', h1, h2⟩ := (hgi i (by omega)).2.2
      rw [h1] at hd
      cases hd
      exact h2
    refine ⟨.mk k nn ((List.range l2).map gb) s ((List.range l4).map gi), itC_mk.2 ⟨_, _, (List.range l4).map f4, rfl, ?_, ?_, ?_, by simp; omega, by simp; omega⟩, .mk _ _ _ _ _ (bounds_i64 wk) (bounds_u64 wn) (fun y hy => ?_) fun x hx => ?_, ?_⟩
    · have e : ((List.range l2).map gb).map u8 = (List.range l2).flatMap f2 := by
        rw [List.map_map, List.flatMap_def]
        have : (List.range l2).map f2 = (List.range l2).map fun i => [u8 (gb i)] := List.map_congr_left fun i hi => (hgb i (by simpa using hi)).1
        rw [this, ← List.flatMap_def]
        simp only [Function.comp_def]
        exact (List.map_eq_flatMap).trans rfl
      rw [e]
      simpa using hs2
    · rw [← List.flatMap_def]
      simpa using hs4
    · refine itCs_iff.2 ⟨by simp, fun i x c hx hc => ?_⟩
      simp only [List.getElem?_map] at hx hc
      obtain ⟨i1, h1, rfl⟩ := Option.map_eq_some_iff.1 hx
      obtain ⟨i2, h2, rfl⟩ := Option.map_eq_some_iff.1 hc
      rw [h1] at h2
      cases h2
      have hi := (List.getElem?_eq_some_iff.1 h1).1
      have he := (List.getElem?_eq_some_iff.1 h1).2
      simp at hi he
      subst he
      exact (hgi i hi).1
    · obtain ⟨i, hi, rfl⟩ := List.mem_map.1 hy
      exact (hgb i (by simpa using hi)).2
    · obtain ⟨i, hi, rfl⟩ := List.mem_map.1 hx
      exact (hgi i (by simpa using hi)).2.1
    · rw [szT, hx1]
      have ha := hB.agg [y0.1, y1.1, y2.1, y3.1, y4.1]
      simp only [List.map_cons, List.map_nil, List.sum_cons, List.sum_nil] at ha
      have b0 := hB.int .i64 k
      have b1 := hB.int .u64 nn
      have b3 := hB.str s.data.toList
      have hss : s.data.toList.length = s.size := (Lib.size_eq s).symm
      subst d0; subst d1; subst d3
      simp only [List.length_map, List.length_range] at ha ⊢
      omega
/-- Items that are given, and how much they hold. -/
theorem open_itemsS {H : Type} {enc : TypeId × Value → H} {bulk : DataW H → Nat} (hB : Bulk bulk) {W : World} {v : Value} {d : DataW H} {ps : List MemPlace} (h : DataW.Trod enc Tryz.prog W 0 (fun _ => true) true 48 v d ps) (hv : ∃ a n c, v = .slice a n c) :
    ∃ (l : List It) (css : List (List Value)), SlB W 5 v l.length css.flatten ∧ ItCs W l css ∧ (∀ x ∈ l, ItOk x) ∧ szL l ≤ bulk d := by
  obtain ⟨a, n, c, rfl⟩ := hv
  obtain ⟨fuel, hf⟩ := h
  have k5 : Tryz.prog.cellsOf 51 = 5 := by kernel_rfl
  obtain ⟨a4, l4, p4, f4, E4, e4, hm4, hs4, hE4, hb4, hf4⟩ := open_rawS hB Tryz.underlying48 k5 (by decide) hf
  simp [Value.cells] at e4
  obtain ⟨rfl, rfl, rfl⟩ := e4
  have each4 : ∀ i, i < n → ∃ t, ItC W t (f4 i) ∧ ItOk t ∧ ∃ d, E4[i]? = some d ∧ szT t ≤ bulk d := fun i hi => by
    obtain ⟨-, n', y, hlt, h, hE⟩ := hf4 i hi
    obtain ⟨t, h1, h2, h3⟩ := open_itemS hB n' n' _ y (Nat.le_refl _) h
    exact ⟨t, h1, h2, _, hE, h3⟩
  obtain ⟨gi, hgi⟩ := choose_lt each4
  have hszL : ∀ m, m ≤ n → szL ((List.range m).map gi) = ((List.range m).map fun i => szT (gi i)).sum := by
    intro m
    induction m with
    | zero => intro _; simp [szL]
    | succ m ihn =>
      intro hn
      have happ : ∀ (a b : List It), szL (a ++ b) = szL a + szL b := by
        intro a b
        induction a with
        | nil => simp [szL]
        | cons x a iha => rw [List.cons_append, szL, szL, iha]; omega
      rw [List.range_succ, List.map_append, List.map_append, happ, List.sum_append, ihn (by omega)]
      simp [szL]
  have hsum4 : szL ((List.range n).map gi) ≤ (E4.map bulk).sum := by
    rw [hszL n (Nat.le_refl _), ← hE4]
    refine sum_ge (fun i => szT (gi i)) E4 bulk fun i d hd => ?_
    have hi := (List.getElem?_eq_some_iff.1 hd).1
    obtain ⟨d', h1, h2⟩ := (hgi i (by omega)).2.2
    rw [h1] at hd
    cases hd
    exact h2
  refine ⟨(List.range n).map gi, (List.range n).map f4, ?_, ?_, fun x hx => ?_, by simp only at hb4; omega⟩
  · rw [← List.flatMap_def]
    simpa using hs4
  · refine itCs_iff.2 ⟨by simp, fun i x c hx hc => ?_⟩
    simp only [List.getElem?_map] at hx hc
    obtain ⟨i1, h1, rfl⟩ := Option.map_eq_some_iff.1 hx
    obtain ⟨i2, h2, rfl⟩ := Option.map_eq_some_iff.1 hc
    rw [h1] at h2
    cases h2
    have hi := (List.getElem?_eq_some_iff.1 h1).1
    have he := (List.getElem?_eq_some_iff.1 h1).2
    simp at hi he
    subst he
    exact (hgi i hi).1
  · obtain ⟨i, hi, rfl⟩ := List.mem_map.1 hx
    exact (hgi i (by simpa using hi)).2.1
end Go.Proofs
