/-
  Contracts of the functions that the law reaches, step by step.
-/
import Derived.Test.YtoeklmmapjhaaaaDoorPaU
namespace Go.Proofs
open Go.ChangeShapes Go.WideShapes Go.ChangeAt Go.RowKit Go.Deep Pk
set_option maxRecDepth 10000
section
variable {H : Type} {enc : TypeId × Value → H} {P : Program}
/-- A row that is given, opened: each element is read with less fuel. -/
theorem open_rawG {W : World} {x : DataW H × List MemPlace} {fuel : Nat} {cs : List Value} {t e : TypeId} {z : Nat} (ht : P.underlying t = some (.slice e)) (hc : P.cellsOf e = z) (h0 : 0 < z)
    (hf : DataW.trod enc P W 0 (fun _ => true) true fuel t cs = some x) :
    ∃ (a : Option Addr) (len cap : Nat) (f : Nat → List Value), cs = [.slice a len cap] ∧ len ≤ maxLen ∧ SlB W z (.slice a len cap) len ((List.range len).flatMap f) ∧ ∀ i, i < len → (f i).length = z ∧ ∃ n y, n < fuel ∧ DataW.trod enc P W 0 (fun _ => true) true n e (f i) = some y := by
  rcases DataW.trod_slice ht hf with ⟨rfl, -⟩ | ⟨a', len, cap, elems, rest, n, hn, rfl, rfl, hb, hle, hm, hlen, hel, -, -⟩
  · exact ⟨_, _, _, fun _ => [], rfl, by omega, SlB.nil _ _ _, fun i hi => by omega⟩
  · have each : ∀ i, i < len → ∃ cs : List Value, cs.length = z ∧ (∃ y, DataW.trod enc P W 0 (fun _ => true) true n e cs = some y) ∧ ∀ j u, cs[j]? = some u → W.cell? (a'.add (i * z + j)) = some u := by
      intro i hi
      have h1 := hel i hi
      rw [List.getElem?_eq_getElem (by omega)] at h1
      obtain ⟨cs', h2, h3⟩ := Option.bind_eq_some_iff.1 h1
      rw [hc] at h2
      obtain ⟨_, hlen, hcell⟩ := World.cells?_some h2
      refine ⟨cs', hlen, ⟨_, h3⟩, fun j u hj => ?_⟩
      have hjl := (List.getElem?_eq_some_iff.1 hj).1
      have := hcell j (by omega)
      rw [add_add] at this
      rw [this]; exact hj
    obtain ⟨f, hfx⟩ := choose_lt each
    have hfl : ∀ i, i < len → (f i).length = z := fun i hi => (hfx i hi).1
    obtain ⟨g1, g2⟩ := flatMap_at f len hfl
    have hsp : 0 < len → ∃ b o, a' = ⟨b, o, none⟩ := by
      intro h
      have hl0 := hfl 0 h
      have := (hfx 0 h).2.2 0 (f 0)[0] (by simp [hl0, h0])
      obtain ⟨b, o, sp⟩ := a'
      cases sp with
      | none => exact ⟨b, o, rfl⟩
      | some s => simp [Addr.add, World.cell?] at this; split at this <;> simp_all
    refine ⟨some a', len, cap, f, rfl, by omega, ⟨g1, ⟨some a', _, rfl, hle, fun h => ?_⟩, ?_⟩, fun i hi => ⟨hfl i hi, n, (hfx i hi).2.1.choose, by omega, (hfx i hi).2.1.choose_spec⟩⟩
    · obtain ⟨b, o, rfl⟩ := hsp h
      exact ⟨b, o, rfl⟩
    · intro j u hj
      have hjl := (List.getElem?_eq_some_iff.1 hj).1
      rw [g1] at hjl
      have hi : j / z < len := (Nat.div_lt_iff_lt_mul h0).2 hjl
      obtain ⟨b, o, rfl⟩ := hsp (Nat.lt_of_le_of_lt (Nat.zero_le _) hi)
      have hdm := Nat.div_add_mod j z
      have hml := Nat.mod_lt j h0
      have e : j / z * z + j % z = j := by rw [Nat.mul_comm]; exact hdm
      have h3 := g2 (j / z) (j % z) hi hml
      rw [e, hj] at h3
      have := (hfx _ hi).2.2 _ _ h3.symm
      rw [e] at this
      simpa [slB, slO] using this
theorem trod_struct5 {W : World} {t : TypeId} {f0 f1 f2 f3 f4 : Field} {fuel : Nat} {cs : List Value} {x : DataW H × List MemPlace} (ht : P.underlying t = some (.struct #[f0, f1, f2, f3, f4])) (h : DataW.trod enc P W 0 (fun _ => true) true fuel t cs = some x) :
    ∃ y0 y1 y2 y3 y4 n, fuel = n + 1 ∧ cs.length = P.cellsOf t ∧ DataW.trod enc P W 0 (fun _ => true) true n f0.type ((cs.drop f0.offset).take (P.cellsOf f0.type)) = some y0 ∧
      DataW.trod enc P W 0 (fun _ => true) true n f1.type ((cs.drop f1.offset).take (P.cellsOf f1.type)) = some y1 ∧ DataW.trod enc P W 0 (fun _ => true) true n f2.type ((cs.drop f2.offset).take (P.cellsOf f2.type)) = some y2 ∧
      DataW.trod enc P W 0 (fun _ => true) true n f3.type ((cs.drop f3.offset).take (P.cellsOf f3.type)) = some y3 ∧ DataW.trod enc P W 0 (fun _ => true) true n f4.type ((cs.drop f4.offset).take (P.cellsOf f4.type)) = some y4 := by
  obtain ⟨xs, n, hn, -, hl, hlen, hf⟩ := DataW.trod_struct ht h
  match xs, hlen with
  | [y0, y1, y2, y3, y4], _ => exact ⟨y0, y1, y2, y3, y4, n, hn, hl, by simpa using hf 0 f0 rfl, by simpa using hf 1 f1 rfl, by simpa using hf 2 f2 rfl, by simpa using hf 3 f3 rfl, by simpa using hf 4 f4 rfl⟩
end
instance : Inhabited It := ⟨.mk 0 0 [] ⟨#[]⟩ []⟩
theorem open_item {H : Type} {enc : TypeId × Value → H} {W : World} : ∀ (m fuel : Nat) (cs : List Value) (x : DataW H × List MemPlace), fuel ≤ m → DataW.trod enc Tryd.prog W 0 (fun _ => true) true fuel 31 cs = some x → ∃ t, ItC W t cs := by
  intro m
  induction m with
  | zero =>
    intro fuel cs x hm h
    obtain rfl : fuel = 0 := by omega
    simp [DataW.trod] at h
  | succ m ih =>
    intro fuel cs x hm h
    obtain ⟨y0, y1, y2, y3, y4, n, hn, hl, h0, h1, h2, h3, h4⟩ := trod_struct5 Tryd.underlying31 h
    have k5 : Tryd.prog.cellsOf 31 = 5 := by kernel_rfl
    have k0 : Tryd.prog.cellsOf 26 = 1 := by kernel_rfl
    have k1 : Tryd.prog.cellsOf 27 = 1 := by kernel_rfl
    have k2 : Tryd.prog.cellsOf 28 = 1 := by kernel_rfl
    have k3 : Tryd.prog.cellsOf 9 = 1 := by kernel_rfl
    have k4 : Tryd.prog.cellsOf 29 = 1 := by kernel_rfl
    have kb : Tryd.prog.cellsOf 5 = 1 := by kernel_rfl
    rw [k5] at hl
    rcases cs with _ | ⟨c0, _ | ⟨c1, _ | ⟨c2, _ | ⟨c3, _ | ⟨c4, _ | _⟩⟩⟩⟩⟩ <;> simp at hl
    simp only [k0, k1, k2, k3, k4] at h0 h1 h2 h3 h4
    have h0' : DataW.trod enc Tryd.prog W 0 (fun _ => true) true n 26 [c0] = some y0 := h0
    have h1' : DataW.trod enc Tryd.prog W 0 (fun _ => true) true n 27 [c1] = some y1 := h1
    have h2' : DataW.trod enc Tryd.prog W 0 (fun _ => true) true n 28 [c2] = some y2 := h2
    have h3' : DataW.trod enc Tryd.prog W 0 (fun _ => true) true n 9 [c3] = some y3 := h3
    have h4' : DataW.trod enc Tryd.prog W 0 (fun _ => true) true n 29 [c4] = some y4 := h4
    obtain ⟨k, e0, -⟩ := DataW.trod_int Tryd.underlying26 h0'
    obtain ⟨nn, e1, -⟩ := DataW.trod_int Tryd.underlying27 h1'
    obtain ⟨s, e3, -⟩ := DataW.trod_string Tryd.underlying9 h3'
    obtain ⟨a2, l2, p2, f2, e2, hm2, hs2, hf2⟩ := open_rawG Tryd.underlying28 kb (by decide) h2'
    obtain ⟨a4, l4, p4, f4, e4, hm4, hs4, hf4⟩ := open_rawG Tryd.underlying29 k5 (by decide) h4'
    simp only [List.cons.injEq, and_true] at e0 e1 e2 e3 e4
    subst e0; subst e1; subst e2; subst e3; subst e4
    have each2 : ∀ i, i < l2 → ∃ b : Int, f2 i = [u8 b] := fun i hi => by
      obtain ⟨-, n', y, -, h⟩ := hf2 i hi
      obtain ⟨b, e, -⟩ := DataW.trod_int Tryd.underlying5 h
      exact ⟨b, e⟩
    obtain ⟨gb, hgb⟩ := choose_lt each2
    have each4 : ∀ i, i < l4 → ∃ t, ItC W t (f4 i) := fun i hi => by
      obtain ⟨-, n', y, hlt, h⟩ := hf4 i hi
      exact ih n' _ y (by omega) h
    obtain ⟨gi, hgi⟩ := choose_lt each4
    have hmx : maxLen = 9223372036854775807 := by decide
    refine ⟨.mk k nn ((List.range l2).map gb) s ((List.range l4).map gi), itC_mk.2 ⟨_, _, (List.range l4).map f4, rfl, ?_, ?_, ?_, by simp; omega, by simp; omega⟩⟩
    · have e : ((List.range l2).map gb).map u8 = (List.range l2).flatMap f2 := by
        rw [List.map_map, List.flatMap_def]
        have : (List.range l2).map f2 = (List.range l2).map fun i => [u8 (gb i)] := List.map_congr_left fun i hi => hgb i (by simpa using hi)
        rw [this, ← List.flatMap_def]
        simp only [Function.comp_def]
        exact (List.map_eq_flatMap).trans rfl
      rw [e]
      simpa using hs2
    · rw [← List.flatMap_def]
      simpa using hs4
    · refine itCs_iff.2 ⟨by simp, fun i x c hx hc => ?_⟩
      simp only [List.getElem?_map] at hx hc
      obtain ⟨i1, h1, rfl⟩ := Option.map_eq_some_iff.1 hx
      obtain ⟨i2, h2, rfl⟩ := Option.map_eq_some_iff.1 hc
      rw [h1] at h2
      cases h2
      have hi := (List.getElem?_eq_some_iff.1 h1).1
      have he := (List.getElem?_eq_some_iff.1 h1).2
      simp at hi he
      subst he
      exact hgi i hi
/-- Items that are given. -/
theorem open_items {H : Type} {enc : TypeId × Value → H} {W : World} {v : Value} {d : DataW H} {ps : List MemPlace} (h : DataW.Trod enc Tryd.prog W 0 (fun _ => true) true 29 v d ps) (hv : ∃ a n c, v = .slice a n c) :
    ∃ (l : List It) (css : List (List Value)), SlB W 5 v l.length css.flatten ∧ ItCs W l css ∧ l.length ≤ 9223372036854775807 := by
  obtain ⟨a, n, c, rfl⟩ := hv
  obtain ⟨fuel, hf⟩ := h
  have k5 : Tryd.prog.cellsOf 31 = 5 := by kernel_rfl
  obtain ⟨a4, l4, p4, f4, e4, hm4, hs4, hf4⟩ := open_rawG Tryd.underlying29 k5 (by decide) hf
  simp [Value.cells] at e4
  obtain ⟨rfl, rfl, rfl⟩ := e4
  have each4 : ∀ i, i < n → ∃ t, ItC W t (f4 i) := fun i hi => by
    obtain ⟨-, n', y, hlt, h⟩ := hf4 i hi
    exact open_item n' n' _ y (Nat.le_refl _) h
  obtain ⟨gi, hgi⟩ := choose_lt each4
  have hmx : maxLen = 9223372036854775807 := by decide
  refine ⟨(List.range n).map gi, (List.range n).map f4, ?_, ?_, by simp; omega⟩
  · rw [← List.flatMap_def]
    simpa using hs4
  · refine itCs_iff.2 ⟨by simp, fun i x c hx hc => ?_⟩
    simp only [List.getElem?_map] at hx hc
    obtain ⟨i1, h1, rfl⟩ := Option.map_eq_some_iff.1 hx
    obtain ⟨i2, h2, rfl⟩ := Option.map_eq_some_iff.1 hc
    rw [h1] at h2
    cases h2
    have hi := (List.getElem?_eq_some_iff.1 h1).1
    have he := (List.getElem?_eq_some_iff.1 h1).2
    simp at hi he
    subst he
    exact hgi i hi
end Go.Proofs
