/-
  Contracts of the functions that the law reaches, step by step.
-/
import Derived.ProofKit
import Derived.OpenShut
import Derived.Test.YtoeklmmapjhaaaaGreatDoorPaA
namespace Go.Proofs
open Go.ChangeShapes Go.WideShapes Go.ChangeAt Go.RowKit Go.Deep Pk
set_option maxRecDepth 10000
section
variable {H : Type} {enc : TypeId × Value → H} {P : Program}
/-- A row of flat elements, opened: its address may be whatever where it has no room. -/
theorem open_rawB {W : World} {x : DataW H × List MemPlace} {fuel : Nat} {a : Option Addr} {len cap : Nat} {t e : TypeId} {m : Nat} {l : List CK} (ht : P.underlying t = some (.slice e)) (hl : flat P m e = some l) (hc : P.cellsOf e = l.length) (h0 : 0 < l.length)
    (hf : DataW.trod enc P W 0 (fun _ => true) true fuel t [.slice a len cap] = some x) :
    ∃ f : Nat → List Value, SlB W l.length (.slice a len cap) len ((List.range len).flatMap f) ∧ ∀ i, i < len → Fit l (f i) := by
  rcases open_slice ht hf with ⟨h1, -⟩ | ⟨a', len', cap', m', n, D, Pl, h1, hb, hle, hm, hmm, hx, hel⟩
  · simp at h1
    obtain ⟨rfl, rfl, rfl⟩ := h1
    exact ⟨fun _ => [], SlB.nil _ _ _, fun i hi => by omega⟩
  · simp at h1
    obtain ⟨rfl, rfl, rfl⟩ := h1
    simp at hmm
    subst hmm
    have each : ∀ i, i < len → ∃ cs : List Value, Fit l cs ∧ ∀ j u, cs[j]? = some u → W.cell? (a'.add (i * l.length + j)) = some u := by
      intro i hi
      obtain ⟨cs', h2, h3⟩ := hel i (by omega)
      rw [hc] at h2
      obtain ⟨_, hlen, hcell⟩ := World.cells?_some h2
      refine ⟨cs', trod_flat m e l hl _ _ _ h3, fun j u hj => ?_⟩
      have hjl := (List.getElem?_eq_some_iff.1 hj).1
      have := hcell j (by omega)
      rw [add_add] at this
      rw [this]; exact hj
    obtain ⟨f, hfx⟩ := choose_lt each
    have hfl : ∀ i, i < len → (f i).length = l.length := fun i hi => ((hfx i hi).1.length).symm
    obtain ⟨g1, g2⟩ := flatMap_at f len hfl
    have hsp : 0 < len → ∃ b o, a' = ⟨b, o, none⟩ := by
      intro h
      have hl0 := hfl 0 h
      have := (hfx 0 h).2 0 (f 0)[0] (by simp [hl0, h0])
      obtain ⟨b, o, sp⟩ := a'
      cases sp with
      | none => exact ⟨b, o, rfl⟩
      | some s => simp [Addr.add, World.cell?] at this; split at this <;> simp_all
    refine ⟨f, ⟨g1, ⟨some a', _, rfl, hle, fun h => ?_⟩, ?_⟩, fun i hi => (hfx i hi).1⟩
    · obtain ⟨b, o, rfl⟩ := hsp h
      exact ⟨b, o, rfl⟩
    · intro j u hj
      have hjl := (List.getElem?_eq_some_iff.1 hj).1
      rw [g1] at hjl
      have hi : j / l.length < len := (Nat.div_lt_iff_lt_mul h0).2 hjl
      obtain ⟨b, o, rfl⟩ := hsp (Nat.lt_of_le_of_lt (Nat.zero_le _) hi)
      have hdm := Nat.div_add_mod j l.length
      have hml := Nat.mod_lt j h0
      have e : j / l.length * l.length + j % l.length = j := by rw [Nat.mul_comm]; exact hdm
      have h3 := g2 (j / l.length) (j % l.length) hi hml
      rw [e, hj] at h3
      have := (hfx _ hi).2 _ _ h3.symm
      rw [e] at this
      simpa [slB, slO] using this
end
theorem fit_int {cs : List Value} {ks : List CK} {q : IntKind} (h : Fit (.int q :: ks) cs) : ∃ (x : Int) (cs' : List Value), cs = .int q x :: cs' ∧ (Lit.int q x).wf = true ∧ Fit ks cs' := by
  obtain ⟨v1, c1, e1, ⟨x, f1, w1⟩, h⟩ := h.cons
  exact ⟨x, c1, by rw [e1, f1], w1, h⟩
theorem fit_cr {cs : List Value} (h : Fit [.int .u32, .bool] cs) : ∃ c : Cr, cs = crC c ∧ 0 ≤ c.1 ∧ c.1 < 4294967296 := by
  obtain ⟨a, c1, rfl, wa, h⟩ := fit_int h
  obtain ⟨v2, c2, e2, ⟨b, f2⟩, h3⟩ := h.cons
  have h4 := h3.nil
  subst e2; subst f2; subst h4
  refine ⟨(a, b), rfl, ?_⟩
  have := wa
  simp [Lit.wf] at this
  have e1 : IntKind.u32.min = 0 := by decide
  have e2 : IntKind.u32.max = 4294967295 := by decide
  rw [e1, e2] at this
  exact ⟨this.1, by show a < 4294967296; omega⟩
theorem open_crs {W : World} {v : Value} {n : Nat} {f : Nat → List Value} (h : SlB W 2 v n ((List.range n).flatMap f)) (hf : ∀ i, i < n → Fit [.int .u32, .bool] (f i)) : ∃ l : List Cr, l.length = n ∧ CSl W v l ∧ ∀ c ∈ l, 0 ≤ c.1 ∧ c.1 < 4294967296 := by
  obtain ⟨q, hq⟩ := choose_lt (p := fun i (s : Cr) => f i = crC s ∧ 0 ≤ s.1 ∧ s.1 < 4294967296) fun i hi => fit_cr (hf i hi)
  refine ⟨(List.range n).map q, by simp, ?_, fun c hc => ?_⟩
  · have e : ((List.range n).map q).flatMap crC = (List.range n).flatMap f := by
      rw [List.flatMap_map, List.flatMap_def, List.flatMap_def]
      congr 1
      refine List.map_congr_left fun i hi => ?_
      rw [(hq i (by simpa using hi)).1]
    show SlB W 2 v _ _
    rw [e]
    simpa using h
  · obtain ⟨i, hi, rfl⟩ := List.mem_map.1 hc
    exact (hq i (by simpa using hi)).2
/-- A path that is given. -/
theorem open_path {H : Type} {enc : TypeId × Value → H} {W : World} {v : Value} {d : DataW H} {ps : List MemPlace} {base : Nat} (hv : Value.okWide Tryz.prog W .any base 24 v) (h : DataW.Trod enc Tryz.prog W 0 (fun _ => true) true 24 v d ps) :
    ∃ (back : Bool) (sv : Value) (l : List Cr), v = ptV back sv ∧ CSl W sv l ∧ ∀ c ∈ l, 0 ≤ c.1 ∧ c.1 < 4294967296 := by
  obtain ⟨cs, rfl, hcs⟩ := okWide_struct Tryz.underlying24 hv
  obtain ⟨fuel, hf⟩ := h
  obtain ⟨y0, y1, n, -, hl, h0, h1⟩ := trod_struct2 Tryz.underlying24 hf
  have k2 : Tryz.prog.cellsOf 24 = 2 := by kernel_rfl
  have k0 : Tryz.prog.cellsOf 4 = 1 := by kernel_rfl
  have k1 : Tryz.prog.cellsOf 22 = 1 := by kernel_rfl
  rw [k2] at hcs
  obtain ⟨cs⟩ := cs
  simp at hcs
  rcases cs with _ | ⟨a, _ | ⟨b, _ | _⟩⟩ <;> simp at hcs
  simp only [k0, k1, Value.cells] at h0 h1
  have h0' : DataW.trod enc Tryz.prog W 0 (fun _ => true) true n 4 [a] = some y0 := h0
  have h1' : DataW.trod enc Tryz.prog W 0 (fun _ => true) true n 22 [b] = some y1 := h1
  obtain ⟨u, hu, -⟩ := DataW.trod_bool Tryz.underlying4 h0'
  have hb : ∃ x len cap, b = .slice x len cap := by
    rcases open_slice Tryz.underlying22 h1' with ⟨h1, -⟩ | ⟨a', len', cap', m', n, D, Pl, h1, -⟩
    · simp at h1; exact ⟨_, _, _, h1⟩
    · simp at h1; exact ⟨_, _, _, h1⟩
  obtain ⟨x, len, cap, rfl⟩ := hb
  simp at hu
  subst hu
  obtain ⟨f, hs, hf⟩ := open_rawB (m := 3) (l := [.int .u32, .bool]) (e := 37) Tryz.underlying22 (by kernel_rfl) (by kernel_rfl) (by decide) h1'
  obtain ⟨l, hl, hcl, hr⟩ := open_crs hs hf
  exact ⟨u, _, l, rfl, hcl, hr⟩
end Go.Proofs
