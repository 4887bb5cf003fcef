/-
 Contracts of the functions that the law reaches,step by step.
-/
import Derived.Test.YtdflcfoalhhjlaaGreatRuL
import Derived.ProofKit
import Derived.OpenShut
namespace Go.Proofs
open Pk
set_option maxRecDepth 10000
end Go.Proofs
namespace Go.Proofs
open Go.ChangeShapes Go.WideShapes Go.ChangeAt Go.RowKit Go.Deep Pk
set_option maxRecDepth 10000
section
variable {H : Type} {enc : TypeId × Value → H} {P : Program}
theorem open_rawB {W : World} {x : DataW H × List MemPlace} {fuel : Nat} {a : Option Addr} {len cap : Nat} {t e : TypeId} {m : Nat} {l : List CK} (ht : P.underlying t = some (.slice e)) (hl : flat P m e = some l) (hc : P.cellsOf e = l.length) (h0 : 0 < l.length)
  (hf : DataW.trod enc P W 0 (fun _ => true) true fuel t [.slice a len cap] = some x) :
  ∃ f : Nat → List Value,SlB W l.length (.slice a len cap) len ((List.range len).flatMap f) ∧ ∀ i,i < len → Fit l (f i) := by
 rcases open_slice ht hf with ⟨h1, -⟩ | ⟨a', len', cap', m', n, D, Pl, h1, hb, hle, hm, hmm, hx, hel⟩
 ·simp at h1
  obtain ⟨rfl,rfl,rfl⟩ := h1
  exact ⟨fun _ => [],SlB.nil _ _ _,fun i hi => by omega⟩
 ·simp at h1
  obtain ⟨rfl,rfl,rfl⟩ := h1
  simp at hmm
  subst hmm
  have each : ∀ i, i < len → ∃ cs : List Value, Fit l cs ∧ ∀ j u, cs[j]? = some u → W.cell? (a'.add (i * l.length + j)) = some u := by
   intro i hi
   obtain ⟨cs',h2,h3⟩ := hel i (by omega)
   rw [hc] at h2
   obtain ⟨_,hlen,hcell⟩ := World.cells?_some h2
   refine ⟨cs',trod_flat m e l hl _ _ _ h3,fun j u hj => ?_⟩
   have hjl := (List.getElem?_eq_some_iff.1 hj).1
   have := hcell j (by omega)
   rw [add_add] at this
   rw [this]; exact hj
  obtain ⟨f,hfx⟩ := choose_lt each
  have hfl : ∀ i,i < len → (f i).length = l.length := fun i hi => ((hfx i hi).1.length).symm
  obtain ⟨g1,g2⟩ := flatMap_at f len hfl
  have hsp : 0 < len → ∃ b o, a' = ⟨b, o, none⟩ := by
   intro h
   have hl0 := hfl 0 h
   have := (hfx 0 h).2 0 (f 0)[0] (by simp [hl0,h0])
   obtain ⟨b,o,sp⟩ := a'
   cases sp with
   | none => exact ⟨b,o,rfl⟩
   | some s => simp [Addr.add,World.cell?] at this; split at this <;> simp_all
  refine ⟨f, ⟨g1, ⟨some a', _, rfl, hle, fun h => ?_⟩, ?_⟩, fun i hi => (hfx i hi).1⟩
  ·obtain ⟨b,o,rfl⟩ := hsp h
   exact ⟨b,o,rfl⟩
  ·intro j u hj
   have hjl := (List.getElem?_eq_some_iff.1 hj).1
   rw [g1] at hjl
   have hi : j / l.length < len := (Nat.div_lt_iff_lt_mul h0).2 hjl
   obtain ⟨b,o,rfl⟩ := hsp (Nat.lt_of_le_of_lt (Nat.zero_le _) hi)
   have hdm := Nat.div_add_mod j l.length
   have hml := Nat.mod_lt j h0
   have e : j / l.length * l.length + j % l.length = j := by rw [Nat.mul_comm]; exact hdm
   have h3 := g2 (j / l.length) (j % l.length) hi hml
   rw [e,hj] at h3
   have := (hfx _ hi).2 _ _ h3.symm
   rw [e] at this
   simpa [slB,slO] using this
theorem open_rawC {W : World} {x : DataW H × List MemPlace} {fuel : Nat} {b : Value} {t e : TypeId} {m : Nat} {l : List CK} (ht : P.underlying t = some (.slice e)) (hl : flat P m e = some l) (hc : P.cellsOf e = l.length) (h0 : 0 < l.length)
  (hf : DataW.trod enc P W 0 (fun _ => true) true fuel t [b] = some x) :
  ∃ (n : Nat) (f : Nat → List Value),SlB W l.length b n ((List.range n).flatMap f) ∧ ∀ i,i < n → Fit l (f i) := by
 have hb : ∃ x len cap, b = .slice x len cap := by
  rcases open_slice ht hf with ⟨h1, -⟩ | ⟨a', len', cap', m', n, D, Pl, h1, -⟩
  ·simp at h1; exact ⟨_,_,_,h1⟩
  ·simp at h1; exact ⟨_,_,_,h1⟩
 obtain ⟨x,len,cap,rfl⟩ := hb
 obtain ⟨f,h1,h2⟩ := open_rawB ht hl hc h0 hf
 exact ⟨len,f,h1,h2⟩
theorem open_elsB {α : Type} (g : α → List Value) (ok : α → Prop) {s : Nat} {l : List CK} {W : World} {v : Value} {n : Nat} {f : Nat → List Value} (hfit : ∀ cs, Fit l cs → ∃ x, cs = g x ∧ ok x) (h : SlB W s v n ((List.range n).flatMap f)) (hf : ∀ i, i < n → Fit l (f i)) :
  ∃ L : List α,SlB W s v L.length (L.flatMap g) ∧ ∀ q ∈ L,ok q := by
 have each : ∀ k, k ≤ n → ∃ L : List α, L.length = k ∧ L.flatMap g = (List.range k).flatMap f ∧ ∀ q ∈ L, ok q := by
  intro k
  induction k with
  | zero => exact fun _ => ⟨[],rfl,rfl,by simp⟩
  | succ k ih =>
   intro hk
   obtain ⟨L,h1,h2,h3⟩ := ih (by omega)
   obtain ⟨x,hx,hox⟩ := hfit _ (hf k (by omega))
   refine ⟨L ++ [x], by simp [h1], ?_, fun q hq => ?_⟩
   ·rw [List.flatMap_append,h2,List.range_succ,List.flatMap_append]
    simp [hx]
   ·rcases List.mem_append.1 hq with hq | hq
    ·exact h3 q hq
    ·simp at hq; subst hq; exact hox
 obtain ⟨L,h1,h2,h3⟩ := each n (Nat.le_refl _)
 refine ⟨L,?_,h3⟩
 rw [h1,h2]
 exact h
end
theorem fit_int {cs : List Value} {ks : List CK} {q : IntKind} (h : Fit (.int q :: ks) cs) : ∃ (x : Int) (cs' : List Value), cs = .int q x :: cs' ∧ (Lit.int q x).wf = true ∧ Fit ks cs' := by
 obtain ⟨v1,c1,e1,⟨x,f1,w1⟩,h⟩ := h.cons
 exact ⟨x,c1,by rw [e1,f1],w1,h⟩
end Go.Proofs