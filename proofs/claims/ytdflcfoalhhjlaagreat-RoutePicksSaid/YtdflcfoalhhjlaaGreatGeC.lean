/-
 Contracts of the functions that the law reaches,step by step.
-/
import Derived.Test.YtdflcfoalhhjlaaGreatGeA
import Derived.Test.YtdflcfoalhhjlaaGreatEngV
namespace Go.Proofs
open Pk
set_option maxRecDepth 10000
def ofFG (f g : Int) (s : St) : Bool := decide (s.f = f) && decide (s.t = g)
def isSteps (l : List St) (f g : Int) (R : List St) : Prop := (R.Pairwise fun a b => a.a ≤ b.a) ∧ R.Perm (l.filter (ofFG f g))
end Go.Proofs
namespace Go.Proofs
open Pk
set_option maxRecDepth 10000
def keyS (s : St) : Int × Int × Int := (s.f,s.t,s.a)
theorem hit_iff {f g a : Int} {s : St} : hitS f g a s = true ↔ keyS s = (f, g, a) := by
 simp [hitS,keyS]
structure RelT (M : ME) (l : List St) : Prop where
 uni : (l.map keyS).Nodup
 get : ∀ s : St,mget (sps M (s.f,s.t)) s.a = some s.k ↔ s ∈ l
 cnt : total M = l.length
 ok : ∀ s ∈ l,StOk s ∧ badS s = false
theorem key_uniq {l : List St} (h : (l.map keyS).Nodup) {x y : St} (hx : x ∈ l) (hy : y ∈ l) (e : keyS x = keyS y) : x = y := by
 obtain ⟨i,hi,rfl⟩ := List.getElem_of_mem hx
 obtain ⟨j,hj,rfl⟩ := List.getElem_of_mem hy
 have : i = j := by
  have e1 : (l.map keyS)[i]? = some (keyS l[i]) := by simp [hi]
  have e2 : (l.map keyS)[j]? = some (keyS l[i]) := by simp [hj,e]
  exact (List.getElem?_inj (by simpa using hi) h).1 (e1.trans e2.symm)
 subst this
 rfl
theorem fnd_iff {l : List St} (h : (l.map keyS).Nodup) {f g a : Int} {s : St} : l.find? (hitS f g a) = some s ↔ s ∈ l ∧ keyS s = (f, g, a) := by
 constructor
 ·intro hs
  exact ⟨List.mem_of_find?_eq_some hs,hit_iff.1 (by simpa using List.find?_some hs)⟩
 ·rintro ⟨h1,h2⟩
  cases hx : l.find? (hitS f g a) with
  | none =>
   have := List.find?_eq_none.1 hx s h1
   exact absurd (hit_iff.2 h2) this
  | some y =>
   have h3 := List.mem_of_find?_eq_some hx
   have h4 := hit_iff.1 (by simpa using List.find?_some hx)
   rw [key_uniq h h3 h1 (h4.trans h2.symm)]
theorem RelT.mget {M : ME} {l : List St} (h : RelT M l) (f g a : Int) : mget (sps M (f, g)) a = (l.find? (hitS f g a)).map (·.k) := by
 cases hm : Pk.mget (sps M (f,g)) a with
 | some k =>
  have h1 := (h.get ⟨f,g,a,k⟩).1 hm
  rw [(fnd_iff h.uni).2 ⟨h1,rfl⟩]
  rfl
 | none =>
  cases hx : l.find? (hitS f g a) with
  | none => rfl
  | some y =>
   obtain ⟨h3,h4⟩ := (fnd_iff h.uni).1 hx
   have h5 := (h.get y).2 h3
   simp only [keyS,Prod.mk.injEq] at h4
   rw [h4.1,h4.2.1,h4.2.2,hm] at h5
   cases h5
theorem find_idx {l : List St} {p : St → Bool} {i : Nat} (h : l.findIdx? p = some i) (hi : i < l.length) : l.find? p = some l[i] := by
 rw [List.find?_eq_some_iff_getElem]
 obtain ⟨h0,h1,h2⟩ := List.findIdx?_eq_some_iff_getElem.1 h
 exact ⟨h1,i,hi,rfl,fun j hj => by simpa using h2 j hj⟩
theorem find_findIdx {l : List St} {p : St → Bool} : l.find? p = (l.findIdx? p).bind fun i => l[i]? := by
 cases h : l.findIdx? p with
 | none =>
  have := List.findIdx?_eq_none_iff.1 h
  simp [List.find?_eq_none]
  exact fun x hx => by rw [this x hx]
 | some i =>
  obtain ⟨hi,-⟩ := List.findIdx?_eq_some_iff_getElem.1 h
  rw [find_idx h hi]
  simp [hi]
theorem RelT.isS {M : ME} {l : List St} (h : RelT M l) (f g a : Int) : (Pk.mget (sps M (f, g)) a).isSome = (l.findIdx? (hitS f g a)).isSome := by
 rw [h.mget,find_findIdx]
 cases hi : l.findIdx? (hitS f g a) with
 | none => rfl
 | some i =>
  obtain ⟨hi,-⟩ := List.findIdx?_eq_some_iff_getElem.1 hi
  simp [hi]
theorem RelT.nil : RelT [] [] := ⟨by simp,fun s => by simp [sps,Pk.mget],rfl,by simp⟩
theorem RelT.setE {M : ME} {l : List St} (h : RelT M l) (s : St) : setE M s = rsetE l s := by
 unfold Go.Proofs.setE rsetE
 have := h.isS s.f s.t s.a
 cases h1 : l.findIdx? (hitS s.f s.t s.a) with
 | none =>
  rw [h1] at this
  have h2 : Pk.mget (sps M (s.f,s.t)) s.a = none := by simpa using this
  rw [h2,h.cnt]
  simp
 | some i =>
  rw [h1] at this
  have h2 : (Pk.mget (sps M (s.f, s.t)) s.a).isNone = false := by
   cases hx : Pk.mget (sps M (s.f,s.t)) s.a with
   | none => rw [hx] at this; cases this
   | some x => rfl
  rw [h2]
  simp
theorem RelT.wasS {M : ME} {l : List St} (h : RelT M l) (s : St) : wasS M s = rsetW l s := by
 unfold Go.Proofs.wasS rsetW
 rw [h.setE,h.isS]
 unfold rsetE
 cases hb : badS s <;> cases h1 : l.findIdx? (hitS s.f s.t s.a) <;> simp
theorem RelT.set {M M' : ME} {l : List St} (h : RelT M l) {s : St} (hs : StOk s) (h1 : ∀ q, sps M' q = if Go.Proofs.setE M s = 0 ∧ q = (s.f, s.t) then mset (sps M q) s.a s.k else sps M q)
  (h2 : total M' = (if Go.Proofs.setE M s = 0 ∧ Go.Proofs.wasS M s = false then total M + 1 else total M)) : RelT M' (rsetL l s) := by
 rw [h.setE,h.wasS] at h2
 rw [h.setE] at h1
 by_cases h0 : rsetE l s = 0
 ·have hb : badS s = false := by
   cases hb : badS s with
   | false => rfl
   | true => simp [rsetE,hb] at h0
  have hget : ∀ x : St, Pk.mget (sps M' (x.f, x.t)) x.a = some x.k ↔ x = s ∨ (x ∈ l ∧ keyS x ≠ keyS s) := by
   intro x
   rw [h1]
   by_cases hq : (x.f, x.t) = (s.f, s.t)
   ·rw [if_pos ⟨h0,hq⟩,kget_mset]
    simp only [Prod.mk.injEq] at hq
    by_cases ha : x.a = s.a
    ·rw [if_pos ha]
     constructor
     ·intro e
      refine .inl ?_
      obtain ⟨x1,x2,x3,x4⟩ := x
      obtain ⟨s1,s2,s3,s4⟩ := s
      simp only at hq ha e
      simp at e
      simp [hq,ha,e]
     ·rintro (rfl | ⟨-, hk⟩)
      ·rfl
      ·exact absurd (by simp [keyS,hq,ha]) hk
    ·rw [if_neg ha,h.get]
     constructor
     ·exact fun hx => .inr ⟨hx,fun e => ha (by simp only [keyS,Prod.mk.injEq] at e; exact e.2.2)⟩
     ·rintro (rfl | ⟨hx, -⟩)
      ·exact absurd rfl ha
      ·exact hx
   ·rw [if_neg fun e => hq e.2,h.get]
    constructor
    ·exact fun hx => .inr ⟨hx,fun e => hq (by simp only [keyS,Prod.mk.injEq] at e; simp [e])⟩
    ·rintro (rfl | ⟨hx, -⟩)
     ·exact absurd rfl hq
     ·exact hx
  cases hi : l.findIdx? (hitS s.f s.t s.a) with
  | some i =>
   have hil : i < l.length := (List.findIdx?_eq_some_iff_getElem.1 hi).1
   have hk : keyS l[i] = keyS s := hit_iff.1 (List.findIdx?_eq_some_iff_getElem.1 hi).2.1
   have hL : rsetL l s = l.set i s := by simp [rsetL,hb,hi]
   have hW : rsetW l s = true := by simp [rsetW,hb,hi]
   rw [hL]
   have hkeys : (l.set i s).map keyS = l.map keyS := by
    rw [List.map_set,← hk]
    have := @List.set_getElem_self _ (l.map keyS) i (by simpa using hil)
    simpa using this
   have hmem : ∀ x : St, x ∈ l.set i s ↔ x = s ∨ (x ∈ l ∧ keyS x ≠ keyS s) := by
    intro x
    constructor
    ·intro hx
     obtain ⟨j,hj,rfl⟩ := List.getElem_of_mem hx
     simp only [List.length_set] at hj
     rw [List.getElem_set]
     by_cases hij : i = j
     ·rw [if_pos hij]; exact .inl rfl
     ·rw [if_neg hij]
      refine .inr ⟨List.getElem_mem _,fun e => hij ?_⟩
      have e1 : (l.map keyS)[i]? = some (keyS s) := by simp [hil,hk]
      have e2 : (l.map keyS)[j]? = some (keyS s) := by simp [hj,e]
      exact (List.getElem?_inj (by simpa using hil) h.uni).1 (e1.trans e2.symm)
    ·rintro (rfl | ⟨hx, hne⟩)
     ·exact List.mem_set (by simpa using hil) _
     ·obtain ⟨j,hj,rfl⟩ := List.getElem_of_mem hx
      have hij : i ≠ j := fun e => hne (by subst e; exact hk)
      have : (l.set i s)[j]'(by simpa using hj) = l[j] := by rw [List.getElem_set,if_neg hij]
      rw [← this]
      exact List.getElem_mem _
   refine ⟨by rw [hkeys]; exact h.uni, fun x => (hget x).trans (hmem x).symm, ?_, fun x hx => ?_⟩
   ·rw [h2,hW]; simp [h.cnt]
   ·rcases (hmem x).1 hx with rfl | ⟨hx, -⟩
    ·exact ⟨hs,hb⟩
    ·exact h.ok x hx
  | none =>
   have hno : ∀ x ∈ l, keyS x ≠ keyS s := fun x hx e => by
    have := List.findIdx?_eq_none_iff.1 hi x hx
    rw [hit_iff.2 e] at this
    cases this
   have hn : ¬ 512 ≤ l.length := fun hc => by simp [rsetE,hb,hi,hc] at h0
   have hL : rsetL l s = l ++ [s] := by simp [rsetL,hb,hi,hn]
   have hW : rsetW l s = false := by simp [rsetW,hi]
   rw [hL]
   refine ⟨?_, fun x => (hget x).trans ?_, ?_, fun x hx => ?_⟩
   ·rw [List.map_append,List.nodup_append]
    refine ⟨h.uni,by simp,fun a ha b hb' e => ?_⟩
    simp at hb'; subst hb'
    obtain ⟨x,hx,rfl⟩ := List.mem_map.1 ha
    exact hno x hx e
   ·constructor
    ·rintro (rfl | ⟨hx,-⟩) <;> simp_all
    ·intro hx
     rcases List.mem_append.1 hx with hx | hx
     ·exact .inr ⟨hx,hno x hx⟩
     ·simp at hx; exact .inl hx
   ·rw [h2,hW]; simp [h0,h.cnt]
   ·rcases List.mem_append.1 hx with hx | hx
    ·exact h.ok x hx
    ·simp at hx; subst hx; exact ⟨hs,hb⟩
 ·have hL : rsetL l s = l := by
   unfold rsetL
   unfold rsetE at h0
   cases hb : badS s with
   | true => simp
   | false =>
    cases hi : l.findIdx? (hitS s.f s.t s.a) with
    | some i => simp [hb,hi] at h0
    | none =>
     by_cases h5 : 512 ≤ l.length
     ·simp [h5]
     ·simp [hb,hi,h5] at h0
  rw [hL]
  have hs' : ∀ q,sps M' q = sps M q := fun q => by rw [h1,if_neg fun e => h0 e.1]
  refine ⟨h.uni,fun x => by rw [hs']; exact h.get x,?_,h.ok⟩
  rw [h2,if_neg fun e => h0 e.1]; exact h.cnt
end Go.Proofs