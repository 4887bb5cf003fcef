/-
  Contracts of the functions that the law reaches, step by step.
-/
import Derived.Test.YtljaeeagbokacaaTrS
namespace Go.Proofs
open Pk
set_option maxRecDepth 10000
/-- The map and the document's rows tell the same. -/
structure Rel (m s : ML) : Prop where
  asc : Asc s
  perm : s.Perm m
theorem asc_nodup {s : ML} (h : Asc s) : (s.map (·.1)).Nodup := by
  rw [List.nodup_iff_pairwise_ne, List.pairwise_map]
  exact h.imp fun h => by omega
theorem Rel.nodup {m s : ML} (h : Rel m s) : (m.map (·.1)).Nodup := (h.perm.map _).nodup_iff.1 (asc_nodup h.asc)
theorem mget_iff {m : ML} (h : (m.map (·.1)).Nodup) {x v : Int} : mget m x = some v ↔ (x, v) ∈ m := by
  induction m with
  | nil => simp [mget]
  | cons p m ih =>
    rw [List.map_cons, List.nodup_cons] at h
    rw [mget_cons, List.mem_cons]
    by_cases hp : p.1 = x
    · rw [if_pos hp]
      constructor
      · intro e; cases e; left; rw [← hp]
      · rintro (e | hm)
        · rw [← e]
        · exact (h.1 (by rw [hp]; exact List.mem_map.2 ⟨_, hm, rfl⟩)).elim
    · rw [if_neg hp, ih h.2]
      constructor
      · exact .inr
      · rintro (e | hm)
        · exact (hp (by rw [← e])).elim
        · exact hm
theorem Rel.get {m s : ML} (h : Rel m s) (x : Int) : mget s x = mget m x := by
  apply Option.ext
  intro v
  rw [mget_iff (asc_nodup h.asc), mget_iff h.nodup, h.perm.mem_iff]
theorem Rel.len {m s : ML} (h : Rel m s) : s.length = m.length := h.perm.length_eq
theorem lin_of {m s : ML} (h : ∀ x, mget s x = mget m x) {x : Int} {l : List Int} (hl : Lin m x l) : Lin s x l := by
  induction hl with
  | top => exact .top
  | on hx _ ih => exact .on hx (by rw [h]; exact ih)
theorem Rel.lin {m s : ML} (h : Rel m s) {x : Int} {l : List Int} (hl : Lin m x l) : Lin s x l := lin_of h.get hl
theorem Rel.setE {m s : ML} (h : Rel m s) (l : List Int) (x y : Int) : Go.Proofs.setE s l x y = Go.Proofs.setE m l x y := by
  unfold Go.Proofs.setE; rw [h.get, h.len]
theorem Rel.dropE {m s : ML} (h : Rel m s) (x : Int) : Go.Proofs.dropE s x = Go.Proofs.dropE m x := by
  unfold Go.Proofs.dropE; rw [h.get]
theorem Rel.kids {m s : ML} (h : Rel m s) {x : Int} {ys : List Int} (hk : isKids m x ys) : ys = Go.Proofs.kids s x := by
  have hp : ys.Perm (Go.Proofs.kids s x) := hk.1.trans ((h.perm.filter _).map _).symm
  have hs : (Go.Proofs.kids s x).Pairwise (· ≤ ·) := by
    unfold Go.Proofs.kids
    rw [List.pairwise_map]
    exact (h.asc.filter _).imp fun h => by omega
  exact hp.eq_of_pairwise (fun a b _ _ h1 h2 => by omega) hk.2 hs
theorem spot_split {s : ML} (hs : Asc s) (x : Int) : (∀ p ∈ s.take (spot s x), p.1 < x) ∧ (∀ p ∈ s.drop (spot s x), x ≤ p.1) := by
  induction s with
  | nil => simp [spot]
  | cons a s ih =>
    have h1 := List.pairwise_cons.1 hs
    by_cases ha : a.1 < x
    · have e : spot (a :: s) x = spot s x + 1 := by simp [spot, ha]
      rw [e, List.take_succ_cons, List.drop_succ_cons]
      refine ⟨fun p hp => ?_, (ih h1.2).2⟩
      rcases List.mem_cons.1 hp with rfl | hp
      · exact ha
      · exact (ih h1.2).1 p hp
    · have e : spot (a :: s) x = 0 := by simp [spot, ha]
      rw [e]
      refine ⟨by simp, fun p hp => ?_⟩
      rcases List.mem_cons.1 hp with rfl | hp
      · omega
      · have := h1.1 p hp; omega
theorem Rel.set {m s : ML} (h : Rel m s) (x y : Int) : Rel (mset m x y) (rset s x y) := by
  have hsp := spot_split h.asc x
  have hg := h.get x
  unfold mset
  cases ht : there s x with
  | true =>
    obtain ⟨hk, hkx⟩ := there_spot h.asc ht
    unfold there at ht
    rw [hg] at ht
    rw [if_pos ht]
    have hr : rset s x y = s.map fun p => if p.1 = x then (x, y) else p := by
      rw [rset_old h.asc (by unfold there; rw [hg]; exact ht)]
      apply List.ext_getElem?
      intro j
      rw [List.getElem?_set, List.getElem?_map]
      by_cases hj : spot s x = j
      · subst hj
        rw [if_pos rfl, if_pos hk, List.getElem?_eq_getElem hk]
        simp [hkx]
      · rw [if_neg hj]
        cases hsj : s[j]? with
        | none => rfl
        | some p =>
          have hne : p.1 ≠ x := fun e => by
            have h2 := asc_nodup h.asc
            have hjl := (List.getElem?_eq_some_iff.1 hsj).1
            have e1 : (s.map (·.1))[j]? = some x := by rw [List.getElem?_map, hsj]; simp [e]
            have e2 : (s.map (·.1))[spot s x]? = some x := by rw [List.getElem?_map, List.getElem?_eq_getElem hk]; simp [hkx]
            have := (List.getElem?_inj (by simpa using hk) h2).1 (e2.trans e1.symm)
            exact hj this
          simp [hne]
    rw [hr]
    refine ⟨?_, h.perm.map _⟩
    unfold Asc
    rw [List.pairwise_map]
    refine h.asc.imp fun {p q} hpq => ?_
    by_cases h1 : p.1 = x <;> by_cases h2 : q.1 = x <;> simp [h1, h2] <;> omega
  | false =>
    have hr := rset_new (y := y) ht
    unfold there at ht
    rw [hg] at ht
    rw [if_neg (by rw [ht]; simp), hr]
    refine ⟨?_, ?_⟩
    · unfold Asc
      rw [List.append_assoc, List.pairwise_append]
      have hx : ∀ p ∈ s.drop (spot s x), x < p.1 := fun p hp => by
        have h1 := hsp.2 p hp
        by_cases e : p.1 = x
        · have : mget s x = some p.2 := (mget_iff (asc_nodup h.asc)).2 (by rw [← e]; exact List.mem_of_mem_drop hp)
          rw [hg] at this
          rw [this] at ht; cases ht
        · omega
      refine ⟨h.asc.sublist (List.take_sublist _ _), ?_, ?_⟩
      · rw [List.singleton_append, List.pairwise_cons]
        exact ⟨fun p hp => hx p hp, h.asc.sublist (List.drop_sublist _ _)⟩
      · intro p hp q hq
        have h1 := hsp.1 p hp
        rcases List.mem_append.1 hq with hq | hq
        · rw [List.mem_singleton] at hq; subst hq; exact h1
        · have := hx q hq; omega
    · have h1 : (s.take (spot s x) ++ [(x, y)] ++ s.drop (spot s x)).Perm (s.take (spot s x) ++ s.drop (spot s x) ++ [(x, y)]) := by
        rw [List.append_assoc, List.append_assoc]
        exact List.Perm.append_left _ List.perm_append_comm
      rw [List.take_append_drop] at h1
      exact h1.trans (h.perm.append_right _)
theorem Rel.del {m s : ML} (h : Rel m s) {x : Int} (ht : there s x = true) : Rel (mdel m x) (rdel s x) := by
  have hsp := spot_split h.asc x
  obtain ⟨hk, hkx⟩ := there_spot h.asc ht
  have hr : rdel s x = s.filter fun p => decide (p.1 ≠ x) := by
    unfold rdel
    conv => rhs; rw [← List.take_append_drop (spot s x) s, List.filter_append, List.drop_eq_getElem_cons hk, List.filter_cons]
    rw [if_neg (by simp [hkx])]
    congr 1
    · symm; rw [List.filter_eq_self]
      intro p hp
      have := hsp.1 p hp
      simp; omega
    · symm; rw [List.filter_eq_self]
      intro p hp
      have h1 := h.asc
      unfold Asc at h1
      rw [← List.take_append_drop (spot s x) s, List.pairwise_append, List.drop_eq_getElem_cons hk, List.pairwise_cons] at h1
      have := h1.2.1.1 p hp
      simp; omega
  rw [hr]
  exact ⟨h.asc.filter _, h.perm.filter _⟩
theorem mget_mdel (m : ML) (k z : Int) : mget (mdel m k) z = if z = k then none else mget m z := by
  unfold mdel
  induction m with
  | nil => simp [mget]
  | cons p m ih =>
    rw [List.filter_cons]
    by_cases hp : p.1 = k
    · simp only [hp, ne_eq, not_true_eq_false, decide_false, Bool.false_eq_true, if_false]
      simp only [ne_eq] at ih
      rw [ih, mget_cons]
      by_cases hz : z = k
      · rw [if_pos hz, if_pos hz]
      · rw [if_neg hz, if_neg hz, if_neg (fun e => hz (e.symm.trans hp))]
    · simp only [hp, ne_eq, not_false_eq_true, decide_true, if_true]
      simp only [ne_eq] at ih
      rw [mget_cons, ih, mget_cons]
      by_cases hz : z = k
      · subst hz; rw [if_neg hp]; simp
      · simp [hz]
theorem Good.del {m : ML} (h : Good m) (x : Int) : Good (mdel m x) := by
  refine ⟨fun z => ?_, Nat.le_trans (List.length_filter_le _ _) h.few⟩
  obtain ⟨l, hl⟩ := h.line z
  induction hl with
  | top => exact ⟨_, .top⟩
  | @on z l hz _ ih =>
    by_cases hzx : z = x
    · exact ⟨[z], .on hz (by rw [mget_mdel, if_pos hzx]; exact .top)⟩
    · obtain ⟨l', hl'⟩ := ih
      exact ⟨_, .on hz (by rw [mget_mdel, if_neg hzx]; exact hl')⟩
end Go.Proofs
