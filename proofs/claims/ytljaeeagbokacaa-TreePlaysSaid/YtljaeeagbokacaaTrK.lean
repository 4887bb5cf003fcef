/-
  Contracts of the functions that the law reaches, step by step.
-/
import Derived.Test.YtljaeeagbokacaaTrI
namespace Go.Proofs
open Pk
set_option maxRecDepth 10000
/-! ### Ways, in plain words -/
theorem find_split (l l' : List Int) : (l.findIdx? (fun z => decide (z ∈ l')) = none ∧ ∀ z ∈ l, z ∉ l') ∨ ∃ p a s, l = p ++ a :: s ∧ a ∈ l' ∧ (∀ b ∈ p, b ∉ l') ∧ l.findIdx? (fun z => decide (z ∈ l')) = some p.length := by
  induction l with
  | nil => exact .inl ⟨rfl, by simp⟩
  | cons a l ih =>
    by_cases ha : a ∈ l'
    · exact .inr ⟨[], a, l, rfl, ha, by simp, by simp [List.findIdx?_cons, ha]⟩
    · rcases ih with ⟨h1, h2⟩ | ⟨p, b, s, rfl, h1, h2, h3⟩
      · exact .inl ⟨by simp [List.findIdx?_cons, ha, h1], by simpa [ha] using h2⟩
      · exact .inr ⟨a :: p, b, s, rfl, h1, by simpa [ha] using h2, by simp only [List.findIdx?_cons, ha, decide_false, Bool.false_eq_true, if_false]; rw [h3]; rfl⟩
theorem Lin.suffix {m : ML} {x : Int} {l : List Int} (h : Lin m x l) : ∀ {p : List Int} {a : Int} {s : List Int}, l = p ++ a :: s → Lin m a (a :: s) := by
  induction h with
  | top => intro p a s e; simp at e
  | @on x l h k ih =>
    intro p a s e
    cases p with
    | nil =>
      simp at e
      obtain ⟨rfl, rfl⟩ := e
      exact .on h k
    | cons b p =>
      simp at e
      exact ih e.2
theorem placeOf_split (p s : List Int) (a : Int) (h : a ∉ p) : placeOf (p ++ a :: s) a = p.length := by
  unfold placeOf
  induction p with
  | nil => simp [List.findIdx_cons]
  | cons b p ih =>
    simp at h
    have hb : b ≠ a := fun e => h.1 e.symm
    simp [List.findIdx_cons, hb, ih h.2]
/-- Two lines that meet. -/
structure Meet (m : ML) (l l' p : List Int) (a : Int) (s p' : List Int) : Prop where
  up : l = p ++ a :: s
  down : l' = p' ++ a :: s
  off : ∀ b ∈ p, b ∉ l'
  off' : ∀ b ∈ p', b ∉ l
theorem Meet.swap {m : ML} {l l' p s p' : List Int} {a : Int} (h : Meet m l l' p a s p') : Meet m l' l p' a s p := ⟨h.down, h.up, h.off', h.off⟩
theorem Meet.way {m : ML} {l l' p s p' : List Int} {a : Int} (h : Meet m l l' p a s p') : wayL l l' = some (p ++ a :: p'.reverse) := by
  have ha : a ∈ l' := by rw [h.down]; simp
  have hf : l.findIdx? (fun z => decide (z ∈ l')) = some p.length := by
    rw [List.findIdx?_eq_some_iff_getElem]
    refine ⟨by rw [h.up]; simp, by simp only [h.up]; simpa using ha, fun j hj => ?_⟩
    have := h.off p[j] (List.getElem_mem hj)
    simp only [h.up]
    rw [List.getElem_append_left hj]
    simpa using this
  have hg : l.getD p.length 0 = a := by rw [h.up, List.getD_eq_getElem?_getD]; simp
  have hap : a ∉ p' := fun hc => by
    have := h.off' a hc
    rw [h.up] at this
    simp at this
  unfold wayL
  rw [hf]
  simp only
  rw [hg]
  have hp : placeOf l' a = p'.length := by rw [h.down]; exact placeOf_split p' s a hap
  rw [hp, h.down, h.up]
  congr 1
  have e1 : (p ++ a :: s).take (p.length + 1) = p ++ [a] := by
    rw [List.take_append, List.take_of_length_le (by omega)]; simp
  rw [e1, List.take_left]
  simp
theorem meets {m : ML} {x y : Int} {l l' : List Int} (hl : Lin m x l) (hl' : Lin m y l') : (wayL l l' = none ∧ wayL l' l = none) ∨ ∃ p a s p', Meet m l l' p a s p' := by
  rcases find_split l l' with ⟨h1, h2⟩ | ⟨p, a, s, e, ha, hoff, hf⟩
  · left
    refine ⟨by unfold wayL; rw [h1], ?_⟩
    have : l'.findIdx? (fun z => decide (z ∈ l)) = none := by
      rw [List.findIdx?_eq_none_iff]
      intro z hz
      have := fun hc => h2 z hc hz
      simpa using this
    unfold wayL; rw [this]
  · right
    obtain ⟨p', s', e'⟩ := List.append_of_mem ha
    have h1 := hl.suffix e
    have h2 := hl'.suffix e'
    have hs : a :: s = a :: s' := h1.uniq h2
    cases hs
    refine ⟨p, a, s, p', e, e', hoff, fun b hb hc => ?_⟩
    have hn := hl'.nodup
    rw [e', List.nodup_append] at hn
    rw [e] at hc
    rcases List.mem_append.1 hc with hc | hc
    · exact hoff b hc (by rw [e']; simp [hb])
    · exact hn.2.2 b hb b hc rfl
theorem Lin.next {m : ML} {c d : Int} {l : List Int} (h : Lin m c (c :: d :: l)) : (mget m c).getD 0 = d ∧ Lin m d (d :: l) := by
  cases h with
  | on h k =>
    generalize hz : (mget m c).getD 0 = z at k
    cases k with
    | on h' k' => exact ⟨rfl, .on h' k'⟩
theorem Meet.step {m : ML} {x y : Int} {l l' p s p' w1 w3 : List Int} {a c d : Int} (hl : Lin m x l) (hl' : Lin m y l') (h : Meet m l l' p a s p') (hw : p ++ a :: p'.reverse = w1 ++ c :: d :: w3) :
    ∃ li, Lin m c li ∧ wayL li l' = some (c :: d :: w3) ∧ (if w1.length < p.length then (mget m c).getD 0 = d else (mget m d).getD 0 = c ∧ (mget m c).getD 0 ≠ d) := by
  have goDown : ∀ e, a :: p'.reverse = e ++ c :: d :: w3 → ∃ li, Lin m c li ∧ wayL li l' = some (c :: d :: w3) ∧ ((mget m d).getD 0 = c ∧ (mget m c).getD 0 ≠ d) := by
    intro e he
    have h1 : (p' ++ [a]) = w3.reverse ++ d :: c :: e.reverse := by
      have := congrArg List.reverse he
      simpa using this
    have h2 : l' = w3.reverse ++ d :: c :: (e.reverse ++ s) := by
      rw [h.down]
      have : p' ++ a :: s = (p' ++ [a]) ++ s := by simp
      rw [this, h1]; simp
    have hd := hl'.suffix h2
    obtain ⟨hn1, hc⟩ := hd.next
    have h3 : l' = (w3.reverse ++ [d]) ++ c :: (e.reverse ++ s) := by rw [h2]; simp
    have hm : Meet m (c :: (e.reverse ++ s)) l' [] c (e.reverse ++ s) (w3.reverse ++ [d]) := ⟨rfl, h3, by simp, fun b hb hc' => by
      have hn := hl'.nodup
      rw [h3, List.nodup_append] at hn
      exact hn.2.2 b hb b hc' rfl⟩
    refine ⟨_, hc, ?_, hn1, fun he2 => ?_⟩
    · rw [hm.way]; simp
    · cases hc with
      | on _ k =>
        rw [he2] at k
        have := congrArg List.length (k.uniq hd)
        simp at this
        omega
  rcases List.append_eq_append_iff.1 hw with ⟨e, rfl, he⟩ | ⟨e, rfl, he⟩
  · obtain ⟨li, h1, h2, h3⟩ := goDown e he
    refine ⟨li, h1, h2, ?_⟩
    rw [if_neg (by simp)]; exact h3
  · cases e with
    | nil =>
      obtain ⟨li, h1, h2, h3⟩ := goDown [] (by simpa using he.symm)
      refine ⟨li, h1, h2, ?_⟩
      rw [if_neg (by simp)]; exact h3
    | cons b e =>
      simp at he
      obtain ⟨rfl, he⟩ := he
      have hu : l = w1 ++ c :: (e ++ a :: s) := by rw [h.up]; simp
      have hc := hl.suffix hu
      have hm : Meet m (c :: (e ++ a :: s)) l' (c :: e) a s p' := ⟨by simp, h.down, fun b hb => h.off b (by simp at hb ⊢; exact .inr hb), fun b hb hc' => by
        have := h.off' b hb
        rw [hu] at this
        exact this (List.mem_append_right _ hc')⟩
      refine ⟨_, hc, ?_, ?_⟩
      · rw [hm.way, List.cons_append, ← he]
      · rw [if_pos (by simp)]
        cases e with
        | nil =>
          simp at he
          obtain ⟨rfl, _⟩ := he
          exact hc.next.1
        | cons b e =>
          simp at he
          obtain ⟨rfl, _⟩ := he
          exact hc.next.1
theorem Meet.nodup {m : ML} {x y : Int} {l l' p s p' : List Int} {a : Int} (hl : Lin m x l) (hl' : Lin m y l') (h : Meet m l l' p a s p') : (p ++ a :: p'.reverse).Nodup := by
  have h1 := hl.nodup
  have h2 := hl'.nodup
  rw [h.up, List.nodup_append] at h1
  rw [h.down, List.nodup_append] at h2
  have hpl' : ∀ b ∈ p, b ∉ l' := h.off
  rw [List.nodup_append]
  refine ⟨h1.1, ?_, fun b hb c hc => ?_⟩
  · rw [List.nodup_cons]
    refine ⟨fun hc => h2.2.2 a (by simpa using hc) a (by simp) rfl, (List.reverse_perm p').nodup_iff.2 h2.1⟩
  · rintro rfl
    refine hpl' b hb ?_
    rw [h.down]
    simp at hc ⊢
    rcases hc with rfl | hc
    · exact .inr (.inl rfl)
    · exact .inl hc
theorem Lin.ne {m : ML} {x y : Int} {l : List Int} (h : Lin m x l) (hy : y ∈ l) : y ≠ 0 := by
  induction h with
  | top => cases hy
  | on h _ ih =>
    rcases List.mem_cons.1 hy with rfl | hy
    · exact h
    · exact ih hy
theorem Meet.head {m : ML} {x : Int} {l l' p s p' : List Int} {a : Int} (hl : Lin m x l) (h : Meet m l l' p a s p') : (p ++ a :: p'.reverse).head? = some x := by
  have hx : x ≠ 0 := by
    rintro rfl
    have := hl.zero
    rw [h.up] at this
    simp at this
  have := hl.get hx
  rw [h.up] at this
  cases p with
  | nil => simpa using this
  | cons b p => simpa using this
end Go.Proofs
