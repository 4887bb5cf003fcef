/-
  Contracts of the functions that the law reaches, step by step.
-/
import Derived.Test.YtigdaggjbnnjgaaSpT
import Derived.Test.YtigdaggjbnnjgaaSpF
namespace Go.Proofs
open Pk
set_option maxRecDepth 10000
/-! ### The table and the document's steps tell the same -/
def keyS (s : St) : Int × Int × Int := (s.f, s.t, s.a)
theorem hit_iff {f g a : Int} {s : St} : hitS f g a s = true ↔ keyS s = (f, g, a) := by
  simp [hitS, keyS]
structure RelT (M : ME) (l : List St) : Prop where
  uni : (l.map keyS).Nodup
  get : ∀ s : St, mget (sps M (s.f, s.t)) s.a = some s.k ↔ s ∈ l
  cnt : total M = l.length
  ok : ∀ s ∈ l, StOk s ∧ badS s = false
theorem key_uniq {l : List St} (h : (l.map keyS).Nodup) {x y : St} (hx : x ∈ l) (hy : y ∈ l) (e : keyS x = keyS y) : x = y := by
  obtain ⟨i, hi, rfl⟩ := List.getElem_of_mem hx
  obtain ⟨j, hj, rfl⟩ := List.getElem_of_mem hy
  have : i = j := by
    have e1 : (l.map keyS)[i]? = some (keyS l[i]) := by simp [hi]
    have e2 : (l.map keyS)[j]? = some (keyS l[i]) := by simp [hj, e]
    exact (List.getElem?_inj (by simpa using hi) h).1 (e1.trans e2.symm)
  subst this
  rfl
theorem fnd_iff {l : List St} (h : (l.map keyS).Nodup) {f g a : Int} {s : St} : l.find? (hitS f g a) = some s ↔ s ∈ l ∧ keyS s = (f, g, a) := by
  constructor
  · intro hs
    exact ⟨List.mem_of_find?_eq_some hs, hit_iff.1 (by simpa using List.find?_some hs)⟩
  · rintro ⟨h1, h2⟩
    cases hx : l.find? (hitS f g a) with
    | none =>
      have := List.find?_eq_none.1 hx s h1
      exact absurd (hit_iff.2 h2) this
    | some y =>
      have h3 := List.mem_of_find?_eq_some hx
      have h4 := hit_iff.1 (by simpa using List.find?_some hx)
      rw [key_uniq h h3 h1 (h4.trans h2.symm)]
theorem RelT.mget {M : ME} {l : List St} (h : RelT M l) (f g a : Int) : mget (sps M (f, g)) a = (l.find? (hitS f g a)).map (·.k) := by
  cases hm : Pk.mget (sps M (f, g)) a with
  | some k =>
    have h1 := (h.get ⟨f, g, a, k⟩).1 hm
    rw [(fnd_iff h.uni).2 ⟨h1, rfl⟩]
    rfl
  | none =>
    cases hx : l.find? (hitS f g a) with
    | none => rfl
    | some y =>
      obtain ⟨h3, h4⟩ := (fnd_iff h.uni).1 hx
      have h5 := (h.get y).2 h3
      simp only [keyS, Prod.mk.injEq] at h4
      rw [h4.1, h4.2.1, h4.2.2, hm] at h5
      cases h5
theorem find_findIdx {l : List St} {p : St → Bool} : l.find? p = (l.findIdx? p).bind fun i => l[i]? := by
  cases h : l.findIdx? p with
  | none =>
    have := List.findIdx?_eq_none_iff.1 h
    simp [List.find?_eq_none]
    exact fun x hx => by rw [this x hx]
  | some i =>
    obtain ⟨hi, -⟩ := List.findIdx?_eq_some_iff_getElem.1 h
    rw [find_idx h hi]
    simp [hi]
theorem RelT.isS {M : ME} {l : List St} (h : RelT M l) (f g a : Int) : (Pk.mget (sps M (f, g)) a).isSome = (l.findIdx? (hitS f g a)).isSome := by
  rw [h.mget, find_findIdx]
  cases hi : l.findIdx? (hitS f g a) with
  | none => rfl
  | some i =>
    obtain ⟨hi, -⟩ := List.findIdx?_eq_some_iff_getElem.1 hi
    simp [hi]
theorem RelT.nil : RelT [] [] := ⟨by simp, fun s => by simp [sps, Pk.mget], rfl, by simp⟩
theorem RelT.setE {M : ME} {l : List St} (h : RelT M l) (s : St) : setE M s = rsetE l s := by
  unfold Go.Proofs.setE rsetE
  have := h.isS s.f s.t s.a
  cases h1 : l.findIdx? (hitS s.f s.t s.a) with
  | none =>
    rw [h1] at this
    have h2 : Pk.mget (sps M (s.f, s.t)) s.a = none := by simpa using this
    rw [h2, h.cnt]
    simp
  | some i =>
    rw [h1] at this
    have h2 : (Pk.mget (sps M (s.f, s.t)) s.a).isNone = false := by
      cases hx : Pk.mget (sps M (s.f, s.t)) s.a with
      | none => rw [hx] at this; cases this
      | some x => rfl
    rw [h2]
    simp
theorem RelT.wasS {M : ME} {l : List St} (h : RelT M l) (s : St) : wasS M s = rsetW l s := by
  unfold Go.Proofs.wasS rsetW
  rw [h.setE, h.isS]
  unfold rsetE
  cases hb : badS s <;> cases h1 : l.findIdx? (hitS s.f s.t s.a) <;> simp
theorem RelT.set {M M' : ME} {l : List St} (h : RelT M l) {s : St} (hs : StOk s) (h1 : ∀ q, sps M' q = if Go.Proofs.setE M s = 0 ∧ q = (s.f, s.t) then mset (sps M q) s.a s.k else sps M q)
    (h2 : total M' = (if Go.Proofs.setE M s = 0 ∧ Go.Proofs.wasS M s = false then total M + 1 else total M)) : RelT M' (rsetL l s) := by
  rw [h.setE, h.wasS] at h2
  rw [h.setE] at h1
  by_cases h0 : rsetE l s = 0
  · have hb : badS s = false := by
      cases hb : badS s with
      | false => rfl
      | true => simp [rsetE, hb] at h0
    have hget : ∀ x : St, Pk.mget (sps M' (x.f, x.t)) x.a = some x.k ↔ x = s ∨ (x ∈ l ∧ keyS x ≠ keyS s) := by
      intro x
      rw [h1]
      by_cases hq : (x.f, x.t) = (s.f, s.t)
      · rw [if_pos ⟨h0, hq⟩, kget_mset]
        simp only [Prod.mk.injEq] at hq
        by_cases ha : x.a = s.a
        · rw [if_pos ha]
          constructor
          · intro e
            refine .inl ?_
            obtain ⟨x1, x2, x3, x4⟩ := x
            obtain ⟨s1, s2, s3, s4⟩ := s
            simp only at hq ha e
            simp at e
            simp [hq, ha, e]
          · rintro (rfl | ⟨-, hk⟩)
            · rfl
            · exact absurd (by simp [keyS, hq, ha]) hk
        · rw [if_neg ha, h.get]
          constructor
          · exact fun hx => .inr ⟨hx, fun e => ha (by simp only [keyS, Prod.mk.injEq] at e; exact e.2.2)⟩
          · rintro (rfl | ⟨hx, -⟩)
            · exact absurd rfl ha
            · exact hx
      · rw [if_neg fun e => hq e.2, h.get]
        constructor
        · exact fun hx => .inr ⟨hx, fun e => hq (by simp only [keyS, Prod.mk.injEq] at e; simp [e])⟩
        · rintro (rfl | ⟨hx, -⟩)
          · exact absurd rfl hq
          · exact hx
    cases hi : l.findIdx? (hitS s.f s.t s.a) with
    | some i =>
      have hil : i < l.length := (List.findIdx?_eq_some_iff_getElem.1 hi).1
      have hk : keyS l[i] = keyS s := hit_iff.1 (List.findIdx?_eq_some_iff_getElem.1 hi).2.1
      have hL : rsetL l s = l.set i s := by simp [rsetL, hb, hi]
      have hW : rsetW l s = true := by simp [rsetW, hb, hi]
      rw [hL]
      have hkeys : (l.set i s).map keyS = l.map keyS := by
        rw [List.map_set, ← hk]
        have := @List.set_getElem_self _ (l.map keyS) i (by simpa using hil)
        simpa using this
      have hmem : ∀ x : St, x ∈ l.set i s ↔ x = s ∨ (x ∈ l ∧ keyS x ≠ keyS s) := by
        intro x
        constructor
        · intro hx
          obtain ⟨j, hj, rfl⟩ := List.getElem_of_mem hx
          simp only [List.length_set] at hj
          rw [List.getElem_set]
          by_cases hij : i = j
          · rw [if_pos hij]; exact .inl rfl
          · rw [if_neg hij]
            refine .inr ⟨List.getElem_mem _, fun e => hij ?_⟩
            have e1 : (l.map keyS)[i]? = some (keyS s) := by simp [hil, hk]
            have e2 : (l.map keyS)[j]? = some (keyS s) := by simp [hj, e]
            exact (List.getElem?_inj (by simpa using hil) h.uni).1 (e1.trans e2.symm)
        · rintro (rfl | ⟨hx, hne⟩)
          · exact List.mem_set (by simpa using hil) _
          · obtain ⟨j, hj, rfl⟩ := List.getElem_of_mem hx
            have hij : i ≠ j := fun e => hne (by subst e; exact hk)
            have : (l.set i s)[j]'(by simpa using hj) = l[j] := by rw [List.getElem_set, if_neg hij]
            rw [← this]
            exact List.getElem_mem _
      refine ⟨by rw [hkeys]; exact h.uni, fun x => (hget x).trans (hmem x).symm, ?_, fun x hx => ?_⟩
      · rw [h2, hW]; simp [h.cnt]
      · rcases (hmem x).1 hx with rfl | ⟨hx, -⟩
        · exact ⟨hs, hb⟩
        · exact h.ok x hx
    | none =>
      have hno : ∀ x ∈ l, keyS x ≠ keyS s := fun x hx e => by
        have := List.findIdx?_eq_none_iff.1 hi x hx
        rw [hit_iff.2 e] at this
        cases this
      have hn : ¬ 512 ≤ l.length := fun hc => by simp [rsetE, hb, hi, hc] at h0
      have hL : rsetL l s = l ++ [s] := by simp [rsetL, hb, hi, hn]
      have hW : rsetW l s = false := by simp [rsetW, hi]
      rw [hL]
      refine ⟨?_, fun x => (hget x).trans ?_, ?_, fun x hx => ?_⟩
      · rw [List.map_append, List.nodup_append]
        refine ⟨h.uni, by simp, fun a ha b hb' e => ?_⟩
        simp at hb'; subst hb'
        obtain ⟨x, hx, rfl⟩ := List.mem_map.1 ha
        exact hno x hx e
      · constructor
        · rintro (rfl | ⟨hx, -⟩) <;> simp_all
        · intro hx
          rcases List.mem_append.1 hx with hx | hx
          · exact .inr ⟨hx, hno x hx⟩
          · simp at hx; exact .inl hx
      · rw [h2, hW]; simp [h0, h.cnt]
      · rcases List.mem_append.1 hx with hx | hx
        · exact h.ok x hx
        · simp at hx; subst hx; exact ⟨hs, hb⟩
  · have hL : rsetL l s = l := by
      unfold rsetL
      unfold rsetE at h0
      cases hb : badS s with
      | true => simp
      | false =>
        cases hi : l.findIdx? (hitS s.f s.t s.a) with
        | some i => simp [hb, hi] at h0
        | none =>
          by_cases h5 : 512 ≤ l.length
          · simp [h5]
          · simp [hb, hi, h5] at h0
    rw [hL]
    have hs' : ∀ q, sps M' q = sps M q := fun q => by rw [h1, if_neg fun e => h0 e.1]
    refine ⟨h.uni, fun x => by rw [hs']; exact h.get x, ?_, h.ok⟩
    rw [h2, if_neg fun e => h0 e.1]; exact h.cnt
theorem RelT.drop {M M' : ME} {l : List St} (h : RelT M l) {f g a : Int} (h1 : ∀ q, sps M' q = if hasS M f g a = true ∧ q = (f, g) then mdel (sps M q) a else sps M q)
    (h2 : total M' + (if hasS M f g a then 1 else 0) = total M) : RelT M' (rdropL l f g a) := by
  have hh : hasS M f g a = (l.findIdx? (hitS f g a)).isSome := h.isS f g a
  rw [hh] at h1 h2
  cases hi : l.findIdx? (hitS f g a) with
  | none =>
    rw [hi] at h1 h2
    have hL : rdropL l f g a = l := by simp [rdropL, hi]
    rw [hL]
    have hs' : ∀ q, sps M' q = sps M q := fun q => by rw [h1]; simp
    exact ⟨h.uni, fun x => by rw [hs']; exact h.get x, by simpa [h.cnt] using h2, h.ok⟩
  | some i =>
    rw [hi] at h1 h2
    have hil : i < l.length := (List.findIdx?_eq_some_iff_getElem.1 hi).1
    have hk : keyS l[i] = (f, g, a) := hit_iff.1 (List.findIdx?_eq_some_iff_getElem.1 hi).2.1
    have hL : rdropL l f g a = l.eraseIdx i := by rw [List.eraseIdx_eq_take_drop_succ]; simp [rdropL, hi]
    rw [hL]
    have hmem : ∀ x : St, x ∈ l.eraseIdx i ↔ x ∈ l ∧ keyS x ≠ (f, g, a) := by
      intro x
      rw [List.mem_eraseIdx_iff_getElem?]
      constructor
      · rintro ⟨j, hj, hx⟩
        obtain ⟨hjl, rfl⟩ := List.getElem?_eq_some_iff.1 hx
        refine ⟨List.getElem_mem _, fun e => hj ?_⟩
        have e1 : (l.map keyS)[i]? = some (f, g, a) := by simp [hil, hk]
        have e2 : (l.map keyS)[j]? = some (f, g, a) := by simp [hjl, e]
        exact ((List.getElem?_inj (by simpa using hil) h.uni).1 (e1.trans e2.symm)).symm
      · rintro ⟨hx, hne⟩
        obtain ⟨j, hj, rfl⟩ := List.getElem_of_mem hx
        exact ⟨j, fun e => hne (by subst e; exact hk), List.getElem?_eq_getElem hj⟩
    refine ⟨?_, fun x => ?_, ?_, fun x hx => h.ok x ((hmem x).1 hx).1⟩
    · exact h.uni.sublist ((List.eraseIdx_sublist l i).map keyS)
    · rw [hmem, h1]
      by_cases hq : (x.f, x.t) = (f, g)
      · rw [if_pos ⟨rfl, hq⟩, kget_mdel]
        simp only [Prod.mk.injEq] at hq
        by_cases ha : x.a = a
        · rw [if_pos ha]
          simp [keyS, hq, ha]
        · rw [if_neg ha, h.get]
          simp [keyS, ha]
      · rw [if_neg fun e => hq e.2, h.get]
        simp only [Prod.mk.injEq, not_and] at hq
        constructor
        · exact fun hx => ⟨hx, fun e => by simp only [keyS, Prod.mk.injEq] at e; exact hq e.1 e.2.1⟩
        · exact fun hx => hx.1
    · have := h.cnt
      rw [List.length_eraseIdx, if_pos hil]
      simp at h2
      omega
theorem RelT.dropS {M : ME} {l : List St} (h : RelT M l) (f g a : Int) : dropSt M f g a = rdropS l f g a := by
  unfold dropSt rdropS
  have hh : hasS M f g a = (l.findIdx? (hitS f g a)).isSome := h.isS f g a
  rw [hh, h.mget, find_findIdx]
  cases hi : l.findIdx? (hitS f g a) with
  | none => simp [st0]
  | some i =>
    have hil : i < l.length := (List.findIdx?_eq_some_iff_getElem.1 hi).1
    have hk : keyS l[i] = (f, g, a) := hit_iff.1 (List.findIdx?_eq_some_iff_getElem.1 hi).2.1
    simp only [keyS, Prod.mk.injEq] at hk
    obtain ⟨k1, k2, k3⟩ := hk
    subst k1 k2 k3
    simp [hil]
theorem RelT.dropE {M : ME} {l : List St} (h : RelT M l) (f g a : Int) : (if hasS M f g a then (0 : Int) else 5) = rdropE l f g a := by
  have hh : hasS M f g a = (l.findIdx? (hitS f g a)).isSome := h.isS f g a
  rw [hh]
  rfl
end Go.Proofs
namespace Go.Proofs
open Pk
set_option maxRecDepth 10000
theorem RelT.gdT {w : World} {t R : Nat} {M : ME} {l : List St} (h : RelT M l) (ht : TabAt w t R M) : gdT M := by
  refine gdT_of ht fun q p hp => ?_
  have hn : ((sps M q).map (·.1)).Nodup := by
    have := ht.inn q
    exact this.nodup
  have h1 := (kget_iff hn (k := p.1) (v := p.2)).2 hp
  have h2 := (h.get ⟨q.1, q.2, p.1, p.2⟩).1 h1
  obtain ⟨h3, h4⟩ := h.ok _ h2
  have := h3.a
  have := h3.k
  unfold badS at h4
  simp only [Bool.or_eq_false_iff, decide_eq_false_iff_not] at h4
  simp only at *
  omega
theorem isKey {M : ME} {l : List St} (h : RelT M l) (f g k : Int) : k ∈ (sps M (f, g)).map (·.1) ↔ ∃ s ∈ l, s.f = f ∧ s.t = g ∧ s.a = k := by
  constructor
  · intro hk
    have := mem_key hk
    obtain ⟨v, hv⟩ := Option.isSome_iff_exists.1 this
    exact ⟨⟨f, g, k, v⟩, (h.get ⟨f, g, k, v⟩).1 hv, rfl, rfl, rfl⟩
  · rintro ⟨s, hs, rfl, rfl, rfl⟩
    have := (h.get s).2 hs
    exact List.mem_map.2 ⟨_, kget_mem this, rfl⟩
/-! ### Ticks -/
def tkP (l : List St) (f g a : Int) (st : Int × Int × Bool) : Prop :=
  (st.2.2 = false → st.1 = 0 ∧ ∀ s ∈ l, s.f = f → s.t = g → ¬ s.a ≤ a) ∧ (st.2.2 = true → (⟨f, g, st.2.1, st.1⟩ : St) ∈ l ∧ st.2.1 ≤ a ∧ ∀ s ∈ l, s.f = f → s.t = g → s.a ≤ a → s.a ≤ st.2.1)
theorem tkP_all (l : List St) (f g a : Int) : ∀ i, i ≤ l.length → tkP (l.take i) f g a (rtkF (l.take i) f g a)
  | 0, _ => ⟨fun _ => ⟨rfl, by simp⟩, fun h => by simp [rtkF] at h⟩
  | i + 1, hi => by
    have ih := tkP_all l f g a i (by omega)
    have hil : i < l.length := by omega
    rw [rtkF_succ hil]
    have htk : l.take (i + 1) = l.take i ++ [l[i]] := by rw [List.take_add_one, List.getElem?_eq_getElem hil]; rfl
    rw [htk]
    generalize rtkF (l.take i) f g a = st at *
    obtain ⟨n, la, is⟩ := st
    generalize l[i] = x
    have skip : (¬ (x.f = f ∧ x.t = g ∧ x.a ≤ a)) → tkP (l.take i ++ [x]) f g a (n, la, is) := by
      intro hx
      refine ⟨fun e => ⟨(ih.1 e).1, fun s hs h1 h2 h3 => ?_⟩, fun e => ⟨by simp [(ih.2 e).1], (ih.2 e).2.1, fun s hs h1 h2 h3 => ?_⟩⟩
      · rcases List.mem_append.1 hs with hs | hs
        · exact (ih.1 e).2 s hs h1 h2 h3
        · simp at hs; subst hs; exact hx ⟨h1, h2, h3⟩
      · rcases List.mem_append.1 hs with hs | hs
        · exact (ih.2 e).2.2 s hs h1 h2 h3
        · simp at hs; subst hs; exact absurd ⟨h1, h2, h3⟩ hx
    unfold tkS
    by_cases b0 : x.f = f
    · by_cases b1 : x.t = g
      · by_cases b2 : x.a ≤ a
        · subst b0 b1
          rw [if_pos rfl, if_pos rfl, if_pos b2]
          cases is with
          | false =>
            simp only [if_true]
            refine ⟨fun e => (by cases e), fun _ => ⟨by simp, b2, fun s hs h1 h2 h3 => ?_⟩⟩
            rcases List.mem_append.1 hs with hs | hs
            · exact absurd h3 ((ih.1 rfl).2 s hs h1 h2)
            · simp at hs; subst hs; exact Int.le_refl _
          | true =>
            by_cases b3 : la ≤ x.a
            · simp only [Bool.true_eq_false, if_false, b3, if_true]
              refine ⟨fun e => (by cases e), fun _ => ⟨by simp, b2, fun s hs h1 h2 h3 => ?_⟩⟩
              rcases List.mem_append.1 hs with hs | hs
              · have := (ih.2 rfl).2.2 s hs h1 h2 h3
                simp only at this ⊢
                omega
              · simp at hs; subst hs; exact Int.le_refl _
            · simp only [Bool.true_eq_false, if_false, b3]
              refine ⟨fun e => (by cases e), fun _ => ⟨by simp [(ih.2 rfl).1], (ih.2 rfl).2.1, fun s hs h1 h2 h3 => ?_⟩⟩
              rcases List.mem_append.1 hs with hs | hs
              · exact (ih.2 rfl).2.2 s hs h1 h2 h3
              · simp at hs; subst hs; simp only; omega
        · rw [if_pos b0, if_pos b1, if_neg b2]; exact skip fun h => b2 h.2.2
      · rw [if_pos b0, if_neg b1]; exact skip fun h => b1 h.2.1
    · rw [if_neg b0]; exact skip fun h => b0 h.1
theorem RelT.tk {M : ME} {l : List St} (h : RelT M l) (f g a : Int) : tk (sps M (f, g)) a = rtk l f g a := by
  have h1 := tkP_all l f g a l.length (Nat.le_refl _)
  rw [List.take_length] at h1
  have h2 := lk_last a ((sps M (f, g)).map (·.1))
  unfold Go.Proofs.tk rtk
  generalize hst : rtkF l f g a = st at *
  obtain ⟨n, la, is⟩ := st
  cases is with
  | false =>
    obtain ⟨h3, h4⟩ := h1.1 rfl
    have : isLast ((sps M (f, g)).map (·.1)) a none := fun k hk => by
      obtain ⟨s, hs, e1, e2, rfl⟩ := (isKey h f g k).1 hk
      have := h4 s hs e1 e2
      omega
    rw [h2.uniq this]
    exact h3.symm
  | true =>
    obtain ⟨h3, h4, h5⟩ := h1.2 rfl
    have : isLast ((sps M (f, g)).map (·.1)) a (some la) := by
      refine ⟨(isKey h f g la).2 ⟨_, h3, rfl, rfl, rfl⟩, h4, fun k hk hka => ?_⟩
      obtain ⟨s, hs, e1, e2, rfl⟩ := (isKey h f g k).1 hk
      exact h5 s hs e1 e2 hka
    rw [h2.uniq this]
    have := (h.get ⟨f, g, la, n⟩).2 h3
    simp only at this ⊢
    rw [this]
    rfl
theorem RelT.lnd {M : ME} {l : List St} (h : RelT M l) (f g a : Int) : lnd (sps M (f, g)) a = rlnd l f g a := by
  unfold Go.Proofs.lnd rlnd
  rw [h.tk]
/-! ### The best sending -/
theorem BestOf.step {m : ML} {s : Sp2} {ks : List Int} {b : Int} (h : BestOf m s ks b) (k : Int) :
    BestOf m s (ks ++ [k]) (if inS s k = true then (if Go.Proofs.lnd m k < Go.Proofs.lnd m b then k else if Go.Proofs.lnd m k = Go.Proofs.lnd m b then (if k < b then k else b) else b) else b) := by
  have keep : (inS s k = true → Go.Proofs.lnd m b ≤ Go.Proofs.lnd m k ∧ (Go.Proofs.lnd m k = Go.Proofs.lnd m b → b ≤ k)) → BestOf m s (ks ++ [k]) b := by
    intro hk
    refine ⟨?_, h.lef, ?_, ?_, h.tief⟩
    · rcases h.mem with h1 | h1
      · exact .inl h1
      · exact .inr ⟨by simp [h1.1], h1.2⟩
    · intro x hx hxi
      rcases List.mem_append.1 hx with hx | hx
      · exact h.lek x hx hxi
      · simp at hx; subst hx; exact (hk hxi).1
    · intro x hx hxi
      rcases List.mem_append.1 hx with hx | hx
      · exact h.tie x hx hxi
      · simp at hx; subst hx; exact (hk hxi).2
  have move : inS s k = true → Go.Proofs.lnd m k ≤ Go.Proofs.lnd m b → (Go.Proofs.lnd m k = Go.Proofs.lnd m b → k ≤ b) → BestOf m s (ks ++ [k]) k := by
    intro hi h1 h2
    refine ⟨.inr ⟨by simp, hi⟩, by have := h.lef; omega, ?_, ?_, fun e => ?_⟩
    · intro x hx hxi
      rcases List.mem_append.1 hx with hx | hx
      · have := h.lek x hx hxi; omega
      · simp at hx; subst hx; exact Int.le_refl _
    · intro x hx hxi e
      rcases List.mem_append.1 hx with hx | hx
      · have h3 := h.lek x hx hxi
        have h4 := h.tie x hx hxi (by omega)
        have := h2 (by omega)
        omega
      · simp at hx; subst hx; exact Int.le_refl _
    · have h3 := h.lef
      have h4 := h.tief (by omega)
      have := h2 (by omega)
      omega
  cases hi : inS s k with
  | false =>
    simp only [Bool.false_eq_true, if_false]
    exact keep fun e => by rw [hi] at e; cases e
  | true =>
    simp only [if_true]
    split
    · exact move hi (by omega) fun e => by omega
    · split
      · split
        · exact move hi (by omega) fun e => by omega
        · exact keep fun _ => ⟨by omega, fun _ => by omega⟩
      · exact keep fun _ => ⟨by omega, fun _ => by omega⟩
theorem BestOf.uniq {m : ML} {s : Sp2} {ks ks' : List Int} {b b' : Int} (h : BestOf m s ks b) (h' : BestOf m s ks' b') (hk : ∀ k, k ∈ ks ↔ k ∈ ks') : b = b' := by
  have e1 : Go.Proofs.lnd m b ≤ Go.Proofs.lnd m b' := by
    rcases h'.mem with e | e
    · rw [e]; exact h.lef
    · exact h.lek _ ((hk _).2 e.1) e.2
  have e2 : Go.Proofs.lnd m b' ≤ Go.Proofs.lnd m b := by
    rcases h.mem with e | e
    · rw [e]; exact h'.lef
    · exact h'.lek _ ((hk _).1 e.1) e.2
  have e3 : b ≤ b' := by
    rcases h'.mem with e | e
    · rw [e] at e1 e2 ⊢; exact h.tief (by omega)
    · exact h.tie _ ((hk _).2 e.1) e.2 (by omega)
  have e4 : b' ≤ b := by
    rcases h.mem with e | e
    · rw [e] at e1 e2 ⊢; exact h'.tief (by omega)
    · exact h'.tie _ ((hk _).1 e.1) e.2 (by omega)
  omega
theorem BestOf.zero (m : ML) (s : Sp2) : BestOf m s [] s.from' := ⟨.inl rfl, Int.le_refl _, by simp, by simp, fun _ => Int.le_refl _⟩
theorem rbst_all {M : ME} {l : List St} (h : RelT M l) (f g : Int) (s : Sp2) : ∀ i, i ≤ l.length → BestOf (sps M (f, g)) s (((l.take i).filter (ofFG f g)).map (·.a)) ((l.take i).foldl (bstS l f g s) s.from')
  | 0, _ => BestOf.zero _ _
  | i + 1, hi => by
    have ih := rbst_all h f g s i (by omega)
    have hil : i < l.length := by omega
    rw [rbst_succ hil]
    have htk : l.take (i + 1) = l.take i ++ [l[i]] := by rw [List.take_add_one, List.getElem?_eq_getElem hil]; rfl
    rw [htk, List.filter_append, List.map_append]
    generalize (l.take i).foldl (bstS l f g s) s.from' = b at *
    unfold bstS
    by_cases b0 : l[i].f = f
    · by_cases b1 : l[i].t = g
      · have hq : ofFG f g l[i] = true := by simp [ofFG, b0, b1]
        rw [if_pos b0, if_pos b1]
        simp only [List.filter_cons, hq, if_true, List.filter_nil, List.map_cons, List.map_nil]
        have := ih.step l[i].a
        rw [h.lnd, h.lnd] at this
        exact this
      · rw [if_pos b0, if_neg b1]
        simpa [ofFG, b1] using ih
    · rw [if_neg b0]
      simpa [ofFG, b0] using ih
theorem RelT.best {M : ME} {l : List St} (h : RelT M l) (f g : Int) (s : Sp2) {ys : List Int} (hy : isKeys (sps M (f, g)) ys) : bst (sps M (f, g)) s s.from' ys = rbst l f g s := by
  have h1 := bst_best (m := sps M (f, g)) (s := s) ys [] s.from' (by simpa using hy.2) (BestOf.zero _ _)
  have h2 := rbst_all h f g s l.length (Nat.le_refl _)
  rw [List.take_length] at h2
  refine h1.uniq h2 fun k => ?_
  rw [List.nil_append, hy.1.mem_iff, isKey h, List.mem_map]
  constructor
  · rintro ⟨x, hx, e1, e2, e3⟩
    exact ⟨x, List.mem_filter.2 ⟨hx, by simp [ofFG, e1, e2]⟩, e3⟩
  · rintro ⟨x, hx, e3⟩
    obtain ⟨h1, h2⟩ := List.mem_filter.1 hx
    simp [ofFG] at h2
    exact ⟨x, h1, h2.1, h2.2, e3⟩
/-! ### The steps, by time -/
theorem RelT.steps {w : World} {t R : Nat} {M : ME} {l : List St} (h : RelT M l) (ht : TabAt w t R M) {f g : Int} {ys : List Int} (hy : isKeys (sps M (f, g)) ys) {rs : List St} (hr : isSteps l f g rs) :
    rs.map (·.a) = ys ∧ ∀ x ∈ rs, Pk.mget (sps M (f, g)) x.a = some x.k := by
  have hmem : ∀ x, x ∈ rs ↔ x ∈ l ∧ x.f = f ∧ x.t = g := fun x => by
    rw [hr.2.mem_iff, List.mem_filter]
    simp [ofFG]
  have hnd : (rs.map (·.a)).Nodup := by
    have h1 : ((l.filter (ofFG f g)).map (·.a)).Nodup := by
      have h2 : ((l.filter (ofFG f g)).map keyS).Nodup := h.uni.sublist (List.filter_sublist.map keyS)
      have h3 : ((l.filter (ofFG f g)).map keyS) = ((l.filter (ofFG f g)).map (·.a)).map fun a => (f, g, a) := by
        rw [List.map_map]
        refine List.map_congr_left fun x hx => ?_
        have := (List.mem_filter.1 hx).2
        simp [ofFG] at this
        simp [keyS, this]
      rw [h3] at h2
      exact (List.pairwise_map.1 h2).imp fun h e => h (by rw [e])
    exact ((hr.2.map _).nodup_iff).2 h1
  have hnk : ((sps M (f, g)).map (·.1)).Nodup := (ht.inn (f, g)).nodup
  refine ⟨?_, fun x hx => ?_⟩
  · refine List.Perm.eq_of_pairwise (le := (· ≤ ·)) (fun a b _ _ h1 h2 => Int.le_antisymm h1 h2) (List.pairwise_map.2 hr.1) hy.2 ?_
    refine List.Perm.trans ?_ hy.1.symm
    rw [List.perm_ext_iff_of_nodup hnd hnk]
    intro k
    rw [isKey h, List.mem_map]
    constructor
    · rintro ⟨x, hx, rfl⟩
      obtain ⟨h1, h2, h3⟩ := (hmem x).1 hx
      exact ⟨x, h1, h2, h3, rfl⟩
    · rintro ⟨x, h1, h2, h3, rfl⟩
      exact ⟨x, (hmem x).2 ⟨h1, h2, h3⟩, rfl⟩
  · obtain ⟨h1, rfl, rfl⟩ := (hmem x).1 hx
    exact (h.get x).2 h1
end Go.Proofs
namespace Go.Proofs
open Pk
set_option maxRecDepth 10000
theorem nodup_of_map {α β : Type} (f : α → β) {l : List α} (h : (l.map f).Nodup) : l.Nodup := (List.pairwise_map.1 h).imp fun h e => h (by rw [e])
theorem sameL_iff {l l' : List St} (h : (l.map keyS).Nodup) (h' : (l'.map keyS).Nodup) : sameL l l' ↔ ∀ s, s ∈ l ↔ s ∈ l' := by
  constructor
  · rintro ⟨h1, h2⟩ s
    have hs : ∀ x ∈ l, x ∈ l' := fun x hx => ((fnd_iff h').1 (h2 x hx)).1
    exact ⟨hs s, nodup_sub (nodup_of_map _ h) hs (by omega) s⟩
  · intro hs
    refine ⟨?_, fun x hx => (fnd_iff h').2 ⟨(hs x).1 hx, rfl⟩⟩
    have := nodup_sub_le l l' (nodup_of_map _ h) fun x hx => (hs x).1 hx
    have := nodup_sub_le l' l (nodup_of_map _ h') fun x hx => (hs x).2 hx
    omega
theorem RelT.mem_iff {M M' : ME} {l l' : List St} (h : RelT M l) (h' : RelT M' l') : (∀ s, s ∈ l ↔ s ∈ l') ↔ ∀ q k, Pk.mget (sps M q) k = Pk.mget (sps M' q) k := by
  constructor
  · intro hs q k
    apply Option.ext
    intro v
    exact (h.get ⟨q.1, q.2, k, v⟩).trans ((hs _).trans (h'.get ⟨q.1, q.2, k, v⟩).symm)
  · intro hq s
    rw [← h.get, ← h'.get, hq]
theorem sps_mem {w : World} {t R : Nat} {M : ME} (h : TabAt w t R M) {x : PK × (Nat × ML)} (hx : x ∈ M) : sps M x.1 = x.2.2 := by
  unfold sps
  rw [(kget_iff h.map.nodup (k := x.1) (v := x.2)).2 hx]
  rfl
theorem sps_ne {w : World} {t R : Nat} {M : ME} (h : TabAt w t R M) (q : PK) : q ∈ M.map (·.1) ↔ ∃ k, (Pk.mget (sps M q) k).isSome = true := by
  constructor
  · intro hq
    obtain ⟨x, hx, rfl⟩ := List.mem_map.1 hq
    rw [sps_mem h hx]
    have hne := h.full x hx
    have hnd := (h.inner x hx).nodup
    cases hm : x.2.2 with
    | nil => exact absurd hm hne
    | cons p m => exact ⟨p.1, by simp [kget_cons]⟩
  · rintro ⟨k, hk⟩
    cases hg : Pk.mget M q with
    | none =>
      unfold sps at hk
      rw [hg] at hk
      simp [Pk.mget] at hk
    | some x => exact List.mem_map.2 ⟨_, kget_mem hg, rfl⟩
theorem eqT_iff {w : World} {t R t' R' : Nat} {M M' : ME} (h : TabAt w t R M) (h' : TabAt w t' R' M') : eqT M M' = true ↔ ∀ q k, Pk.mget (sps M q) k = Pk.mget (sps M' q) k := by
  unfold eqT
  rw [Bool.and_eq_true, decide_eq_true_eq, List.all_eq_true]
  constructor
  · rintro ⟨hl, hall⟩ q k
    have hsub : ∀ z ∈ M.map (·.1), z ∈ M'.map (·.1) := fun z hz => by
      obtain ⟨x, hx, rfl⟩ := List.mem_map.1 hz
      have := hall x hx
      unfold okx at this
      cases hg : Pk.mget M' x.1 with
      | none => rw [hg] at this; cases this
      | some y => exact List.mem_map.2 ⟨_, kget_mem hg, rfl⟩
    have hback := nodup_sub h.map.nodup hsub (by simp [hl])
    by_cases hq : q ∈ M.map (·.1)
    · obtain ⟨x, hx, rfl⟩ := List.mem_map.1 hq
      have := hall x hx
      unfold okx at this
      cases hg : Pk.mget M' x.1 with
      | none => rw [hg] at this; cases this
      | some y =>
        rw [hg] at this
        have he : eqv x.2.2 y.2 := by simpa using this
        rw [sps_mem h hx, sps_mem h' (kget_mem hg)]
        exact (eqv_iff (h.inner x hx).nodup (h'.inner _ (kget_mem hg)).nodup).1 he k
    · have hq' : q ∉ M'.map (·.1) := fun e => hq (hback q e)
      have e1 : Pk.mget (sps M q) k = none := by
        cases hx : Pk.mget (sps M q) k with
        | none => rfl
        | some v => exact absurd ((sps_ne h q).2 ⟨k, by rw [hx]; rfl⟩) hq
      have e2 : Pk.mget (sps M' q) k = none := by
        cases hx : Pk.mget (sps M' q) k with
        | none => rfl
        | some v => exact absurd ((sps_ne h' q).2 ⟨k, by rw [hx]; rfl⟩) hq'
      rw [e1, e2]
  · intro hs
    have hk : ∀ q, q ∈ M.map (·.1) ↔ q ∈ M'.map (·.1) := fun q => by
      rw [sps_ne h, sps_ne h']
      constructor
      · rintro ⟨k, hk⟩; exact ⟨k, by rw [← hs]; exact hk⟩
      · rintro ⟨k, hk⟩; exact ⟨k, by rw [hs]; exact hk⟩
    have l1 := nodup_sub_le _ _ h.map.nodup fun q hq => (hk q).1 hq
    have l2 := nodup_sub_le _ _ h'.map.nodup fun q hq => (hk q).2 hq
    simp only [List.length_map] at l1 l2
    refine ⟨by omega, fun x hx => ?_⟩
    have hx' := (hk x.1).1 (List.mem_map.2 ⟨x, hx, rfl⟩)
    obtain ⟨y, hy, hye⟩ := List.mem_map.1 hx'
    have hg := (kget_iff h'.map.nodup (k := y.1) (v := y.2)).2 hy
    rw [hye] at hg
    unfold okx
    rw [hg]
    have he : eqv x.2.2 y.2.2 := (eqv_iff (h.inner x hx).nodup (h'.inner y hy).nodup).2 fun k => by
      have := hs x.1 k
      rw [sps_mem h hx, ← hye, sps_mem h' hy] at this
      exact this
    simpa using he
theorem RelT.same {w : World} {t R t' R' : Nat} {M M' : ME} {l l' : List St} (h : RelT M l) (h' : RelT M' l') (ht : TabAt w t R M) (ht' : TabAt w t' R' M') : eqT M M' = decide (sameL l l') := by
  rw [Bool.eq_iff_iff, decide_eq_true_eq, eqT_iff ht ht', sameL_iff h.uni h'.uni, h.mem_iff h']
theorem eqT_comm {w : World} {t R t' R' : Nat} {M M' : ME} (h : TabAt w t R M) (h' : TabAt w t' R' M') : eqT M' M = eqT M M' := by
  rw [Bool.eq_iff_iff, eqT_iff h h', eqT_iff h' h]
  exact ⟨fun e q k => (e q k).symm, fun e q k => (e q k).symm⟩
/-- What tells the same of all keys. -/
theorem RelT.of_sps {M M' : ME} {l : List St} (h : RelT M l) (hs : ∀ q, sps M' q = sps M q) (ht : total M' = total M) : RelT M' l :=
  ⟨h.uni, fun s => by rw [hs]; exact h.get s, by rw [ht]; exact h.cnt, h.ok⟩
end Go.Proofs
