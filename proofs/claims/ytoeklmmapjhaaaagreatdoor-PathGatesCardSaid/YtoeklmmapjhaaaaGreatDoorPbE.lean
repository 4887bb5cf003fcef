/-
  Contracts of the functions that the law reaches, step by step.
-/
import Derived.Test.YtoeklmmapjhaaaaGreatDoorPaK
import Derived.Test.YtoeklmmapjhaaaaGreatDoorPbB
namespace Go.Proofs
open Pk
set_option maxRecDepth 10000
set_option maxHeartbeats 1000000 in
theorem equal_c {w : World} {v1 v2 : Value} {l1 l2 : List Cr} (h1 : CSl w v1 l1) (h2 : CSl w v2 l2) (hb : l1.length ≤ 9223372036854775807) :
    FN Tryz.prog 20 [v1, v2] w fun e w' => e = .returned (.bool (decide (l1 = l2))) ∧ Ext w w' := by
  obtain ⟨a1, c1, rfl⟩ := h1.isSlice
  obtain ⟨a2, c2, rfl⟩ := h2.isSlice
  refine FN_enter Tryz.func20 rfl rfl (by kernel_rfl) ?_
  have len1 := fun ty W => h1.isLen (P := Tryz.prog) (t := 22) (by simp) ty W
  have len2 := fun ty W => h2.isLen (P := Tryz.prog) (t := 22) (by simp) ty W
  by_cases hl : l1.length = l2.length
  · simp [len2, hl]
    refine WC_loop (fun k ρ ds w' => ∃ i : Nat, k = l2.length - i ∧ i ≤ l2.length ∧ ρ 0 = .slice a1 l2.length c1 ∧ ρ 1 = .slice a2 l2.length c2 ∧ ρ 12 = i64 l2.length ∧ ρ 13 = i64 i ∧ ds = [] ∧ Ext w w' ∧ l1.take i = l2.take i) l2.length ⟨0, by simp, by simp, by simp, by simp, by simp, by simp, rfl, Ext.refl _, rfl⟩ ?_
    rintro k ρ ds w2 ⟨i, rfl, hi, e0, e1, e12, e13, rfl, hE, ht⟩
    by_cases hlt : i < l2.length
    · have hlt1 : i < l1.length := by omega
      simp [e12, e13, hlt]
      refine WC_drawC 8 (.F 0 <| .F 1 <| .F 2 <| .F 3 <| .F 4 <| .F 5 <| .F 6 <| .F 7 <| .Z) (fun _ => false) rfl (by kernel_rfl) fun W hW => ?_
      have hWE : Ext w2 W := hW ▸ Ext.drew _
      have hEW := hE.trans hWE
      have r1 := CSl.row (SlB.ext h1 hEW) (List.getElem?_eq_getElem hlt1)
      have r2 := CSl.row (SlB.ext h2 hEW) (List.getElem?_eq_getElem hlt)
      have ix1 := CSl.index h1 i hlt1 W
      have ix2 := CSl.index h2 i hlt W
      rw [hl] at ix1 r1
      have t1 : l1.take (i + 1) = l1.take i ++ [l1[i]] := by rw [List.take_add_one, List.getElem?_eq_getElem hlt1]; rfl
      have t2 : l2.take (i + 1) = l2.take i ++ [l2[i]] := by rw [List.take_add_one, List.getElem?_eq_getElem hlt]; rfl
      cases hq : crB l1[i] l2[i] with
      | true =>
        have he : l1[i] = l2[i] := by simpa [crB] using hq
        simp [e0, e1, e12, e13, ix1, ix2, r1.c0, r1.c1, r2.c0, r2.c1, hq]
        exact ⟨l2.length - (i + 1), by omega, i + 1, rfl, by omega, by rw [wrap64 _ (by omega) (by omega)]; rfl, hEW, by rw [t1, t2, ht, he]⟩
      | false =>
        have he : ¬ l1[i] = l2[i] := by simpa [crB] using hq
        simp [e0, e1, ix1, ix2, r1.c0, r1.c1, r2.c0, r2.c1, hq]
        exact ⟨fun e => he (by simp [e]), hEW⟩
    · have : i = l2.length := by omega
      subst this
      simp [e12, e13]
      rw [← hl, List.take_length, hl, List.take_length] at ht
      exact ⟨ht, hE⟩
  · have hn : ¬ l1 = l2 := fun e => hl (by rw [e])
    have hl2 : ¬ ((l1.length : Int) = (l2.length : Int)) := by omega
    simp [len1, len2, hl2, hn]
    exact Ext.refl w
theorem psame_c {w : World} {v1 v2 : Value} {l1 l2 : List Cr} (b1 b2 : Bool) (h1 : CSl w v1 l1) (h2 : CSl w v2 l2) (hb : l1.length ≤ 9223372036854775807) :
    FN Tryz.prog 8 [ptV b1 v1, ptV b2 v2] w fun e w' => e = .returned (.bool (decide (b1 = b2 ∧ l1 = l2))) ∧ Ext w w' := by
  obtain ⟨a1, c1, rfl⟩ := h1.isSlice
  obtain ⟨a2, c2, rfl⟩ := h2.isSlice
  refine FN_enter Tryz.func8 rfl rfl (by kernel_rfl) ?_
  have hE1 : Ext w ((w.alloc (.cells #[.bool b1, .slice a1 l1.length c1] 24)).alloc (.cells #[.bool b2, .slice a2 l2.length c2] 24)) := ((Ext.refl w).alloc _).alloc _
  by_cases hbb : b1 = b2
  · simp [hbb]
    rw [hbb] at hE1
    generalize ((w.alloc (.cells #[.bool b2, .slice a1 l1.length c1] 24)).alloc (.cells #[.bool b2, .slice a2 l2.length c2] 24)) = w1 at *
    refine FN.mono (equal_c (SlB.ext h1 hE1) (SlB.ext h2 hE1) hb) ?_
    rintro _ w2 ⟨rfl, hE2⟩
    simp
    exact ⟨fun _ => hbb, hE1.trans hE2⟩
  · have hbq : (b1 == b2) = false := by simp [hbb]
    simp [hbb, hbq]
    exact hE1
/-- What stands behind the first few of a row. -/
theorem sl_tail {P : Program} {t : TypeId} {w : World} {s : Nat} {v : Value} {n : Nat} {cs : List Value} (h : Sl w s v n cs) (hs : isS (P.underlying t) = true) (hz : ∀ W, (Go.sizeOf (elemT (P.underlying t))).run P W = .ok s W) (k : IntKind) (i : Nat) (hi : i ≤ n) :
    ∃ u, (∀ W, (Instr.sliceAt t v (some (.int k i)) none none).run P W = .ok u W) ∧ ∀ W, Sl W s v n cs → Sl W s u (n - i) (cs.drop (i * s)) := by
  obtain ⟨a, c, hv⟩ : ∃ a c, v = .slice a n c := by
    rcases h.val with ⟨c, h1, h2⟩ | ⟨b', o', c', h1, _⟩
    · exact ⟨_, _, by rw [h1, h2]⟩
    · exact ⟨_, _, h1⟩
  subst hv
  refine ⟨sliced a i n c s, fun W => ?_, fun W hS => ?_⟩
  · have := sl_l (P := P) hs a n c k i (by omega) (by omega) W
    rw [this, hz]
    simp
  · have hm : i * s ≤ n * s := Nat.mul_le_mul_right _ hi
    refine ⟨by rw [List.length_drop, hS.len, Nat.sub_mul], ?_, ?_⟩
    · rcases hS.val with ⟨c', h1, h2⟩ | ⟨b', o', c', h1, h2⟩
      · cases h1
        have : i = 0 := by omega
        subst this
        exact .inl ⟨c, by simp [sliced], by omega⟩
      · cases h1
        refine .inr ?_
        unfold sliced
        split
        · exact ⟨b', o', _, rfl, by omega⟩
        · exact ⟨b', o' + i * s, c - i, by simp, by omega⟩
    · intro j u hj
      rw [List.getElem?_drop] at hj
      have hc := hS.at_ _ u hj
      have hlt := (List.getElem?_eq_some_iff.1 hj).1
      rw [hS.len] at hlt
      rcases hS.val with ⟨c', h1, h2⟩ | ⟨b', o', c', h1, h2⟩
      · subst h2; omega
      · cases h1
        by_cases hci : c = i
        · have : n = i := by omega
          subst this
          omega
        · have e : sliced (some ⟨b', o', none⟩) i n c s = .slice (some ⟨b', o' + i * s, none⟩) (n - i) (c - i) := by
            unfold sliced; rw [if_neg hci]; simp
          rw [e]
          simp only [slB, slO] at hc ⊢
          rw [Nat.add_assoc]; exact hc
end Go.Proofs
namespace Go.Proofs
open Pk
set_option maxRecDepth 10000
/-- The gates of crossings, rising. -/
def SG (l : List Cr) (gs : List Int) : Prop := gs.Pairwise (· < ·) ∧ ∀ g, g ∈ gs ↔ 0 < gN l g
def nsOf (l : List Cr) (gs : List Int) : List Int := gs.map fun g => (gN l g : Int)
theorem SG.nil : SG [] [] := ⟨List.Pairwise.nil, fun g => by simp [gN]⟩
theorem lt_nodup {gs : List Int} (h : gs.Pairwise (· < ·)) : gs.Nodup := h.imp fun h e => by omega
theorem SG.hit {l : List Cr} {gs : List Int} {c : Cr} {k : Nat} (h : SG l gs) (hk : gs[k]? = some c.1) : SG (l ++ [c]) gs ∧ nsOf (l ++ [c]) gs = (nsOf l gs).set k ((gN l c.1 : Int) + 1) := by
  have hm : c.1 ∈ gs := List.mem_of_getElem? hk
  refine ⟨⟨h.1, fun g => ?_⟩, ?_⟩
  · rw [gN_snoc, h.2 g]
    by_cases hg : c.1 = g
    · have := (h.2 g).1 (hg ▸ hm)
      rw [if_pos hg]; omega
    · rw [if_neg hg]; omega
  · unfold nsOf
    apply List.ext_getElem?
    intro j
    rw [List.getElem?_set, List.getElem?_map, List.getElem?_map]
    have hkl := (List.getElem?_eq_some_iff.1 hk).1
    have hke := (List.getElem?_eq_some_iff.1 hk).2
    by_cases hj : k = j
    · subst hj
      simp [hkl, hke, gN_snoc]
    · simp only [hj, if_false]
      cases hx : gs[j]? with
      | none => rfl
      | some x =>
        have hjl := (List.getElem?_eq_some_iff.1 hx).1
        have hje := (List.getElem?_eq_some_iff.1 hx).2
        have hne : ¬ c.1 = x := by
          rw [← hke, ← hje]
          intro e
          have hp := List.pairwise_iff_getElem.1 h.1
          rcases Nat.lt_or_gt_of_ne hj with h1 | h1
          · have := hp k j hkl hjl h1; omega
          · have := hp j k hjl hkl h1; omega
        simp [gN_snoc, hne]
theorem SG.miss {l : List Cr} {gs : List Int} {c : Cr} {k : Nat} (h : SG l gs) (h1 : ∀ x ∈ gs.take k, x < c.1) (h2 : ∀ x, gs[k]? = some x → c.1 < x) :
    SG (l ++ [c]) (gs.take k ++ [c.1] ++ gs.drop k) ∧ nsOf (l ++ [c]) (gs.take k ++ [c.1] ++ gs.drop k) = (nsOf l gs).take k ++ [1] ++ (nsOf l gs).drop k := by
  have h3 : ∀ x ∈ gs.drop k, c.1 < x := by
    intro x hx
    obtain ⟨j, hj⟩ := List.getElem?_of_mem hx
    rw [List.getElem?_drop] at hj
    have hjl := (List.getElem?_eq_some_iff.1 hj).1
    have hje := (List.getElem?_eq_some_iff.1 hj).2
    have hk : k < gs.length := by omega
    have h4 := h2 gs[k] (List.getElem?_eq_getElem hk)
    by_cases h0 : j = 0
    · subst h0; simp only [Nat.add_zero] at hje; rw [← hje]; exact h4
    · have := List.pairwise_iff_getElem.1 h.1 k (k + j) hk hjl (by omega)
      omega
  have hnot : c.1 ∉ gs := by
    intro hm
    rw [← List.take_append_drop k gs] at hm
    rcases List.mem_append.1 hm with hm | hm
    · have := h1 _ hm; omega
    · have := h3 _ hm; omega
  have hg0 : gN l c.1 = 0 := by
    exact Nat.eq_zero_of_not_pos fun h0 => hnot ((h.2 c.1).2 h0)
  refine ⟨⟨?_, fun g => ?_⟩, ?_⟩
  · have hp := h.1
    rw [← List.take_append_drop k gs, List.pairwise_append] at hp
    rw [List.append_assoc, List.pairwise_append]
    refine ⟨hp.1, ?_, ?_⟩
    · simp only [List.singleton_append, List.pairwise_cons]
      exact ⟨h3, hp.2.1⟩
    · intro a ha b hb
      simp only [List.singleton_append, List.mem_cons] at hb
      rcases hb with rfl | hb
      · exact h1 a ha
      · exact hp.2.2 a ha b hb
  · have hm : g ∈ gs.take k ++ [c.1] ++ gs.drop k ↔ g = c.1 ∨ g ∈ gs := by
      constructor
      · intro hm
        simp only [List.mem_append, List.mem_singleton] at hm
        rcases hm with (hm | hm) | hm
        · exact .inr (List.mem_of_mem_take hm)
        · exact .inl hm
        · exact .inr (List.mem_of_mem_drop hm)
      · rintro (rfl | hm)
        · simp
        · rw [← List.take_append_drop k gs] at hm
          simp only [List.mem_append, List.mem_singleton] at hm ⊢
          rcases hm with hm | hm
          · exact .inl (.inl hm)
          · exact .inr hm
    rw [hm, gN_snoc, h.2 g]
    by_cases hg : c.1 = g
    · rw [if_pos hg]; exact ⟨fun _ => by omega, fun _ => .inl hg.symm⟩
    · rw [if_neg hg]; exact ⟨fun h => h.elim (fun e => absurd e.symm hg) (fun h => by omega), fun h => .inr (by omega)⟩
  · unfold nsOf
    have he : ∀ g, g ∈ gs → (gN (l ++ [c]) g : Int) = gN l g := fun g hg => by
      have hne : ¬ c.1 = g := fun e => hnot (by rw [e]; exact hg)
      rw [gN_snoc, if_neg hne]; rfl
    rw [List.map_append, List.map_append, ← List.map_take, ← List.map_drop]
    congr 1
    · congr 1
      · exact List.map_congr_left fun g hg => he g (List.mem_of_mem_take hg)
      · simp [gN_snoc, hg0]
    · exact List.map_congr_left fun g hg => he g (List.mem_of_mem_drop hg)
theorem gM_nodup (l : List Cr) : ((gM l).map (·.1)).Nodup := by
  unfold gM
  have key : ∀ (l : List Cr) (m : List (Int × Int)), (m.map (·.1)).Nodup → ((l.foldl (fun m c => mset m c.1 ((mget m c.1).getD 0 + 1)) m).map (·.1)).Nodup := by
    intro l
    induction l with
    | nil => intro m h; exact h
    | cons c l ih => intro m h; exact ih _ (kset_nodup h _ _)
  exact key l [] List.nodup_nil
theorem SG.keys {l : List Cr} {gs : List Int} (h : SG l gs) : kGisKeys (gM l) gs := by
  refine ⟨(List.perm_ext_iff_of_nodup (lt_nodup h.1) (gM_nodup l)).2 fun g => ?_, h.1.imp fun h => by omega⟩
  rw [h.2 g]
  have h1 := (gM_all l).1 g
  constructor
  · intro h0
    rw [if_pos h0] at h1
    exact List.mem_map.2 ⟨_, kget_mem h1, rfl⟩
  · intro hm
    obtain ⟨p, hp, rfl⟩ := List.mem_map.1 hm
    by_cases h0 : 0 < gN l p.1
    · exact h0
    · rw [if_neg h0] at h1
      exact absurd rfl (kget_none h1 p hp)
theorem SG.len {l : List Cr} {gs : List Int} (h : SG l gs) : gs.length ≤ l.length := by
  have h1 := h.keys.1.length_eq
  have h2 := (gM_all l).2
  simp at h1
  omega
end Go.Proofs
