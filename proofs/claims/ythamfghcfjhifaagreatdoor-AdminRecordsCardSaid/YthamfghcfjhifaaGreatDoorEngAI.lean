/-
  The engine, part AI: a statement whose order is open, by what holds of the slots and the world after each set of operations.
-/
import Derived.Test.YthamfghcfjhifaaGreatDoorEngAH
namespace Pk
open Go
section draw
variable {P : Program} {n : Nat} {r : Option Nat} {id : Nat} {ops : List Oper} {m : Nat} {ds : List Deferred} {ρ : Env}
/-- A STATEMENT WHOSE ORDER IS OPEN: G: what holds of the slots and the world where these of the first m operations have run. -/
theorem WC_drawI' {Q : Post} {w : World} (m : Nat) (bs : List (List Nat)) (G : (Nat → Bool) → Env → World → Prop) (hm : P.follows .mixedOrders = true) (hb : befsOk ops m bs = true) (hG0 : G (fun _ => false) ρ w.drew)
    (hst : ∀ i, i < m → ∀ o, ops[i]? = some o → ∀ S ρ' W, S i = false → (∀ k ∈ bsAt bs i, S k = true) → G S ρ' W →
      GI (gw ops.toArray ρ' o.guard) (VO P r o (fun ρ'' ds'' w'' => ds'' = ds ∧ G (upd S i) ρ'' w'') (fun _ _ _ _ => False) ρ' ds W) (G (upd S i) (put ρ' o.dst undef) W))
    (hend : ∀ S ρ' W, (∀ i, i < m → S i = true) → G S ρ' W → VL P r ops.toArray Q (ops.drop m) ρ' ds W) : WC P n r (.region id ops.toArray true) Q ρ ds w := by
  intro hok tmps hAg
  have hok' : ops.all (okOp n) = true := by simpa [okC] using hok
  obtain ⟨hbl, hml⟩ := befsOk_bs hb
  refine wpIn_region_any hm ?_
  have key : ∀ (fuel : Nat) (listed : Array Bool) (a : Act) (ρ' : Env) (w' : World), a.defers = ds → listed.size = ops.length → Ag n a.tmps ρ' → G (fun j => listed.getD j false) ρ' w' →
      (∀ i, i < ops.length → listed.getD i false = true → ∀ o, ops[i]? = some o → ∀ e ∈ o.after, Region.binds .any e = true → listed.getD e.on false = true) →
      (∀ j, m ≤ j → listed.getD j false = false) →
      ops.length ≤ fuel + listed.toList.count true →
      wpAnyIn (FR r) 0 P .any ops.toArray (fun e a w' => ∃ ρ', Ag n a.tmps ρ' ∧ Q e ρ' a.defers w') fuel listed a w' := by
    intro fuel
    induction fuel with
    | zero =>
      intro listed a ρ' w' hds hs hA hG hcl hhd hf
      have hall := all_listed (listed := listed) (by omega)
      have hml' : m = ops.length := by
        rcases Nat.lt_or_ge m ops.length with h1 | h1
        · have := hhd m (Nat.le_refl _)
          rw [hall m (by omega)] at this; cases this
        · omega
      refine any_tail hb hok' 0 m listed a ρ' w' (Nat.le_refl _) hml (by omega) hs ?_ hA ?_
      · intro i
        by_cases h1 : i < ops.length
        · rw [hall i (by omega)]; simp; omega
        · have : decide (i < m) = false := by simp; omega
          rw [this]; simp [hs, h1]
      · rw [hds]; exact hend _ ρ' w' (fun i hi => hall i (by omega)) hG
    | succ fuel ih =>
      intro listed a ρ' w' hds hs hA hG hcl hhd hf
      by_cases hfull : ∀ i, i < m → listed.getD i false = true
      · refine any_tail hb hok' (fuel + 1) m listed a ρ' w' (Nat.le_refl _) hml ?_ hs ?_ hA ?_
        · have hc : listed.toList.count true ≤ m := by
            have hcc : ∀ (l : List Bool) (k : Nat), (∀ j, k ≤ j → l[j]?.getD false = false) → l.count true ≤ k := by
              intro l
              induction l with
              | nil => intro k _; simp
              | cons b l ihl =>
                intro k hkk
                cases k with
                | zero =>
                  have h0 := hkk 0 (Nat.le_refl _)
                  simp at h0; subst h0
                  have := ihl 0 (fun j hj => by have := hkk (j + 1) (by omega); simpa using this)
                  simp at this ⊢; exact this
                | succ k =>
                  have := ihl k (fun j hj => by have := hkk (j + 1) (by omega); simpa using this)
                  rw [List.count_cons]; split <;> omega
            refine hcc _ _ fun j hj => ?_
            have := hhd j hj
            simpa [Array.getD_eq_getD_getElem?] using this
          omega
        · intro i
          by_cases h1 : i < m
          · rw [hfull i h1]; simp [h1]
          · rw [hhd i (by omega)]; simp [h1]
        · rw [hds]; exact hend _ ρ' w' hfull hG
      · refine ⟨?_, ?_⟩
        · intro hr
          exfalso
          obtain ⟨i, hi, hmin⟩ := exists_least (p := fun i => i < m ∧ listed.getD i false = false) (by
            simp only [Classical.not_forall] at hfull
            obtain ⟨i, h1, h2⟩ := hfull
            exact ⟨i, h1, by simpa using h2⟩)
          have hil : i < ops.length := by omega
          have : i ∈ Region.ready .any ops.toArray listed := by
            refine mem_ready.2 ⟨?_, ops[i], by simp [hil], ?_⟩
            · have := hi.2
              have his : i < listed.size := by omega
              simpa [his] using this
            · intro e he hbe
              have hlt := befsOk_edge hb (List.getElem?_eq_getElem hil) e he hbe
              cases hx : listed.getD e.on false with
              | true => rfl
              | false => have := hmin e.on ⟨by omega, hx⟩; omega
          rw [hr] at this; cases this
        · intro i hi
          obtain ⟨hi1, o, ho, hi2⟩ := mem_ready.1 hi
          have hil : i < ops.length := by
            have := (Array.getElem?_eq_some_iff.1 ho).1; simpa using this
          have his : i < listed.size := by omega
          have ho' : ops[i]? = some o := by simpa using ho
          have hif : listed.getD i false = false := by simpa [his] using hi1
          have him : i < m := by
            rcases Nat.lt_or_ge i m with h1 | h1
            · exact h1
            · exfalso
              refine hfull fun k hk => ?_
              obtain ⟨e, he, hbe, hke⟩ := befsOk_tail hb ho' h1 k (by omega)
              have h2 := hi2 e he hbe
              rcases hke with hke | ⟨hke1, hke2⟩ | ⟨hke1, hke2⟩
              · rw [← hke]; exact h2
              · have hel : e.on < ops.length := by omega
                exact bs_listed hb hcl e.on ops[e.on] hke1 (List.getElem?_eq_getElem hel) (hcl e.on hel h2 _ (List.getElem?_eq_getElem hel)) k hke2
              · rw [hhd e.on hke1] at h2; cases h2
          have hbsl := bs_listed hb hcl i o him ho' hi2
          obtain ⟨o'', ho'', hsome, hb3, hb4, hb5, hb6⟩ := befsOk_head hb him
          rw [ho'] at ho''; cases ho''
          have hupd : upd (fun j => listed.getD j false) i = fun j => (listed.setIfInBounds i true).getD j false := by
            funext j
            rw [listed_set his, upd_at]
          have hstep := hst i him o ho' (fun j => listed.getD j false) ρ' w' hif hbsl hG
          rw [hupd] at hstep
          have hokA : ops.toArray.toList.all (okOp n) = true := by simpa using hok'
          have hoko : okOp n o = true := List.all_eq_true.1 hok' o (List.mem_of_getElem? ho')
          have hcl' : ∀ k, k < ops.length → (listed.setIfInBounds i true).getD k false = true → ∀ ok, ops[k]? = some ok → ∀ e ∈ ok.after, Region.binds .any e = true → (listed.setIfInBounds i true).getD e.on false = true := by
            intro k hkl hkt ok hok2 e he hbe
            rw [listed_set his] at hkt ⊢
            by_cases hki : k = i
            · subst hki
              rw [ho'] at hok2; cases hok2
              rw [hi2 e he hbe]; simp
            · have : listed.getD k false = true := by simpa [hki] using hkt
              rw [hcl k hkl this ok hok2 e he hbe]; simp
          have hhd' : ∀ j, m ≤ j → (listed.setIfInBounds i true).getD j false = false := by
            intro j hj
            rw [listed_set his, hhd j hj]
            simp; omega
          have hcnt := count_listed his hif
          have next : ∀ (a' : Act) (ρ'' : Env) (w'' : World), a'.defers = ds → Ag n a'.tmps ρ'' → G (fun j => (listed.setIfInBounds i true).getD j false) ρ'' w'' →
              wpAnyIn (FR r) 0 P .any ops.toArray (fun e a w' => ∃ ρ', Ag n a.tmps ρ' ∧ Q e ρ' a.defers w') fuel (listed.setIfInBounds i true) a' w'' := by
            intro a' ρ'' w'' hds' hA' hGv
            exact ih _ a' ρ'' w'' hds' (by simpa using hs) hA' hGv hcl' hhd' (by rw [hcnt]; omega)
          unfold wpOpIn
          simp only [ho]
          have ha : a = ⟨a.tmps, ds⟩ := by cases a; simp_all
          rw [gw_eq hA hokA o]
          cases hg : gw ops.toArray ρ' o.guard with
          | true =>
            rw [hg, GI_true] at hstep
            simp only [if_true]
            rw [ha]
            refine VO_sound (Q := fun _ _ _ _ => False) hA hoko ?_ (fun _ _ _ _ _ h => h.elim) hstep
            rintro a' ρ'' w'' hA' ⟨hds', hGv⟩
            exact next _ ρ'' w'' hds' hA' hGv
          | false =>
            rw [hg, GI_false] at hstep
            simp only [Bool.false_eq_true, if_false]
            exact ⟨fun _ _ => trivial, next _ _ w' (by rw [put_defers]; exact hds) (hA.put (ds := a.defers) (Bool.and_eq_true_iff.1 hoko).1 undef) hstep⟩
  refine key ops.toArray.size (Array.replicate ops.toArray.size false) ⟨tmps, ds⟩ ρ w.drew rfl (by simp) hAg ?hG ?_ ?_ (by simp)
  case hG =>
    have e : (fun j => (Array.replicate ops.toArray.size false).getD j false) = fun _ => false := by
      funext j
      by_cases h1 : j < ops.length <;> simp [h1]
    rw [e]; exact hG0
  · intro i hi h1; simp [hi] at h1
  · intro j hj
    by_cases h1 : j < ops.length <;> simp [h1]
theorem WC_drawI {Q : Post} {w : World} (m : Nat) (G : (Nat → Bool) → Env → World → Prop) (hm : P.follows .mixedOrders = true) (hb : befsOk ops m (befs ops m) = true) (hG0 : G (fun _ => false) ρ w.drew)
    (hst : ∀ i, i < m → ∀ o, ops[i]? = some o → ∀ S ρ' W, S i = false → (∀ k ∈ bsAt (befs ops m) i, S k = true) → G S ρ' W →
      GI (gw ops.toArray ρ' o.guard) (VO P r o (fun ρ'' ds'' w'' => ds'' = ds ∧ G (upd S i) ρ'' w'') (fun _ _ _ _ => False) ρ' ds W) (G (upd S i) (put ρ' o.dst undef) W))
    (hend : ∀ S ρ' W, (∀ i, i < m → S i = true) → G S ρ' W → VL P r ops.toArray Q (ops.drop m) ρ' ds W) : WC P n r (.region id ops.toArray true) Q ρ ds w := WC_drawI' m (befs ops m) G hm hb hG0 hst hend
end draw
end Pk
