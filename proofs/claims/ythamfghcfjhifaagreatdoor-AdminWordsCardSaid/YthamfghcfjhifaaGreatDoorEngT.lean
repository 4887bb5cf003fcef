/-
  The engine, part T: range over a function, where the loop's variable is laid anew in each round.
-/
import Derived.Test.YthamfghcfjhifaaGreatDoorEngZ
namespace Pk
open Go
theorem Mod.agr_old {O C : Nat → Prop} {w W W' : World} (h : Mod O w W) (hag : Agr (fun k => k < w.heap.size ∨ C k) W W') : Mod O w W' :=
  ⟨hag.os.trans h.os, hag.tape.trans h.tape, hag.out.trans h.out, Nat.le_trans h.size hag.size, fun i hi hn => (hag.blk i (Nat.lt_of_lt_of_le hi h.size) (.inl hi)).trans (h.blk i hi hn)⟩
theorem WC_rangeFuncA {α : Type} {P : Program} {n : Nat} {f : Operand} {ps : List Tmp} {assign body : Code} {Q : Post} {ρ : Env} {ds : List Deferred} {w : World}
    {enc : α → List Value} {S Sp : List α → Prop} {Cap : Nat → Prop} {gf : FuncId} {first caps : Array Value} (hgv : ev ρ f = .func (.func gf) first caps) (hent : ∀ as w, (callFunc gf as).run P w = .ok (.enter gf as) w)
    (hit : Iter P (.func (.func gf) first caps) enc S Sp Cap w) (henc : ∀ x, (enc x).length = ps.length)
    (C0 : Nat → Prop) (J : (Nat → Prop) → List α → World → Prop) (Jx : Code → (Nat → Prop) → List α → World → Prop)
    (hcap : ∀ k, Cap k → k < w.heap.size ∧ ¬ C0 k) (hC0 : ∀ k, C0 k → k < w.heap.size)
    (hJ : ∀ C pre W W', J C pre W → Agr (fun k => k < w.heap.size ∨ C k) W W' → J C pre W')
    (hJx : ∀ c C pre W W', Jx c C pre W → Agr (fun k => k < w.heap.size ∨ C k) W W' → Jx c C pre W')
    (h0 : J C0 [] w)
    (A : α → Nat → Env → World → Prop) (hAs : ∀ x B ρ' W W', A x B ρ' W → Agr (fun k => B ≤ k) W W' → A x B ρ' W')
    (hassign : ∀ l x W, vc P n (some l) assign (QS (fun ρ' ds' W' => ds' = [] ∧ Ext W W' ∧ A x W.heap.size ρ' W') (fun _ _ _ _ => False)) (setsE ρ ps (enc x)) [] W)
    (hbody : ∀ l C pre x B ρ' W, Sp (pre ++ [x]) → J C pre W → w.heap.size ≤ l → l < B → ¬ C l → B ≤ W.heap.size → A x B ρ' W → vc P n (some l) body (QR J Jx C (pre ++ [x]) W) ρ' [] W)
    (hdone : ∀ C xs W, S xs → J C xs W → W.heap[w.heap.size]? = some (.deferred (some [])) → Q .normal ρ ({ target := .collected w.heap.size, args := #[] } :: ds) W)
    (hstop : ∀ c C pre W, Sp pre → Jx c C pre W → W.heap[w.heap.size]? = some (.deferred (some [])) → QC Q c ρ ({ target := .collected w.heap.size, args := #[] } :: ds) W) :
    WC P n none (.rangeFunc f ps.toArray assign body) Q ρ ds w := by
  intro hok tmps hA
  have hok1 := Bool.and_eq_true_iff.1 hok
  have hok2 := Bool.and_eq_true_iff.1 hok1.2
  have hok3 := Bool.and_eq_true_iff.1 hok2.2
  have hps : ∀ p ∈ ps, p < n := fun p hp => by simpa using List.all_eq_true.1 hok2.1 p hp
  refine wpIn_rangeFunc ?_
  intro fn _
  obtain ⟨rec, hrec⟩ : ∃ rec : LoopState → Option Code → Loop, rec = fun st pe => { state := st, pending := pe, fn, tmps := tmps, params := ps.toArray, assign, body, defers := w.heap.size } := ⟨_, rfl⟩
  obtain ⟨W1, hW1⟩ : ∃ W1, (w.alloc (.deferred (some []))).alloc (.loop (rec .ready none)) = W1 := ⟨_, rfl⟩
  have hs1 : W1.heap.size = w.heap.size + 2 := by rw [← hW1]; simp
  have hL1 : W1.heap[w.heap.size + 1]? = some (.loop (rec .ready none)) := by
    rw [← hW1]; have := World.alloc_heap_new (w.alloc (.deferred (some []))) (.loop (rec .ready none)); rwa [World.size_alloc] at this
  have hD1 : W1.heap[w.heap.size]? = some (.deferred (some [])) := by
    rw [← hW1]; exact (Go.RowKit.Below.heap_alloc _ _ _ (by simp)).trans (World.alloc_heap_new w _)
  have hx1 : Ext w W1 := by rw [← hW1]; exact ((Ext.refl w).alloc _).alloc _
  have hg : ev ρ f = (Act.mk tmps ds).eval f := (eval_eq hA hok1.1).symm
  -- the caller's state and the record beside it
  let l := w.heap.size + 1
  let D := w.heap.size
  let J' : (Nat → Prop) → List α → World → Prop := fun C pre W => ∃ C1, J C1 pre W ∧ (∀ k, C k ↔ C1 k ∨ k = l) ∧ ¬ C1 l ∧ ¬ C1 D ∧ W.heap[l]? = some (.loop (rec .ready none)) ∧ W.heap[D]? = some (.deferred (some []))
  let Jx' : (Nat → Prop) → List α → World → Prop := fun C pre W => ∃ C1 c, Jx c C1 pre W ∧ (∀ k, C k ↔ C1 k ∨ k = l) ∧ ¬ C1 l ∧ W.heap[l]? = some (.loop (rec .done (some c))) ∧ W.heap[D]? = some (.deferred (some []))
  have hcall := hit (.func (.yield l) #[] #[]) (fun k => C0 k ∨ k = l) J' Jx' W1 hx1.agr
    (fun k hk => ⟨(hcap k hk).1, fun h => h.elim (hcap k hk).2 (fun e => by have := (hcap k hk).1; simp only [l] at e; omega)⟩)
    (fun k hk => by
      rcases hk with hk | hk
      · have := hC0 k hk; omega
      · simp only [l] at hk; omega) ?_ ?_ ?_ ?_
  case refine_1 =>
    rintro C pre Wa Wb ⟨C1, hj, hC, hl, hd, h1, h2⟩ hag
    refine ⟨C1, hJ _ _ _ _ hj (hag.weaken ?_), hC, hl, hd, hag.obj h1 (.inl (by simp only [l]; omega)), hag.obj h2 (.inl (by simp only [D]; omega))⟩
    rintro i (hi | hi)
    · exact .inl (by omega)
    · exact .inr ((hC i).2 (.inl hi))
  case refine_2 =>
    rintro C pre Wa Wb ⟨C1, c, hj, hC, hnl, h1, h2⟩ hag
    refine ⟨C1, c, hJx _ _ _ _ _ hj (hag.weaken ?_), hC, hnl, hag.obj h1 (.inl (by simp only [l]; omega)), hag.obj h2 (.inl (by simp only [D]; omega))⟩
    rintro i (hi | hi)
    · exact .inl (by omega)
    · exact .inr ((hC i).2 (.inl hi))
  case refine_3 =>
    rintro C pre x W hsp ⟨C1, hj, hC, hnl, hnd, hl, hd⟩
    have hlt : l < W.heap.size := (Array.getElem?_eq_some_iff.1 hl).1
    have hy := run_yield (P := P) (args := (enc x).toArray) hl (by rw [hrec]; simpa using henc x)
    rw [hrec] at hy
    show YD P l ([] ++ enc x) W _
    unfold YD
    rw [List.nil_append, hy]
    have hround : RoundIn (FR none) 0 P l fn ((ps.toArray.zip (enc x).toArray).foldl (fun tmps (t, a) => tmps.setIfInBounds t a) tmps) assign body W (fun e W' =>
        (e = .returned (.bool true) ∧ ∃ C', J' C' (pre ++ [x]) W' ∧ Own C C' W W') ∨ (e = .returned (.bool false) ∧ ∃ C', Jx' C' (pre ++ [x]) W' ∧ Own C C' W W')) := by
      refine roundIn_of_wpIn trivial ?_
      have hAx : Ag n ((ps.toArray.zip (enc x).toArray).foldl (fun tmps (t, a) => tmps.setIfInBounds t a) tmps) (setsE ρ ps (enc x)) := by
        have := Ag.sets ps (enc x) tmps ρ hA hps
        rw [← Array.foldl_toList]
        simpa using this
      refine wpIn_mono (vc_sound assign _ _ _ _ (hassign l x W) hok3.1 _ hAx) ?_
      rintro e a1 W' ⟨ρ', hA', hq⟩
      cases e with
      | normal =>
        obtain ⟨hds, hEx, hAx'⟩ := hq
        have hlB := hlt
        have hsB := hEx.size
        have hlA : W'.heap[l]? = some (.loop (rec .ready none)) := hEx.obj hl
        have hdA : W'.heap[D]? = some (.deferred (some [])) := hEx.obj hd
        have hltA : l < W'.heap.size := (Array.getElem?_eq_some_iff.1 hlA).1
        obtain ⟨W2, hW2⟩ : ∃ W2, W2 = W'.putObj l (.loop { rec .ready none with state := .busy }) := ⟨_, rfl⟩
        refine ⟨W2, by rw [hW2]; exact run_beginRound hlA (by rw [hrec]), ?_⟩
        have hl2 : W2.heap[l]? = some (.loop { rec .ready none with state := .busy }) := by rw [hW2]; exact World.putObj_heap_same hltA
        have hd2 : W2.heap[D]? = some (.deferred (some [])) := by rw [hW2]; exact (World.putObj_heap_other (by simp only [l, D]; omega)).trans hdA
        have hj2 : J C1 pre W2 := hJ _ _ _ _ (hJ _ _ _ _ hj hEx.agr) (by
          rw [hW2]
          refine Agr.putObj _ ?_
          rintro (h | h)
          · simp only [l] at h; omega
          · exact hnl h)
        have hm2 : Mod (· = l) W' W2 := by rw [hW2]; exact Mod.putObj _ _
        have hs2 : W2.heap.size = W'.heap.size := by rw [hW2]; simp
        have hA2 : A x W.heap.size ρ' W2 := hAs _ _ _ _ _ hAx' (by rw [hW2]; exact Agr.putObj _ (by omega))
        have hb := hbody l C1 pre x W.heap.size ρ' W2 hsp hj2 (by simp only [l]; omega) hlt hnl (by rw [hs2]; exact hsB) hA2
        have hwp := vc_sound body _ _ _ _ hb hok3.2 _ hA'
        have ha1 : a1 = ⟨a1.tmps, []⟩ := by cases a1; simp_all
        rw [ha1]
        refine wpIn_mono hwp ?_
        rintro e a3 W3 ⟨ρ3, hA3, hq3⟩
        have fin : ∀ (jump : Option Code) (C' : Nat → Prop), Own C1 C' W2 W3 →
            ∃ W4, (Instr.endRound l jump).run P W3 = .ok (.bool jump.isNone) W4 ∧ W4 = W3.putObj l (.loop (rec (if jump.isNone then .ready else .done) jump)) ∧ W4.heap[l]? = some (.loop (rec (if jump.isNone then .ready else .done) jump)) ∧
              W4.heap[D]? = some (.deferred (some [])) ∧ ¬ C' l ∧ ¬ C' D ∧ Own C (fun k => C' k ∨ k = l) W W4 := by
          intro jump C' hown
          have hl3 : W3.heap[l]? = some (.loop { rec .ready none with state := .busy }) := hown.mod.obj hl2 hnl
          have hd3 : W3.heap[D]? = some (.deferred (some [])) := hown.mod.obj hd2 hnd
          have hlt3 : l < W3.heap.size := (Array.getElem?_eq_some_iff.1 hl3).1
          have hr := run_endRound (P := P) jump hl3
          have hDl : D < W2.heap.size := (Array.getElem?_eq_some_iff.1 hd2).1
          refine ⟨W3.putObj l (.loop (rec (if jump.isNone then .ready else .done) jump)), ?_, rfl, World.putObj_heap_same hlt3, (World.putObj_heap_other (by simp only [l, D]; omega)).trans hd3, ?_, ?_, ?_⟩
          · rw [hr, hrec]
          · intro h; rcases hown.own _ h with h | h
            · exact hnl h
            · omega
          · intro h; rcases hown.own _ h with h | h
            · exact hnd h
            · omega
          · refine ⟨?_, ?_⟩
            · have m1 : Mod C W W2 := hEx.mod.trans (hm2.weaken (fun i e => (hC i).2 (.inr e)))
              have m2 : Mod C W2 W3 := hown.mod.weaken (fun i h => (hC i).2 (.inl h))
              exact (m1.trans m2).trans ((Mod.putObj _ _).weaken (fun i e => (hC i).2 (.inr e)))
            · rintro k (h | h)
              · rcases hown.own k h with h | h
                · exact .inl ((hC k).2 (.inl h))
                · exact .inr (by omega)
              · exact .inl ((hC k).2 (.inr h))
        have stab : ∀ (C' : Nat → Prop) (W4 : World) (o : Obj), W4 = W3.putObj l o → ¬ C' l → Agr (fun k => k < w.heap.size ∨ C' k) W3 W4 := by
          intro C' W4 o e hn
          rw [e]
          refine Agr.putObj _ ?_
          rintro (h | h)
          · simp only [l] at h; omega
          · exact hn h
        cases e with
        | normal =>
          obtain ⟨-, C', hj3, hown⟩ := hq3
          obtain ⟨W4, hr, e4, hl4, hd4, hn1, hn2, ho⟩ := fin none C' hown
          exact ⟨_, W4, hr, .inl ⟨rfl, _, ⟨C', hJ _ _ _ _ hj3 (stab C' W4 _ e4 hn1), fun k => Iff.rfl, hn1, hn2, hl4, hd4⟩, ho⟩⟩
        | ret =>
          obtain ⟨-, C', hj3, hown⟩ := hq3
          obtain ⟨W4, hr, e4, hl4, hd4, hn1, hn2, ho⟩ := fin (some .ret) C' hown
          exact ⟨_, W4, hr, .inr ⟨rfl, _, ⟨C', .ret, hJx _ _ _ _ _ hj3 (stab C' W4 _ e4 hn1), fun k => Iff.rfl, hn1, hl4, hd4⟩, ho⟩⟩
        | exit id =>
          obtain ⟨-, C', hj3, hown⟩ := hq3
          obtain ⟨W4, hr, e4, hl4, hd4, hn1, hn2, ho⟩ := fin (some (.exit id)) C' hown
          exact ⟨_, W4, hr, .inr ⟨rfl, _, ⟨C', .exit id, hJx _ _ _ _ _ hj3 (stab C' W4 _ e4 hn1), fun k => Iff.rfl, hn1, hl4, hd4⟩, ho⟩⟩
        | goto t =>
          obtain ⟨-, C', hj3, hown⟩ := hq3
          obtain ⟨W4, hr, e4, hl4, hd4, hn1, hn2, ho⟩ := fin (some (.goto t)) C' hown
          exact ⟨_, W4, hr, .inr ⟨rfl, _, ⟨C', .goto t, hJx _ _ _ _ _ hj3 (stab C' W4 _ e4 hn1), fun k => Iff.rfl, hn1, hl4, hd4⟩, ho⟩⟩
        | panic ch => exact hq3.elim
        | outgrown => exact hq3.elim
      | _ => exact hq.elim
    exact hround
  case refine_4 =>
    refine ⟨C0, hJ _ _ _ _ h0 hx1.agr, fun k => Iff.rfl, ?_, ?_, hL1, hD1⟩
    · intro h; have := hC0 _ h; simp only [l] at this; omega
    · intro h; have := hC0 _ h; simp only [D] at this; omega
  -- the one call
  have fin : ∀ e W', ((∃ v, e = .returned v) ∧ ∃ C', ((∃ xs, S xs ∧ J' C' xs W') ∨ (∃ pre, Sp pre ∧ Jx' C' pre W'))) →
      rangePost (FR none) 0 P l (fun e a w' => ∃ ρ', Ag n a.tmps ρ' ∧ Q e ρ' a.defers w') ⟨tmps, { target := .collected D, args := #[] } :: ds⟩ e W' := by
    rintro e W' ⟨⟨v, rfl⟩, C', (⟨xs, hS, C1, hj, -, hn1, hn2, hl, hd⟩ | ⟨pre, hS, C1, c, hj, -, hn1, hl, hd⟩)⟩
    · have hr := run_endLoop (P := P) hl (by rw [hrec]; simp)
      rw [hrec] at hr
      refine ⟨none, _, hr, ρ, hA, hdone C1 xs _ hS (hJ _ _ _ _ hj (Agr.putObj _ ?_)) ((World.putObj_heap_other (by simp only [l]; omega)).trans hd)⟩
      rintro (h | h)
      · simp only [l] at h; omega
      · exact hn1 h
    · have hr := run_endLoop (P := P) hl (by rw [hrec]; simp)
      rw [hrec] at hr
      refine ⟨some c, _, hr, QC_sound hA (hstop c C1 pre _ hS (hJx _ _ _ _ _ hj (Agr.putObj _ ?_)) ((World.putObj_heap_other (by simp only [l]; omega)).trans hd))⟩
      rintro (h | h)
      · simp only [l] at h; omega
      · exact hn1 h
  have hcall' : FN P gf (first.toList ++ ([.func (.yield l) #[] #[]] ++ caps.toList)) W1 _ := hcall
  unfold FN at hcall'
  rw [hent] at hcall'
  refine ⟨l, [{ target := .collected D, args := #[] }], W1, { target := .fn (.func gf) caps, args := first ++ #[Value.func (.yield l) #[] #[]] }, W1, gf, (first.toList ++ ([Value.func (.yield l) #[] #[]] ++ caps.toList)).toArray, W1, ?_, ?_, fun _ _ => trivial, ?_, fun h => by simp [FR] at h, ?_⟩
  · rw [← hW1, hrec]; exact run_enterLoop_outer _ _ _ _ _
  · have : (Act.mk tmps ds).eval f = .func (.func gf) first caps := hg.symm.trans hgv
    simp only [resolve, this, Deferred.ofValue]
    simp [Act.eval]
  · have e0 : (first ++ #[Value.func (.yield l) #[] #[]] ++ caps) = (first.toList ++ ([Value.func (.yield l) #[] #[]] ++ caps.toList)).toArray := by apply Array.ext'; simp
    simp only [invoke]
    rw [e0]; exact hent _ _
  · exact callsIn_FR (hcall'.mono fun e W' h => fin e W' h)
end Pk
