/-
  The engine, part F: a range over a function.
-/
import Derived.Test.YthamfghcfjhifaaGreatDoorEngE
namespace Pk
open Go

/-- On the blocks in S the two worlds agree; the streams are the same; new blocks may have come. -/
structure Agr (S : Nat → Prop) (w w' : World) : Prop where
  os : w'.os = w.os
  tape : w'.tape = w.tape
  out : w'.output = w.output
  size : w.heap.size ≤ w'.heap.size
  blk : ∀ b, b < w.heap.size → S b → w'.heap[b]? = w.heap[b]?
theorem Agr.refl (S : Nat → Prop) (w : World) : Agr S w w := ⟨rfl, rfl, rfl, Nat.le_refl _, fun _ _ _ => rfl⟩
theorem Agr.trans {S : Nat → Prop} {a b c : World} (h : Agr S a b) (k : Agr S b c) : Agr S a c :=
  ⟨k.os.trans h.os, k.tape.trans h.tape, k.out.trans h.out, Nat.le_trans h.size k.size, fun i hi hs => (k.blk i (Nat.lt_of_lt_of_le hi h.size) hs).trans (h.blk i hi hs)⟩
theorem Agr.weaken {S S' : Nat → Prop} {a b : World} (h : Agr S a b) (hs : ∀ i, S' i → S i) : Agr S' a b := ⟨h.os, h.tape, h.out, h.size, fun i hi hn => h.blk i hi (hs i hn)⟩
theorem Ext.agr {S : Nat → Prop} {a b : World} (h : Ext a b) : Agr S a b := ⟨h.os, h.tape, h.out, h.size, fun i hi _ => h.blk i hi⟩
theorem Mod.agr {S S' : Nat → Prop} {a b : World} (h : Mod S a b) (hs : ∀ i, S' i → ¬ S i) : Agr S' a b := ⟨h.os, h.tape, h.out, h.size, fun i hi hn => h.blk i hi (hs i hn)⟩
theorem Agr.mod {S S' : Nat → Prop} {a b : World} (h : Agr S a b) (hs : ∀ i, ¬ S' i → S i) : Mod S' a b := ⟨h.os, h.tape, h.out, h.size, fun i hi hn => h.blk i hi (hs i hn)⟩
theorem Agr.obj {S : Nat → Prop} {w w' : World} (h : Agr S w w') {b : Nat} {o : Obj} (hb : w.heap[b]? = some o) (hs : S b) : w'.heap[b]? = some o := by
  rw [h.blk b (Array.getElem?_eq_some_iff.1 hb).1 hs, hb]
theorem Agr.cell {S : Nat → Prop} {w w' : World} (h : Agr S w w') {a : Addr} {v : Value} (ha : w.cell? a = some v) (hs : S a.block) : w'.cell? a = some v := by
  have hb := World.block_lt_of_cell? _ _ ha
  rw [← ha]
  unfold World.cell?
  rw [h.blk _ hb hs]
theorem Agr.putObj {S : Nat → Prop} {w : World} {r : Nat} (o : Obj) (hr : ¬ S r) : Agr S w (w.putObj r o) :=
  ⟨rfl, rfl, rfl, by simp, fun b _ hs => World.putObj_heap_other (fun e => hr (e ▸ hs))⟩
theorem Mod.putObj {w : World} (r : Nat) (o : Obj) : Mod (· = r) w (w.putObj r o) := ⟨rfl, rfl, rfl, by simp, fun _ _ hs => World.putObj_heap_other hs⟩

/-- What a round has done: it wrote what is the caller's own (C) and what it has newly laid; that may be the caller's own from now on. -/
structure Own (C C' : Nat → Prop) (w w' : World) : Prop where
  mod : Mod C w w'
  own : ∀ k, C' k → C k ∨ w.heap.size ≤ k
theorem Own.refl (C : Nat → Prop) (w : World) : Own C C w w := ⟨Mod.refl _ _, fun _ h => .inl h⟩
theorem Own.of_mod {C : Nat → Prop} {w w' : World} (h : Mod C w w') : Own C C w w' := ⟨h, fun _ h => .inl h⟩

/-- AN ITERATOR's CONTRACT. g: the iterator; enc: how an element is handed to the loop; S: all has come; Sp: a part has come. 'Pre': what the iterator wants to lie as it lies (in blocks of Cap). J C pre W: the caller's state when pre has come. -/
def Iter {α : Type} (P : Program) (g : Value) (enc : α → List Value) (S Sp : List α → Prop) (Cap : Nat → Prop) (w : World) : Prop :=
  ∀ (y : Value) (C0 : Nat → Prop) (J Jx : (Nat → Prop) → List α → World → Prop) (W : World), Agr (fun k => k < w.heap.size) w W → (∀ k, Cap k → k < w.heap.size ∧ ¬ C0 k) → (∀ k, C0 k → k < W.heap.size) →
    (∀ C pre W1 W2, J C pre W1 → Agr (fun k => k < W.heap.size ∨ C k) W1 W2 → J C pre W2) →
    (∀ C pre W1 W2, Jx C pre W1 → Agr (fun k => k < W.heap.size ∨ C k) W1 W2 → Jx C pre W2) →
    (∀ C pre x W1, Sp (pre ++ [x]) → J C pre W1 → CV P y (enc x) W1 fun e W' =>
      (e = .returned (.bool true) ∧ ∃ C', J C' (pre ++ [x]) W' ∧ Own C C' W1 W') ∨ (e = .returned (.bool false) ∧ ∃ C', Jx C' (pre ++ [x]) W' ∧ Own C C' W1 W')) →
    J C0 [] W →
    CV P g [y] W fun e W' => (∃ v, e = .returned v) ∧ ∃ C', ((∃ xs, S xs ∧ J C' xs W') ∨ (∃ pre, Sp pre ∧ Jx C' pre W'))

/-- How a round's body is left. -/
def QR {α : Type} (J : (Nat → Prop) → List α → World → Prop) (Jx : Code → (Nat → Prop) → List α → World → Prop) (C : Nat → Prop) (xs : List α) (W : World) : Post
  | .normal, _, ds, W' => ds = [] ∧ ∃ C', J C' xs W' ∧ Own C C' W W'
  | .ret, _, ds, W' => ds = [] ∧ ∃ C', Jx .ret C' xs W' ∧ Own C C' W W'
  | .exit id, _, ds, W' => ds = [] ∧ ∃ C', Jx (.exit id) C' xs W' ∧ Own C C' W W'
  | .goto l, _, ds, W' => ds = [] ∧ ∃ C', Jx (.goto l) C' xs W' ∧ Own C C' W W'
  | _, _, _, _ => False
section
variable {α : Type} (J : (Nat → Prop) → List α → World → Prop) (Jx : Code → (Nat → Prop) → List α → World → Prop) (C : Nat → Prop) (xs : List α) (W : World) (ρ : Env) (ds : List Deferred) (W' : World)
@[simp ↓] theorem QR_normal : QR J Jx C xs W .normal ρ ds W' = (ds = [] ∧ ∃ C', J C' xs W' ∧ Own C C' W W') := _root_.id rfl
@[simp ↓] theorem QR_ret : QR J Jx C xs W .ret ρ ds W' = (ds = [] ∧ ∃ C', Jx .ret C' xs W' ∧ Own C C' W W') := _root_.id rfl
@[simp ↓] theorem QR_exit (id : Nat) : QR J Jx C xs W (.exit id) ρ ds W' = (ds = [] ∧ ∃ C', Jx (.exit id) C' xs W' ∧ Own C C' W W') := _root_.id rfl
@[simp ↓] theorem QR_goto (l : Nat) : QR J Jx C xs W (.goto l) ρ ds W' = (ds = [] ∧ ∃ C', Jx (.goto l) C' xs W' ∧ Own C C' W W') := _root_.id rfl
end
/-- How a left loop is taken up. -/
def QC (Q : Post) : Code → Cont
  | .ret => Q .ret
  | .exit id => Q (.exit id)
  | .goto l => Q (.goto l)
  | _ => fun _ _ _ => False
@[simp] theorem QC_ret (Q : Post) : QC Q .ret = Q .ret := rfl
@[simp] theorem QC_exit (Q : Post) (id : Nat) : QC Q (.exit id) = Q (.exit id) := rfl
@[simp] theorem QC_goto (Q : Post) (l : Nat) : QC Q (.goto l) = Q (.goto l) := rfl
theorem QC_sound {P : Program} {n : Nat} {r : Option Nat} {Q : Post} {c : Code} {ρ : Env} {ds : List Deferred} {w : World} {tmps : Array Value} (hA : Ag n tmps ρ) (h : QC Q c ρ ds w) :
    c.wpIn (FR r) 0 P (fun e a w' => ∃ ρ', Ag n a.tmps ρ' ∧ Q e ρ' a.defers w') ⟨tmps, ds⟩ w := by
  cases c with
  | ret => exact wpIn_ret ⟨ρ, hA, h⟩
  | exit id => exact wpIn_exit ⟨ρ, hA, h⟩
  | goto l => exact wpIn_goto ⟨ρ, hA, h⟩
  | _ => exact h.elim
def setsE (ρ : Env) : List Tmp → List Value → Env
  | p :: ps, v :: vs => setsE (ρ.set p v) ps vs
  | _, _ => ρ
@[simp] theorem setsE_nil (ρ : Env) (vs : List Value) : setsE ρ [] vs = ρ := by cases vs <;> rfl
@[simp] theorem setsE_cons (ρ : Env) (p : Tmp) (ps : List Tmp) (v : Value) (vs : List Value) : setsE ρ (p :: ps) (v :: vs) = setsE (ρ.set p v) ps vs := rfl
theorem Ag.sets {n : Nat} : ∀ (ps : List Tmp) (vs : List Value) (tmps : Array Value) (ρ : Env), Ag n tmps ρ → (∀ p ∈ ps, p < n) → Ag n ((ps.zip vs).foldl (fun t (p, v) => t.setIfInBounds p v) tmps) (setsE ρ ps vs)
  | [], _, tmps, ρ, h, _ => by simpa using h
  | p :: ps, [], tmps, ρ, h, _ => by simpa [setsE] using h
  | p :: ps, v :: vs, tmps, ρ, h, hp => by
    simp only [List.zip_cons_cons, List.foldl_cons, setsE]
    refine Ag.sets ps vs _ _ ?_ (fun q hq => hp q (by simp [hq]))
    have := Ag.put (ds := []) (d := some p) h (by simpa [okD] using hp p (by simp)) v
    simpa [Act.put, Pk.put] using this

/-- A RANGE OVER A FUNCTION, outermost in its function; the assignment to the loop's left sides writes slots alone. -/
theorem WC_rangeFunc {α : Type} {P : Program} {n : Nat} {f : Operand} {ps : List Tmp} {assign body : Code} {Q : Post} {ρ : Env} {ds : List Deferred} {w : World}
    {enc : α → List Value} {S Sp : List α → Prop} {Cap : Nat → Prop} {gf : FuncId} {first caps : Array Value} (hgv : ev ρ f = .func (.func gf) first caps) (hent : ∀ as w, (callFunc gf as).run P w = .ok (.enter gf as) w)
    (hit : Iter P (.func (.func gf) first caps) enc S Sp Cap w) (henc : ∀ x, (enc x).length = ps.length)
    (C0 : Nat → Prop) (J : (Nat → Prop) → List α → World → Prop) (Jx : Code → (Nat → Prop) → List α → World → Prop)
    (hcap : ∀ k, Cap k → k < w.heap.size ∧ ¬ C0 k) (hC0 : ∀ k, C0 k → k < w.heap.size)
    (hJ : ∀ C pre W W', J C pre W → Agr (fun k => k < w.heap.size ∨ C k) W W' → J C pre W')
    (hJx : ∀ c C pre W W', Jx c C pre W → Agr (fun k => k < w.heap.size ∨ C k) W W' → Jx c C pre W')
    (h0 : J C0 [] w)
    (ρ₁ : α → Env)
    (hassign : ∀ l x W, vc P n (some l) assign (QS (fun ρ' ds' W' => ρ' = ρ₁ x ∧ ds' = [] ∧ W' = W) (fun _ _ _ _ => False)) (setsE ρ ps (enc x)) [] W)
    (hbody : ∀ l C pre x W, Sp (pre ++ [x]) → J C pre W → w.heap.size ≤ l → l < W.heap.size → ¬ C l → vc P n (some l) body (QR J Jx C (pre ++ [x]) W) (ρ₁ x) [] W)
    (hdone : ∀ C xs W, S xs → J C xs W → W.heap[w.heap.size]? = some (.deferred (some [])) → Q .normal ρ ({ target := .collected w.heap.size, args := #[] } :: ds) W)
    (hstop : ∀ c C pre W, Sp pre → Jx c C pre W → W.heap[w.heap.size]? = some (.deferred (some [])) → QC Q c ρ ({ target := .collected w.heap.size, args := #[] } :: ds) W) :
    WC P n none (.rangeFunc f ps.toArray assign body) Q ρ ds w := by
  intro hok tmps hA
  have hok1 := Bool.and_eq_true_iff.1 hok
  have hok2 := Bool.and_eq_true_iff.1 hok1.2
  have hok3 := Bool.and_eq_true_iff.1 hok2.2
  have hps : ∀ p ∈ ps, p < n := fun p hp => by simpa using List.all_eq_true.1 hok2.1 p hp
  refine wpIn_rangeFunc ?_
  intro fn _
  obtain ⟨rec, hrec⟩ : ∃ rec : LoopState → Option Code → Loop, rec = fun st pe => { state := st, pending := pe, fn, tmps := tmps, params := ps.toArray, assign, body, defers := w.heap.size } := ⟨_, rfl⟩
  obtain ⟨W1, hW1⟩ : ∃ W1, (w.alloc (.deferred (some []))).alloc (.loop (rec .ready none)) = W1 := ⟨_, rfl⟩
  have hs1 : W1.heap.size = w.heap.size + 2 := by rw [← hW1]; simp
  have hL1 : W1.heap[w.heap.size + 1]? = some (.loop (rec .ready none)) := by
    rw [← hW1]; have := World.alloc_heap_new (w.alloc (.deferred (some []))) (.loop (rec .ready none)); rwa [World.size_alloc] at this
  have hD1 : W1.heap[w.heap.size]? = some (.deferred (some [])) := by
    rw [← hW1]; exact (Go.RowKit.Below.heap_alloc _ _ _ (by simp)).trans (World.alloc_heap_new w _)
  have hx1 : Ext w W1 := by rw [← hW1]; exact ((Ext.refl w).alloc _).alloc _
  have hg : ev ρ f = (Act.mk tmps ds).eval f := (eval_eq hA hok1.1).symm
  -- the caller's state and the record beside it
  let l := w.heap.size + 1
  let D := w.heap.size
  let J' : (Nat → Prop) → List α → World → Prop := fun C pre W => ∃ C1, J C1 pre W ∧ (∀ k, C k ↔ C1 k ∨ k = l) ∧ ¬ C1 l ∧ ¬ C1 D ∧ W.heap[l]? = some (.loop (rec .ready none)) ∧ W.heap[D]? = some (.deferred (some []))
  let Jx' : (Nat → Prop) → List α → World → Prop := fun C pre W => ∃ C1 c, Jx c C1 pre W ∧ (∀ k, C k ↔ C1 k ∨ k = l) ∧ ¬ C1 l ∧ W.heap[l]? = some (.loop (rec .done (some c))) ∧ W.heap[D]? = some (.deferred (some []))
  have hcall := hit (.func (.yield l) #[] #[]) (fun k => C0 k ∨ k = l) J' Jx' W1 hx1.agr
    (fun k hk => ⟨(hcap k hk).1, fun h => h.elim (hcap k hk).2 (fun e => by have := (hcap k hk).1; simp only [l] at e; omega)⟩)
    (fun k hk => by
      rcases hk with hk | hk
      · have := hC0 k hk; omega
      · simp only [l] at hk; omega) ?_ ?_ ?_ ?_
  case refine_1 =>
    rintro C pre Wa Wb ⟨C1, hj, hC, hl, hd, h1, h2⟩ hag
    refine ⟨C1, hJ _ _ _ _ hj (hag.weaken ?_), hC, hl, hd, hag.obj h1 (.inl (by simp only [l]; omega)), hag.obj h2 (.inl (by simp only [D]; omega))⟩
    rintro i (hi | hi)
    · exact .inl (by omega)
    · exact .inr ((hC i).2 (.inl hi))
  case refine_2 =>
    rintro C pre Wa Wb ⟨C1, c, hj, hC, hnl, h1, h2⟩ hag
    refine ⟨C1, c, hJx _ _ _ _ _ hj (hag.weaken ?_), hC, hnl, hag.obj h1 (.inl (by simp only [l]; omega)), hag.obj h2 (.inl (by simp only [D]; omega))⟩
    rintro i (hi | hi)
    · exact .inl (by omega)
    · exact .inr ((hC i).2 (.inl hi))
  case refine_3 =>
    rintro C pre x W hsp ⟨C1, hj, hC, hnl, hnd, hl, hd⟩
    have hlt : l < W.heap.size := (Array.getElem?_eq_some_iff.1 hl).1
    have hy := run_yield (P := P) (args := (enc x).toArray) hl (by rw [hrec]; simpa using henc x)
    rw [hrec] at hy
    show YD P l ([] ++ enc x) W _
    unfold YD
    rw [List.nil_append, hy]
    have hround : RoundIn (FR none) 0 P l fn ((ps.toArray.zip (enc x).toArray).foldl (fun tmps (t, a) => tmps.setIfInBounds t a) tmps) assign body W (fun e W' =>
        (e = .returned (.bool true) ∧ ∃ C', J' C' (pre ++ [x]) W' ∧ Own C C' W W') ∨ (e = .returned (.bool false) ∧ ∃ C', Jx' C' (pre ++ [x]) W' ∧ Own C C' W W')) := by
      refine roundIn_of_wpIn trivial ?_
      have hAx : Ag n ((ps.toArray.zip (enc x).toArray).foldl (fun tmps (t, a) => tmps.setIfInBounds t a) tmps) (setsE ρ ps (enc x)) := by
        have := Ag.sets ps (enc x) tmps ρ hA hps
        rw [← Array.foldl_toList]
        simpa using this
      refine wpIn_mono (vc_sound assign _ _ _ _ (hassign l x W) hok3.1 _ hAx) ?_
      rintro e a1 W' ⟨ρ', hA', hq⟩
      cases e with
      | normal =>
        obtain ⟨rfl, hds, rfl⟩ := hq
        obtain ⟨W2, hW2⟩ : ∃ W2, W2 = W'.putObj l (.loop { rec .ready none with state := .busy }) := ⟨_, rfl⟩
        refine ⟨W2, by rw [hW2]; exact run_beginRound hl (by rw [hrec]), ?_⟩
        have hl2 : W2.heap[l]? = some (.loop { rec .ready none with state := .busy }) := by rw [hW2]; exact World.putObj_heap_same hlt
        have hd2 : W2.heap[D]? = some (.deferred (some [])) := by rw [hW2]; exact (World.putObj_heap_other (by simp only [l, D]; omega)).trans hd
        have hj2 : J C1 pre W2 := hJ _ _ _ _ hj (by
          rw [hW2]
          refine Agr.putObj _ ?_
          rintro (h | h)
          · simp only [l] at h; omega
          · exact hnl h)
        have hm2 : Mod (· = l) W' W2 := by rw [hW2]; exact Mod.putObj _ _
        have hs2 : W2.heap.size = W'.heap.size := by rw [hW2]; simp
        have hb := hbody l C1 pre x W2 hsp hj2 (by simp only [l]; omega) (by rw [hs2]; exact hlt) hnl
        have hwp := vc_sound body _ _ _ _ hb hok3.2 _ hA'
        have ha1 : a1 = ⟨a1.tmps, []⟩ := by cases a1; simp_all
        rw [ha1]
        refine wpIn_mono hwp ?_
        rintro e a3 W3 ⟨ρ3, hA3, hq3⟩
        have fin : ∀ (jump : Option Code) (C' : Nat → Prop), Own C1 C' W2 W3 →
            ∃ W4, (Instr.endRound l jump).run P W3 = .ok (.bool jump.isNone) W4 ∧ W4 = W3.putObj l (.loop (rec (if jump.isNone then .ready else .done) jump)) ∧ W4.heap[l]? = some (.loop (rec (if jump.isNone then .ready else .done) jump)) ∧
              W4.heap[D]? = some (.deferred (some [])) ∧ ¬ C' l ∧ ¬ C' D ∧ Own C (fun k => C' k ∨ k = l) W' W4 := by
          intro jump C' hown
          have hl3 : W3.heap[l]? = some (.loop { rec .ready none with state := .busy }) := hown.mod.obj hl2 hnl
          have hd3 : W3.heap[D]? = some (.deferred (some [])) := hown.mod.obj hd2 hnd
          have hlt3 : l < W3.heap.size := (Array.getElem?_eq_some_iff.1 hl3).1
          have hr := run_endRound (P := P) jump hl3
          have hDl : D < W2.heap.size := (Array.getElem?_eq_some_iff.1 hd2).1
          refine ⟨W3.putObj l (.loop (rec (if jump.isNone then .ready else .done) jump)), ?_, rfl, World.putObj_heap_same hlt3, (World.putObj_heap_other (by simp only [l, D]; omega)).trans hd3, ?_, ?_, ?_⟩
          · rw [hr, hrec]
          · intro h; rcases hown.own _ h with h | h
            · exact hnl h
            · omega
          · intro h; rcases hown.own _ h with h | h
            · exact hnd h
            · omega
          · refine ⟨?_, ?_⟩
            · have m1 : Mod C W' W2 := hm2.weaken (fun i e => (hC i).2 (.inr e))
              have m2 : Mod C W2 W3 := hown.mod.weaken (fun i h => (hC i).2 (.inl h))
              exact (m1.trans m2).trans ((Mod.putObj _ _).weaken (fun i e => (hC i).2 (.inr e)))
            · rintro k (h | h)
              · rcases hown.own k h with h | h
                · exact .inl ((hC k).2 (.inl h))
                · exact .inr (by omega)
              · exact .inl ((hC k).2 (.inr h))
        have stab : ∀ (C' : Nat → Prop) (W4 : World) (o : Obj), W4 = W3.putObj l o → ¬ C' l → Agr (fun k => k < w.heap.size ∨ C' k) W3 W4 := by
          intro C' W4 o e hn
          rw [e]
          refine Agr.putObj _ ?_
          rintro (h | h)
          · simp only [l] at h; omega
          · exact hn h
        cases e with
        | normal =>
          obtain ⟨-, C', hj3, hown⟩ := hq3
          obtain ⟨W4, hr, e4, hl4, hd4, hn1, hn2, ho⟩ := fin none C' hown
          exact ⟨_, W4, hr, .inl ⟨rfl, _, ⟨C', hJ _ _ _ _ hj3 (stab C' W4 _ e4 hn1), fun k => Iff.rfl, hn1, hn2, hl4, hd4⟩, ho⟩⟩
        | ret =>
          obtain ⟨-, C', hj3, hown⟩ := hq3
          obtain ⟨W4, hr, e4, hl4, hd4, hn1, hn2, ho⟩ := fin (some .ret) C' hown
          exact ⟨_, W4, hr, .inr ⟨rfl, _, ⟨C', .ret, hJx _ _ _ _ _ hj3 (stab C' W4 _ e4 hn1), fun k => Iff.rfl, hn1, hl4, hd4⟩, ho⟩⟩
        | exit id =>
          obtain ⟨-, C', hj3, hown⟩ := hq3
          obtain ⟨W4, hr, e4, hl4, hd4, hn1, hn2, ho⟩ := fin (some (.exit id)) C' hown
          exact ⟨_, W4, hr, .inr ⟨rfl, _, ⟨C', .exit id, hJx _ _ _ _ _ hj3 (stab C' W4 _ e4 hn1), fun k => Iff.rfl, hn1, hl4, hd4⟩, ho⟩⟩
        | goto t =>
          obtain ⟨-, C', hj3, hown⟩ := hq3
          obtain ⟨W4, hr, e4, hl4, hd4, hn1, hn2, ho⟩ := fin (some (.goto t)) C' hown
          exact ⟨_, W4, hr, .inr ⟨rfl, _, ⟨C', .goto t, hJx _ _ _ _ _ hj3 (stab C' W4 _ e4 hn1), fun k => Iff.rfl, hn1, hl4, hd4⟩, ho⟩⟩
        | panic ch => exact hq3.elim
        | outgrown => exact hq3.elim
      | _ => exact hq.elim
    exact hround
  case refine_4 =>
    refine ⟨C0, hJ _ _ _ _ h0 hx1.agr, fun k => Iff.rfl, ?_, ?_, hL1, hD1⟩
    · intro h; have := hC0 _ h; simp only [l] at this; omega
    · intro h; have := hC0 _ h; simp only [D] at this; omega
  -- the one call
  have fin : ∀ e W', ((∃ v, e = .returned v) ∧ ∃ C', ((∃ xs, S xs ∧ J' C' xs W') ∨ (∃ pre, Sp pre ∧ Jx' C' pre W'))) →
      rangePost (FR none) 0 P l (fun e a w' => ∃ ρ', Ag n a.tmps ρ' ∧ Q e ρ' a.defers w') ⟨tmps, { target := .collected D, args := #[] } :: ds⟩ e W' := by
    rintro e W' ⟨⟨v, rfl⟩, C', (⟨xs, hS, C1, hj, -, hn1, hn2, hl, hd⟩ | ⟨pre, hS, C1, c, hj, -, hn1, hl, hd⟩)⟩
    · have hr := run_endLoop (P := P) hl (by rw [hrec]; simp)
      rw [hrec] at hr
      refine ⟨none, _, hr, ρ, hA, hdone C1 xs _ hS (hJ _ _ _ _ hj (Agr.putObj _ ?_)) ((World.putObj_heap_other (by simp only [l]; omega)).trans hd)⟩
      rintro (h | h)
      · simp only [l] at h; omega
      · exact hn1 h
    · have hr := run_endLoop (P := P) hl (by rw [hrec]; simp)
      rw [hrec] at hr
      refine ⟨some c, _, hr, QC_sound hA (hstop c C1 pre _ hS (hJx _ _ _ _ _ hj (Agr.putObj _ ?_)) ((World.putObj_heap_other (by simp only [l]; omega)).trans hd))⟩
      rintro (h | h)
      · simp only [l] at h; omega
      · exact hn1 h
  have hcall' : FN P gf (first.toList ++ ([.func (.yield l) #[] #[]] ++ caps.toList)) W1 _ := hcall
  unfold FN at hcall'
  rw [hent] at hcall'
  refine ⟨l, [{ target := .collected D, args := #[] }], W1, { target := .fn (.func gf) caps, args := first ++ #[Value.func (.yield l) #[] #[]] }, W1, gf, (first.toList ++ ([Value.func (.yield l) #[] #[]] ++ caps.toList)).toArray, W1, ?_, ?_, fun _ _ => trivial, ?_, fun h => by simp [FR] at h, ?_⟩
  · rw [← hW1, hrec]; exact run_enterLoop_outer _ _ _ _ _
  · have : (Act.mk tmps ds).eval f = .func (.func gf) first caps := hg.symm.trans hgv
    simp only [resolve, this, Deferred.ofValue]
    simp [Act.eval]
  · have e0 : (first ++ #[Value.func (.yield l) #[] #[]] ++ caps) = (first.toList ++ ([Value.func (.yield l) #[] #[]] ++ caps.toList)).toArray := by apply Array.ext'; simp
    simp only [invoke]
    rw [e0]; exact hent _ _
  · exact callsIn_FR (hcall'.mono fun e W' h => fin e W' h)
end Pk
