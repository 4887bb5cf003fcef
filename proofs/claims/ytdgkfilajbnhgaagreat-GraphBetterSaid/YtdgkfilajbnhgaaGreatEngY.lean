/-
 The engine, part Y: an entry of a map that is taken, and written later.
-/
import Derived.Test.YtdgkfilajbnhgaaGreatEngS
import Derived.Laws.IdiomCopy
namespace Pk
open Go
theorem beq_dec (a b : Int) : (a == b) = decide (a = b) := by
 by_cases h : a = b <;> simp [h]
theorem bne_dec (a b : Int) : (a != b) = !decide (a = b) := by
 by_cases h : a = b <;> simp [h]
def EntAt {κ : Type} (ek : κ → Value) (w : World) (r : Nat) (k : κ) (n : Nat) : Prop :=
 ∃ es c i, ∃ e : MapEntry, w.heap[r]? = some (.map es c) ∧ es.toList[i]? = some e ∧ e.key = ek k ∧ e.born = n ∧ (∀ (j : Nat) (e' : MapEntry), es.toList[j]? = some e' → e'.born = n → j = i)
theorem EntAt.keep {κ : Type} {ek : κ → Value} {w w' : World} {r : Nat} {k : κ} {n : Nat} (h : EntAt ek w r k n) (hb : w'.heap[r]? = w.heap[r]?) : EntAt ek w' r k n := by
 obtain ⟨es, c, i, e, h1, h2⟩ := h
 exact ⟨es, c, i, e, hb.trans h1, h2⟩
theorem EntAt.lt {κ : Type} {ek : κ → Value} {w : World} {r : Nat} {k : κ} {n : Nat} (h : EntAt ek w r k n) : r < w.heap.size := by
 obtain ⟨es, c, i, e, h1, h2⟩ := h
 exact (Array.getElem?_eq_some_iff.1 h1).1
theorem EntAt.ext {κ : Type} {ek : κ → Value} {w w' : World} {r : Nat} {k : κ} {n : Nat} (h : EntAt ek w r k n) (he : Ext w w') : EntAt ek w' r k n := h.keep (he.blk r h.lt)
theorem EntAt.mod {κ : Type} {ek : κ → Value} {w w' : World} {r : Nat} {k : κ} {n : Nat} {S : Nat → Prop} (h : EntAt ek w r k n) (he : Mod S w w') (hs : ¬ S r) : EntAt ek w' r k n := h.keep (he.blk r h.lt hs)
theorem born_uniq {es : List MapEntry} (h : (es.map (·.born)).Pairwise (· < ·)) {i j : Nat} {e e' : MapEntry} (hi : es[i]? = some e) (hj : es[j]? = some e') (hb : e'.born = e.born) : j = i := by
 have hp := List.pairwise_iff_getElem.1 h
 obtain ⟨hil, hi'⟩ := List.getElem?_eq_some_iff.1 hi
 obtain ⟨hjl, hj'⟩ := List.getElem?_eq_some_iff.1 hj
 rcases Nat.lt_trichotomy i j with hlt | hlt | hlt
 ·have := hp i j (by simpa using hil) (by simpa using hjl) hlt
  simp [hi', hj', hb] at this
 ·exact hlt.symm
 ·have := hp j i (by simpa using hjl) (by simpa using hil) hlt
  simp [hi', hj', hb] at this
section
variable {κ ν : Type} [DecidableEq κ] {P : Program} {T K E : TypeId} {ek : κ → Value} {ew : ν → Value} {w : World} {r : Nat} {m : List (κ × ν)}
theorem mset_self {m : List (κ × ν)} {k : κ} {v : ν} (hn : (m.map (·.1)).Nodup) (h : mget m k = some v) : mset m k v = m := by
 have := kset_map hn h (fun p => p) rfl
 simpa using this
theorem MapAt.entry (h : MapAt ek ew w r m) (hK : KeyEq P K ek) (hT : P.underlying T = some (.map K E)) {z : ν} (hz : (zeroValue E).run P w = .ok (ew z) w) (k : κ) :
  ∃ w' n, (Instr.mapEntry T (.map (some r)) (ek k)).run P w = .ok (.tuple #[ew ((mget m k).getD z), .int .i64 (n : Nat)]) w' ∧ MapAt ek ew w' r (mset m k ((mget m k).getD z)) ∧ EntAt ek w' r k n ∧ Mod (· = r) w w' ∧ w'.heap.size = w.heap.size := by
 obtain ⟨es, c, h1, h2, h3, h4, hf⟩ := h.found hK k
 have hu := run_und hT w
 have hg : (getObj r).run P w = .ok (.map es c) w := by simp [getObj, Sem.run, h1]
 have hc := hK.check false k w
 have hlt := (Array.getElem?_eq_some_iff.1 h1).1
 have hset : ∀ o, (setObj r o).run P w = .ok () (w.putObj r o) := fun o => by simp [setObj, Sem.run, h1, World.putObj]
 have hlen : es.toList.length = m.length := by have := congrArg List.length h2; simpa using this
 have hmod : ∀ o, Mod (· = r) w (w.putObj r o) := fun o => ⟨rfl, rfl, rfl, by simp, fun b _ hb => World.putObj_heap_other hb⟩
 unfold Instr.mapEntry
 simp only [Sem.run_bind, hu, Result.andThen_ok, hg, hc, hf]
 cases hi : m.findIdx? (fun p => decide (p.1 = k)) with
 | none =>
  have hn : mget m k = none := by rw [mget_eq, hi]; rfl
  refine ⟨w.putObj r (.map (es.push { key := ek k, val := ew z, born := c }) (c + 1)), c, by simp only [Option.bind_none, Sem.run_bind, hz, Result.andThen_ok, hset, hn, Option.getD_none, Sem.run_pure, goInt], ?_, ?_, hmod _, by simp⟩
  ·refine ⟨⟨es.push { key := ek k, val := ew z, born := c }, c + 1, World.putObj_heap_same hlt, ?_, ?_, ?_⟩, kset_nodup h.nodup _ _⟩
   ·simp [mset, hn, h2]
   ·simp only [Array.toList_push, List.map_append, List.map_cons, List.map_nil]
    rw [List.pairwise_append]
    refine ⟨h3, by simp, ?_⟩
    intro a ha b hb
    simp at hb; subst hb
    obtain ⟨e, he, rfl⟩ := List.mem_map.1 ha
    exact h4 e he
   ·intro e he
    simp only [Array.toList_push, List.mem_append, List.mem_singleton] at he
    rcases he with he | rfl
    ·have := h4 e he; omega
    ·exact Nat.lt_succ_self _
  ·refine ⟨es.push { key := ek k, val := ew z, born := c }, c + 1, es.size, { key := ek k, val := ew z, born := c }, World.putObj_heap_same hlt, by simp, rfl, rfl, ?_⟩
   intro j e' hj hb
   simp only [Array.toList_push] at hj
   rcases Nat.lt_or_ge j es.toList.length with hjl | hjl
   ·rw [List.getElem?_append_left hjl] at hj
    have := h4 e' (List.mem_of_getElem? hj)
    omega
   ·have := (List.getElem?_eq_some_iff.1 hj).1
    simp at this hjl
    omega
 | some i =>
  obtain ⟨hil, hpi, hlt'⟩ := List.findIdx?_eq_some_iff_getElem.1 hi
  have hpk : (m[i]).1 = k := by simpa using hpi
  have hmi : m[i]? = some m[i] := List.getElem?_eq_getElem hil
  have hei : i < es.size := by rw [← Array.length_toList, hlen]; exact hil
  have hkey : (es[i]'hei).key = ek k := by
   have := congrArg (fun l => l[i]?) h2
   simp only [List.getElem?_map, hmi, Option.map_some, Array.getElem?_toList, Array.getElem?_eq_getElem hei, Option.some.injEq, Prod.mk.injEq] at this
   rw [this.1, hpk]
  have hk2 : ((es[i]?).map (·.key)).getD (ek k) = ek k := by simp [hei, hkey]
  have hn : mget m k = some (m[i]).2 := by rw [mget_eq, hi]; simp [hmi]
  have hbn : ((es[i]?).map (·.born)).getD 0 = (es[i]'hei).born := by simp [hei]
  have hsame : es.modify i (fun e => { e with key := ek k }) = es := by
   apply Array.ext_getElem?
   intro j
   rw [Array.getElem?_modify]
   by_cases e : i = j
   ·subst e
    rw [if_pos rfl, Array.getElem?_eq_getElem hei]
    simp [← hkey]
   ·rw [if_neg e]
  refine ⟨w.putObj r (.map (es.modify i fun e => { e with key := ek k }) c), (es[i]'hei).born, by simp only [Option.bind_some, hmi, Option.map_some, Sem.run_bind, hk2, hK.same, Result.andThen_ok, hset, hn, Option.getD_some, Sem.run_pure, goInt]; simp [hei], ?_, ?_, hmod _, by simp⟩
  ·rw [hn, Option.getD_some, mset_self h.nodup hn, hsame]
   exact ⟨⟨es, c, World.putObj_heap_same hlt, h2, h3, h4⟩, h.nodup⟩
  ·rw [hsame]
   exact ⟨es, c, i, es[i], World.putObj_heap_same hlt, by simp [hei], hkey, rfl, fun j e' hj hb => born_uniq h3 (by simp [hei]) hj hb⟩
theorem MapAt.entryStore (h : MapAt ek ew w r m) (hi : ∀ a b : κ, ek a = ek b → a = b) {k : κ} {n : Nat} (he : EntAt ek w r k n) (v : ν) :
  ∃ w', (Instr.entryStore T (.map (some r)) (.int .i64 (n : Nat)) (ew v)).run P w = .ok () w' ∧ MapAt ek ew w' r (mset m k v) ∧ Mod (· = r) w w' ∧ w'.heap.size = w.heap.size := by
 obtain ⟨⟨es, c, h1, h2, h3, h4⟩, h5⟩ := h
 obtain ⟨es', c', i, e, g1, g2, g3, g4, g5⟩ := he
 rw [h1] at g1
 cases g1
 have hg : (getObj r).run P w = .ok (.map es c) w := by simp [getObj, Sem.run, h1]
 have hlt := (Array.getElem?_eq_some_iff.1 h1).1
 have hset : ∀ o, (setObj r o).run P w = .ok () (w.putObj r o) := fun o => by simp [setObj, Sem.run, h1, World.putObj]
 have hmod : ∀ o, Mod (· = r) w (w.putObj r o) := fun o => ⟨rfl, rfl, rfl, by simp, fun b _ hb => World.putObj_heap_other hb⟩
 have hlen : es.toList.length = m.length := by have := congrArg List.length h2; simpa using this
 have hil : i < es.toList.length := (List.getElem?_eq_some_iff.1 g2).1
 have hes : es[i]? = some e := by rw [← Array.getElem?_toList]; exact g2
 have hfi : es.findIdx? (fun e => (e.born : Int) == (n : Int)) = some i := by
  rw [Array.findIdx?_eq_some_iff_getElem]
  obtain ⟨h6, h7⟩ := Array.getElem?_eq_some_iff.1 hes
  refine ⟨h6, by simp [h7, g4], fun j hj => ?_⟩
  intro hc
  have h8 : es.toList[j]? = some es[j] := by simp
  have := g5 j es[j] h8 (by have : ((es[j].born : Int)) = n := by simpa using hc
                            omega)
  omega
 have hm : m[i]? = some (k, (m[i]'(by omega)).2) := by
  have := congrArg (fun l => l[i]?) h2
  simp only [List.getElem?_map, g2, Option.map_some, List.getElem?_eq_getElem (show i < m.length by omega), Option.some.injEq, Prod.mk.injEq] at this
  rw [List.getElem?_eq_getElem (show i < m.length by omega)]
  congr 1
  rw [Prod.ext_iff]
  exact ⟨hi _ _ (this.1.symm.trans g3), rfl⟩
 have hget : mget m k = some (m[i]'(by omega)).2 := (kget_iff h5).2 (List.mem_of_getElem? hm)
 refine ⟨w.putObj r (.map (es.modify i fun e => { e with val := ew v }) c), by simp [Instr.entryStore, hg, hfi, hset], ⟨⟨_, c, World.putObj_heap_same hlt, ?_, ?_, ?_⟩, kset_nodup h5 _ _⟩, hmod _, by simp⟩
 ·have hs : (mget m k).isSome = true := by rw [hget]; rfl
  simp only [mset, hs, if_true]
  apply List.ext_getElem?
  intro j
  have hj := congrArg (fun l => l[j]?) h2
  simp only [List.getElem?_map, Array.getElem?_toList, Array.getElem?_modify] at hj ⊢
  by_cases e0 : i = j
  ·subst e0
   rw [if_pos rfl, hes, hm]
   simp [g3]
  ·rw [if_neg e0, hj]
   cases hmj : m[j]? with
   | none => rfl
   | some p =>
    have hne : p.1 ≠ k := by
     intro hpk
     have hjl : j < m.length := (List.getElem?_eq_some_iff.1 hmj).1
     have hpj : m[j] = p := by have := List.getElem?_eq_getElem hjl; rw [hmj] at this; exact (Option.some.inj this).symm
     have hmi' : m[i]'(by omega) = (k, (m[i]'(by omega)).2) := by have := List.getElem?_eq_getElem (show i < m.length by omega); rw [hm] at this; exact (Option.some.inj this).symm
     have hk' : (m[i]'(by omega)).1 = k := by rw [hmi']
     have hnd := List.pairwise_iff_getElem.1 h5
     rcases Nat.lt_or_ge i j with hij | hij
     ·exact hnd i j (by simp; omega) (by simpa using hjl) hij (by simp [hk', hpj, hpk])
     ·exact hnd j i (by simpa using hjl) (by simp; omega) (by omega) (by simp [hk', hpj, hpk])
    simp [hne]
 ·have : (es.modify i fun e => { e with val := ew v }).toList.map (·.born) = es.toList.map (·.born) := by
   apply List.ext_getElem?
   intro j
   simp only [List.getElem?_map, Array.getElem?_toList, Array.getElem?_modify]
   by_cases e : i = j
   ·subst e; simp [hes]
   ·simp [e]
  rw [this]; exact h3
 ·intro x hx
  obtain ⟨j, hj⟩ := List.mem_iff_getElem?.1 hx
  simp only [Array.getElem?_toList, Array.getElem?_modify] at hj
  by_cases e' : i = j
  ·subst e'
   rw [if_pos rfl, hes] at hj
   simp at hj
   subst hj
   exact h4 e (List.mem_of_getElem? g2)
  ·rw [if_neg e'] at hj
   exact h4 x (List.mem_iff_getElem?.2 ⟨j, by simpa using hj⟩)
end
end Pk
namespace Pk
open Go
theorem agr_any {w w' : World} (h : Mod (fun _ => True) w w') : Agr (fun _ => true = false) w w' := h.agr fun _ hi => by cases hi
theorem Mod.setC {a w : World} {b : Nat} (h : Mod (fun k => k = b) a w) (i : Nat) (v : Value) : Mod (fun k => k = b) a (w.setCell ⟨b, i, none⟩ v) := h.setCell _ _ (.inl rfl)
theorem Mod.any {w w' : World} (h : Mod (fun _ => True) w w') (p : Addr) (v : Value) : Mod (fun _ => True) w (w'.setCell p v) := h.setCell p v (.inl trivial)
section
variable {P : Program} {t : TypeId}
end
theorem own_take {w : World} {base e s g n cap : Nat} {xs : List Value} (h : w.ownsRow base e s (.slice (some ⟨g, 0, none⟩) n cap) n xs) (i : Nat) (hi : i ≤ n) : w.ownsRow base e s (.slice (some ⟨g, 0, none⟩) i cap) i (xs.take (i * s)) := by
 obtain ⟨h1, h2⟩ := h
 rcases h2 with ⟨h2, _⟩ | ⟨g', cap', cur, h2, a1, a2, a3, a4, a5, a6⟩
 ·cases h2
 ·cases h2
  have hm : i * s ≤ n * s := Nat.mul_le_mul_right _ hi
  refine ⟨by rw [List.length_take]; omega, .inr ⟨g, cap, cur, rfl, a1, a2, by omega, a4, a5, ?_⟩⟩
  rw [← a6, List.take_take, Nat.min_eq_left hm]
theorem mod_setCells (w : World) (g o : Nat) (vs : List Value) : Mod (· = g) w (w.setCells g o vs) := by
 refine ⟨?_, over_tape w g o vs, ?_, by rw [over_size]; exact Nat.le_refl _, fun b hb hs => heap_over_other vs w g o hb hs⟩
 ·induction vs generalizing w o with
  | nil => rfl
  | cons v r ih => show ((w.setCell ⟨g, o, none⟩ v).setCells g (o + 1) r).os = _; rw [ih]; rfl
 ·induction vs generalizing w o with
  | nil => rfl
  | cons v r ih => show ((w.setCell ⟨g, o, none⟩ v).setCells g (o + 1) r).output = _; rw [ih]; rfl
theorem own_behind {w : World} {base e s g n cap o : Nat} {xs vs : List Value} (h : w.ownsRow base e s (.slice (some ⟨g, 0, none⟩) n cap) n xs) (ho : n * s ≤ o) (hv : o + vs.length ≤ cap * s) : (w.setCells g o vs).ownsRow base e s (.slice (some ⟨g, 0, none⟩) n cap) n xs := by
 obtain ⟨h1, h2⟩ := h
 rcases h2 with ⟨h2, _⟩ | ⟨g', cap', cur, h2, a1, a2, a3, a4, a5, a6⟩
 ·cases h2
 ·cases h2
  refine ⟨h1, .inr ⟨g, cap, overC cur o vs, rfl, a1, heap_over vs w g o cur e (0, 0) a2, a3, a4, by rw [overC_size]; exact a5, ?_⟩⟩
  rw [← a6]
  apply List.ext_getElem?
  intro k
  simp only [List.getElem?_take, Array.getElem?_toList]
  by_cases hk : k < n * s
  ·rw [if_pos hk, if_pos hk, overC_get _ _ _ _ (by omega), if_neg (by omega)]
  ·rw [if_neg hk, if_neg hk]
end Pk
namespace Pk
open Go
theorem Mod.agr_old {O C : Nat → Prop} {w W W' : World} (h : Mod O w W) (hag : Agr (fun k => k < w.heap.size ∨ C k) W W') : Mod O w W' :=
 ⟨hag.os.trans h.os, hag.tape.trans h.tape, hag.out.trans h.out, Nat.le_trans h.size hag.size, fun i hi hn => (hag.blk i (Nat.lt_of_lt_of_le hi h.size) (.inl hi)).trans (h.blk i hi hn)⟩
theorem WC_rangeFuncA {α : Type} {P : Program} {n : Nat} {f : Operand} {ps : List Tmp} {assign body : Code} {Q : Post} {ρ : Env} {ds : List Deferred} {w : World}
  {enc : α → List Value} {S Sp : List α → Prop} {Cap : Nat → Prop} {gf : FuncId} {first caps : Array Value} (hgv : ev ρ f = .func (.func gf) first caps) (hent : ∀ as w, (callFunc gf as).run P w = .ok (.enter gf as) w)
  (hit : Iter P (.func (.func gf) first caps) enc S Sp Cap w) (henc : ∀ x, (enc x).length = ps.length)
  (C0 : Nat → Prop) (J : (Nat → Prop) → List α → World → Prop) (Jx : Code → (Nat → Prop) → List α → World → Prop)
  (hcap : ∀ k, Cap k → k < w.heap.size ∧ ¬ C0 k) (hC0 : ∀ k, C0 k → k < w.heap.size)
  (hJ : ∀ C pre W W', J C pre W → Agr (fun k => k < w.heap.size ∨ C k) W W' → J C pre W')
  (hJx : ∀ c C pre W W', Jx c C pre W → Agr (fun k => k < w.heap.size ∨ C k) W W' → Jx c C pre W')
  (h0 : J C0 [] w)
  (A : α → Nat → Env → World → Prop) (hAs : ∀ x B ρ' W W', A x B ρ' W → Agr (fun k => B ≤ k) W W' → A x B ρ' W')
  (hassign : ∀ l x W, vc P n (some l) assign (QS (fun ρ' ds' W' => ds' = [] ∧ Ext W W' ∧ A x W.heap.size ρ' W') (fun _ _ _ _ => False)) (setsE ρ ps (enc x)) [] W)
  (hbody : ∀ l C pre x B ρ' W, Sp (pre ++ [x]) → J C pre W → w.heap.size ≤ l → l < B → ¬ C l → B ≤ W.heap.size → A x B ρ' W → vc P n (some l) body (QR J Jx C (pre ++ [x]) W) ρ' [] W)
  (hdone : ∀ C xs W, S xs → J C xs W → W.heap[w.heap.size]? = some (.deferred (some [])) → Q .normal ρ ({ target := .collected w.heap.size, args := #[] } :: ds) W)
  (hstop : ∀ c C pre W, Sp pre → Jx c C pre W → W.heap[w.heap.size]? = some (.deferred (some [])) → QC Q c ρ ({ target := .collected w.heap.size, args := #[] } :: ds) W) :
  WC P n none (.rangeFunc f ps.toArray assign body) Q ρ ds w := by
 intro hok tmps hA
 have hok1 := Bool.and_eq_true_iff.1 hok
 have hok2 := Bool.and_eq_true_iff.1 hok1.2
 have hok3 := Bool.and_eq_true_iff.1 hok2.2
 have hps : ∀ p ∈ ps, p < n := fun p hp => by simpa using List.all_eq_true.1 hok2.1 p hp
 refine wpIn_rangeFunc ?_
 intro fn _
 obtain ⟨rec, hrec⟩ : ∃ rec : LoopState → Option Code → Loop, rec = fun st pe => { state := st, pending := pe, fn, tmps := tmps, params := ps.toArray, assign, body, defers := w.heap.size } := ⟨_, rfl⟩
 obtain ⟨W1, hW1⟩ : ∃ W1, (w.alloc (.deferred (some []))).alloc (.loop (rec .ready none)) = W1 := ⟨_, rfl⟩
 have hs1 : W1.heap.size = w.heap.size + 2 := by rw [← hW1]; simp
 have hL1 : W1.heap[w.heap.size + 1]? = some (.loop (rec .ready none)) := by
  rw [← hW1]; have := World.alloc_heap_new (w.alloc (.deferred (some []))) (.loop (rec .ready none)); rwa [World.size_alloc] at this
 have hD1 : W1.heap[w.heap.size]? = some (.deferred (some [])) := by
  rw [← hW1]; exact (Go.RowKit.Below.heap_alloc _ _ _ (by simp)).trans (World.alloc_heap_new w _)
 have hx1 : Ext w W1 := by rw [← hW1]; exact ((Ext.refl w).alloc _).alloc _
 have hg : ev ρ f = (Act.mk tmps ds).eval f := (eval_eq hA hok1.1).symm
 -- the caller's state and the record beside it
 let l := w.heap.size + 1
 let D := w.heap.size
 let J' : (Nat → Prop) → List α → World → Prop := fun C pre W => ∃ C1, J C1 pre W ∧ (∀ k, C k ↔ C1 k ∨ k = l) ∧ ¬ C1 l ∧ ¬ C1 D ∧ W.heap[l]? = some (.loop (rec .ready none)) ∧ W.heap[D]? = some (.deferred (some []))
 let Jx' : (Nat → Prop) → List α → World → Prop := fun C pre W => ∃ C1 c, Jx c C1 pre W ∧ (∀ k, C k ↔ C1 k ∨ k = l) ∧ ¬ C1 l ∧ W.heap[l]? = some (.loop (rec .done (some c))) ∧ W.heap[D]? = some (.deferred (some []))
 have hcall := hit (.func (.yield l) #[] #[]) (fun k => C0 k ∨ k = l) J' Jx' W1 hx1.agr
  (fun k hk => ⟨(hcap k hk).1, fun h => h.elim (hcap k hk).2 (fun e => by have := (hcap k hk).1; simp only [l] at e; omega)⟩)
  (fun k hk => by
   rcases hk with hk | hk
   ·have := hC0 k hk; omega
   ·simp only [l] at hk; omega) ?_ ?_ ?_ ?_
 case refine_1 =>
  rintro C pre Wa Wb ⟨C1, hj, hC, hl, hd, h1, h2⟩ hag
  refine ⟨C1, hJ _ _ _ _ hj (hag.weaken ?_), hC, hl, hd, hag.obj h1 (.inl (by simp only [l]; omega)), hag.obj h2 (.inl (by simp only [D]; omega))⟩
  rintro i (hi | hi)
  ·exact .inl (by omega)
  ·exact .inr ((hC i).2 (.inl hi))
 case refine_2 =>
  rintro C pre Wa Wb ⟨C1, c, hj, hC, hnl, h1, h2⟩ hag
  refine ⟨C1, c, hJx _ _ _ _ _ hj (hag.weaken ?_), hC, hnl, hag.obj h1 (.inl (by simp only [l]; omega)), hag.obj h2 (.inl (by simp only [D]; omega))⟩
  rintro i (hi | hi)
  ·exact .inl (by omega)
  ·exact .inr ((hC i).2 (.inl hi))
 case refine_3 =>
  rintro C pre x W hsp ⟨C1, hj, hC, hnl, hnd, hl, hd⟩
  have hlt : l < W.heap.size := (Array.getElem?_eq_some_iff.1 hl).1
  have hy := run_yield (P := P) (args := (enc x).toArray) hl (by rw [hrec]; simpa using henc x)
  rw [hrec] at hy
  show YD P l ([] ++ enc x) W _
  unfold YD
  rw [List.nil_append, hy]
  have hround : RoundIn (FR none) 0 P l fn ((ps.toArray.zip (enc x).toArray).foldl (fun tmps (t, a) => tmps.setIfInBounds t a) tmps) assign body W (fun e W' =>
    (e = .returned (.bool true) ∧ ∃ C', J' C' (pre ++ [x]) W' ∧ Own C C' W W') ∨ (e = .returned (.bool false) ∧ ∃ C', Jx' C' (pre ++ [x]) W' ∧ Own C C' W W')) := by
   refine roundIn_of_wpIn trivial ?_
   have hAx : Ag n ((ps.toArray.zip (enc x).toArray).foldl (fun tmps (t, a) => tmps.setIfInBounds t a) tmps) (setsE ρ ps (enc x)) := by
    have := Ag.sets ps (enc x) tmps ρ hA hps
    rw [← Array.foldl_toList]
    simpa using this
   refine wpIn_mono (vc_sound assign _ _ _ _ (hassign l x W) hok3.1 _ hAx) ?_
   rintro e a1 W' ⟨ρ', hA', hq⟩
   cases e with
   | normal =>
    obtain ⟨hds, hEx, hAx'⟩ := hq
    have hlB := hlt
    have hsB := hEx.size
    have hlA : W'.heap[l]? = some (.loop (rec .ready none)) := hEx.obj hl
    have hdA : W'.heap[D]? = some (.deferred (some [])) := hEx.obj hd
    have hltA : l < W'.heap.size := (Array.getElem?_eq_some_iff.1 hlA).1
    obtain ⟨W2, hW2⟩ : ∃ W2, W2 = W'.putObj l (.loop { rec .ready none with state := .busy }) := ⟨_, rfl⟩
    refine ⟨W2, by rw [hW2]; exact run_beginRound hlA (by rw [hrec]), ?_⟩
    have hl2 : W2.heap[l]? = some (.loop { rec .ready none with state := .busy }) := by rw [hW2]; exact World.putObj_heap_same hltA
    have hd2 : W2.heap[D]? = some (.deferred (some [])) := by rw [hW2]; exact (World.putObj_heap_other (by simp only [l, D]; omega)).trans hdA
    have hj2 : J C1 pre W2 := hJ _ _ _ _ (hJ _ _ _ _ hj hEx.agr) (by
     rw [hW2]
     refine Agr.putObj _ ?_
     rintro (h | h)
     ·simp only [l] at h; omega
     ·exact hnl h)
    have hm2 : Mod (· = l) W' W2 := by rw [hW2]; exact Mod.putObj _ _
    have hs2 : W2.heap.size = W'.heap.size := by rw [hW2]; simp
    have hA2 : A x W.heap.size ρ' W2 := hAs _ _ _ _ _ hAx' (by rw [hW2]; exact Agr.putObj _ (by omega))
    have hb := hbody l C1 pre x W.heap.size ρ' W2 hsp hj2 (by simp only [l]; omega) hlt hnl (by rw [hs2]; exact hsB) hA2
    have hwp := vc_sound body _ _ _ _ hb hok3.2 _ hA'
    have ha1 : a1 = ⟨a1.tmps, []⟩ := by cases a1; simp_all
    rw [ha1]
    refine wpIn_mono hwp ?_
    rintro e a3 W3 ⟨ρ3, hA3, hq3⟩
    have fin : ∀ (jump : Option Code) (C' : Nat → Prop), Own C1 C' W2 W3 →
      ∃ W4, (Instr.endRound l jump).run P W3 = .ok (.bool jump.isNone) W4 ∧ W4 = W3.putObj l (.loop (rec (if jump.isNone then .ready else .done) jump)) ∧ W4.heap[l]? = some (.loop (rec (if jump.isNone then .ready else .done) jump)) ∧
       W4.heap[D]? = some (.deferred (some [])) ∧ ¬ C' l ∧ ¬ C' D ∧ Own C (fun k => C' k ∨ k = l) W W4 := by
     intro jump C' hown
     have hl3 : W3.heap[l]? = some (.loop { rec .ready none with state := .busy }) := hown.mod.obj hl2 hnl
     have hd3 : W3.heap[D]? = some (.deferred (some [])) := hown.mod.obj hd2 hnd
     have hlt3 : l < W3.heap.size := (Array.getElem?_eq_some_iff.1 hl3).1
     have hr := run_endRound (P := P) jump hl3
     have hDl : D < W2.heap.size := (Array.getElem?_eq_some_iff.1 hd2).1
     refine ⟨W3.putObj l (.loop (rec (if jump.isNone then .ready else .done) jump)), ?_, rfl, World.putObj_heap_same hlt3, (World.putObj_heap_other (by simp only [l, D]; omega)).trans hd3, ?_, ?_, ?_⟩
     ·rw [hr, hrec]
     ·intro h; rcases hown.own _ h with h | h
      ·exact hnl h
      ·omega
     ·intro h; rcases hown.own _ h with h | h
      ·exact hnd h
      ·omega
     ·refine ⟨?_, ?_, ?_⟩
      ·have m1 : Mod C W W2 := hEx.mod.trans (hm2.weaken (fun i e => (hC i).2 (.inr e)))
       have m2 : Mod C W2 W3 := hown.mod.weaken (fun i h => (hC i).2 (.inl h))
       exact (m1.trans m2).trans ((Mod.putObj _ _).weaken (fun i e => (hC i).2 (.inr e)))
      ·rintro k (h | h)
       ·rcases hown.own k h with h | h
        ·exact .inl ((hC k).2 (.inl h))
        ·exact .inr (by omega)
       ·exact .inl ((hC k).2 (.inr h))
      ·rintro k (h | h)
       ·rcases hown.lt k h with h | h
        ·exact .inl ((hC k).2 (.inl h))
        ·exact .inr (by simpa using h)
       ·exact .inl ((hC k).2 (.inr h))
    have stab : ∀ (C' : Nat → Prop) (W4 : World) (o : Obj), W4 = W3.putObj l o → ¬ C' l → Agr (fun k => k < w.heap.size ∨ C' k) W3 W4 := by
     intro C' W4 o e hn
     rw [e]
     refine Agr.putObj _ ?_
     rintro (h | h)
     ·simp only [l] at h; omega
     ·exact hn h
    cases e with
    | normal =>
     obtain ⟨-, C', hj3, hown⟩ := hq3
     obtain ⟨W4, hr, e4, hl4, hd4, hn1, hn2, ho⟩ := fin none C' hown
     exact ⟨_, W4, hr, .inl ⟨rfl, _, ⟨C', hJ _ _ _ _ hj3 (stab C' W4 _ e4 hn1), fun k => Iff.rfl, hn1, hn2, hl4, hd4⟩, ho⟩⟩
    | ret =>
     obtain ⟨-, C', hj3, hown⟩ := hq3
     obtain ⟨W4, hr, e4, hl4, hd4, hn1, hn2, ho⟩ := fin (some .ret) C' hown
     exact ⟨_, W4, hr, .inr ⟨rfl, _, ⟨C', .ret, hJx _ _ _ _ _ hj3 (stab C' W4 _ e4 hn1), fun k => Iff.rfl, hn1, hl4, hd4⟩, ho⟩⟩
    | exit id =>
     obtain ⟨-, C', hj3, hown⟩ := hq3
     obtain ⟨W4, hr, e4, hl4, hd4, hn1, hn2, ho⟩ := fin (some (.exit id)) C' hown
     exact ⟨_, W4, hr, .inr ⟨rfl, _, ⟨C', .exit id, hJx _ _ _ _ _ hj3 (stab C' W4 _ e4 hn1), fun k => Iff.rfl, hn1, hl4, hd4⟩, ho⟩⟩
    | goto t =>
     obtain ⟨-, C', hj3, hown⟩ := hq3
     obtain ⟨W4, hr, e4, hl4, hd4, hn1, hn2, ho⟩ := fin (some (.goto t)) C' hown
     exact ⟨_, W4, hr, .inr ⟨rfl, _, ⟨C', .goto t, hJx _ _ _ _ _ hj3 (stab C' W4 _ e4 hn1), fun k => Iff.rfl, hn1, hl4, hd4⟩, ho⟩⟩
    | panic ch => exact hq3.elim
    | outgrown => exact hq3.elim
   | _ => exact hq.elim
  exact hround
 case refine_4 =>
  refine ⟨C0, hJ _ _ _ _ h0 hx1.agr, fun k => Iff.rfl, ?_, ?_, hL1, hD1⟩
  ·intro h; have := hC0 _ h; simp only [l] at this; omega
  ·intro h; have := hC0 _ h; simp only [D] at this; omega
 -- the one call
 have fin : ∀ e W', ((∃ v, e = .returned v) ∧ ∃ C', ((∃ xs, S xs ∧ J' C' xs W') ∨ (∃ pre, Sp pre ∧ Jx' C' pre W'))) →
   rangePost (FR none) 0 P l (fun e a w' => ∃ ρ', Ag n a.tmps ρ' ∧ Q e ρ' a.defers w') ⟨tmps, { target := .collected D, args := #[] } :: ds⟩ e W' := by
  rintro e W' ⟨⟨v, rfl⟩, C', (⟨xs, hS, C1, hj, -, hn1, hn2, hl, hd⟩ | ⟨pre, hS, C1, c, hj, -, hn1, hl, hd⟩)⟩
  ·have hr := run_endLoop (P := P) hl (by rw [hrec]; simp)
   rw [hrec] at hr
   refine ⟨none, _, hr, ρ, hA, hdone C1 xs _ hS (hJ _ _ _ _ hj (Agr.putObj _ ?_)) ((World.putObj_heap_other (by simp only [l]; omega)).trans hd)⟩
   rintro (h | h)
   ·simp only [l] at h; omega
   ·exact hn1 h
  ·have hr := run_endLoop (P := P) hl (by rw [hrec]; simp)
   rw [hrec] at hr
   refine ⟨some c, _, hr, QC_sound hA (hstop c C1 pre _ hS (hJx _ _ _ _ _ hj (Agr.putObj _ ?_)) ((World.putObj_heap_other (by simp only [l]; omega)).trans hd))⟩
   rintro (h | h)
   ·simp only [l] at h; omega
   ·exact hn1 h
 have hcall' : FN P gf (first.toList ++ ([.func (.yield l) #[] #[]] ++ caps.toList)) W1 _ := hcall
 unfold FN at hcall'
 rw [hent] at hcall'
 refine ⟨l, [{ target := .collected D, args := #[] }], W1, { target := .fn (.func gf) caps, args := first ++ #[Value.func (.yield l) #[] #[]] }, W1, gf, (first.toList ++ ([Value.func (.yield l) #[] #[]] ++ caps.toList)).toArray, W1, ?_, ?_, fun _ _ => trivial, ?_, fun h => by simp [FR] at h, ?_⟩
 ·rw [← hW1, hrec]; exact run_enterLoop_outer _ _ _ _ _
 ·have : (Act.mk tmps ds).eval f = .func (.func gf) first caps := hg.symm.trans hgv
  simp only [resolve, this, Deferred.ofValue]
  simp [Act.eval]
 ·have e0 : (first ++ #[Value.func (.yield l) #[] #[]] ++ caps) = (first.toList ++ ([Value.func (.yield l) #[] #[]] ++ caps.toList)).toArray := by apply Array.ext'; simp
  simp only [invoke]
  rw [e0]; exact hent _ _
 ·exact callsIn_FR (hcall'.mono fun e W' h => fin e W' h)
end Pk
namespace Pk
open Go
structure SlB (w : World) (s : Nat) (v : Value) (n : Nat) (cs : List Value) : Prop where
 len : cs.length = n * s
 val : ∃ ao c, v = .slice ao n c ∧ n ≤ c ∧ (0 < n → ∃ b o, ao = some ⟨b, o, none⟩)
 at_ : ∀ j u, cs[j]? = some u → w.cell? ⟨slB v, slO v + j, none⟩ = some u
theorem Sl.toB {w : World} {s : Nat} {v : Value} {n : Nat} {cs : List Value} (h : Sl w s v n cs) : SlB w s v n cs := by
 refine ⟨h.len, ?_, h.at_⟩
 rcases h.val with ⟨c, rfl, rfl⟩ | ⟨b, o, c, rfl, hc⟩
 ·exact ⟨none, c, rfl, Nat.zero_le _, fun h => by omega⟩
 ·exact ⟨_, c, rfl, hc, fun _ => ⟨b, o, rfl⟩⟩
theorem SlB.nil (w : World) (s c : Nat) : SlB w s (.slice none 0 c) 0 [] := (Sl.nil w s c).toB
theorem SlB.toSl {w : World} {s : Nat} {v : Value} {n : Nat} {cs : List Value} (h : SlB w s v n cs) (h0 : 0 < n) : Sl w s v n cs := by
 obtain ⟨ao, c, rfl, hc, ha⟩ := h.val
 obtain ⟨b, o, rfl⟩ := ha h0
 exact ⟨h.len, .inr ⟨b, o, c, rfl, hc⟩, h.at_⟩
theorem SlB.isSlice {w : World} {s : Nat} {v : Value} {n : Nat} {cs : List Value} (h : SlB w s v n cs) : ∃ a c, v = .slice a n c := by
 obtain ⟨a, c, rfl, -⟩ := h.val
 exact ⟨a, c, rfl⟩
theorem SlB.kept {w w' : World} {s : Nat} {v : Value} {n : Nat} {cs : List Value} (h : SlB w s v n cs) (hw : cs ≠ [] → ∀ (a : Addr) (u : Value), a.block = slB v → w.cell? a = some u → w'.cell? a = some u) : SlB w' s v n cs :=
 ⟨h.len, h.val, fun j u hj => hw (fun e => by rw [e] at hj; simp at hj) _ _ rfl (h.at_ j u hj)⟩
theorem SlB.ext {w w' : World} {s : Nat} {v : Value} {n : Nat} {cs : List Value} (h : SlB w s v n cs) (he : Ext w w') : SlB w' s v n cs := h.kept fun _ _ _ _ hu => he.cell_eq hu
theorem SlB.mod {w w' : World} {s : Nat} {v : Value} {n : Nat} {cs : List Value} {S : Nat → Prop} (h : SlB w s v n cs) (he : Mod S w w') (hs : cs ≠ [] → ¬ S (slB v)) : SlB w' s v n cs :=
 h.kept fun hc a _ ha hu => he.cell hu (by rw [ha]; exact hs hc)
theorem SlB.agr {w w' : World} {s : Nat} {v : Value} {n : Nat} {cs : List Value} {S : Nat → Prop} (h : SlB w s v n cs) (he : Agr S w w') (hs : cs ≠ [] → S (slB v)) : SlB w' s v n cs :=
 h.kept fun hc a _ ha hu => he.cell hu (by rw [ha]; exact hs hc)
theorem SlB.lt {w : World} {s : Nat} {v : Value} {n : Nat} {cs : List Value} (h : SlB w s v n cs) (h0 : 0 < cs.length) : slB v < w.heap.size :=
 World.block_lt_of_cell? w _ (h.at_ 0 cs[0] (by simp [h0]))
section
variable {P : Program} {w : World} {s : Nat} {v : Value} {n : Nat} {cs : List Value} {t : TypeId}
theorem SlB.isLen (h : SlB w s v n cs) (hs : isS (P.underlying t) = true) (ty : TypeId) (w' : World) : (Builtin.len_ #[t] ty #[v]).run P w' = .ok (.int .i64 n) w' := by
 obtain ⟨ao, c, rfl, _⟩ := h.val
 exact r_len_slice P w' t ty ao n c hs
theorem SlB.index (h : SlB w s v n cs) (hs : isS (P.underlying t) = true) (k : IntKind) (i : Int) (h0 : 0 ≤ i) (h1 : i < n) (w' : World) :
  (Instr.indexAt t v (.int k i)).run P w' = ((Go.sizeOf (elemT (P.underlying t))).run P w').andThen fun n w' => .ok (.pointer (some ⟨slB v, slO v + i.toNat * n, none⟩)) w' := (h.toSl (by omega)).index hs k i h0 h1 w'
theorem SlB.sliceL (h : SlB w s v n cs) (hn : 0 < n) (hs : isS (P.underlying t) = true) (k : IntKind) (i : Int) (h0 : 0 ≤ i) (h1 : i ≤ n) (w' : World) :
  (Instr.sliceAt t v (some (.int k i)) none none).run P w' = ((Go.sizeOf (elemT (P.underlying t))).run P w').andThen fun z w' => .ok (slcL v i.toNat z) w' := (h.toSl hn).sliceL hs k i h0 h1 w'
theorem SlB.dropL (h : SlB w s v n cs) (hn : 0 < n) (i : Nat) (h1 : i ≤ n) : Sl w s (slcL v i s) (n - i) (cs.drop (i * s)) := (h.toSl hn).dropL i h1
theorem SlB.src (h : SlB w s v n cs) (hs : isS (P.underlying t) = true) (h1 : ∀ u ∈ cs, u.oneCell' = true) : Src P s t v n cs w := by
 obtain ⟨ao, c, hv, hc, ha⟩ := h.val
 by_cases h0 : n = 0
 ·subst h0
  have hcs : cs = [] := List.eq_nil_of_length_eq_zero (by simpa using h.len)
  subst hcs
  subst hv
  cases ao with
  | none => exact Src.ofNil w (elem_of hs) c
  | some a => exact ⟨.inl ⟨_, elem_of hs⟩, fun _ => rfl, run_firstCells_some w s 0 a 0 c [] (by simp) (by simp), run_firstCells_some w.drew s 0 a 0 c [] (by simp) (by simp), by simp, fun _ h => by cases h⟩
 ·exact (h.toSl (by omega)).src hs h1
end
theorem append_ownB {P : Program} {w : World} {base s : Nat} {t ty : TypeId} {v : Value} {n : Nat} {xs : List Value} {v2 : Value} {m : Nat} {ys : List Value} {e : TypeId} (hs : isS (P.underlying t) = true) (he : elemT (P.underlying t) = e) (hi : elOk (P.info? e) s = true)
  (hown : w.ownsRow base e s v n xs) (h2 : SlB w s v2 m ys) (h1 : ∀ u ∈ ys, u.oneCell' = true) (hb : (n + m) ≤ 1048576) (hbase : base ≤ w.heap.size) :
  ∃ v' w', (Builtin.append_ #[t, t] ty #[v, v2]).run P w = .ok v' w' ∧ w'.ownsRow base e s v' (n + m) (xs ++ ys) ∧ Mod (fun k => slN v = false ∧ k = slB v) w w' ∧
   (slN v' = false → (slN v = false ∧ slB v' = slB v) ∨ w.heap.size ≤ slB v') := by
 by_cases h0 : m = 0
 ·subst h0
  have hys : ys = [] := List.eq_nil_of_length_eq_zero (by simpa using h2.len)
  subst hys
  obtain ⟨⟨i, z, hi1, hi2, hi3, hi4, hi5⟩, hsz⟩ := elOk_inv hi
  have hel := elemT_of (P := P) hs
  rw [he] at hel
  subst hel
  have hsrc := h2.src (P := P) hs h1
  rw [← hi3] at hsrc
  refine ⟨v, w, ?_, by simpa using hown, Mod.refl _ _, fun h => .inl ⟨h, rfl⟩⟩
  rcases hown.2 with ⟨rfl, rfl⟩ | ⟨g, cap, cur, rfl, hb, hg, hc, _⟩
  ·exact run_append_nothing w t t ty (P.elem t) i (elem_of hs) hi1 none 0 0 (by omega) _ hsrc
  ·exact run_append_nothing w t t ty (P.elem t) i (elem_of hs) hi1 _ n cap hc _ hsrc
 ·exact append_own hs he hi hown (h2.toSl (by omega)) h1 hb hbase
end Pk
namespace Pk
open Go
set_option maxRecDepth 10000
theorem own_lt {w : World} {base e s : Nat} {v : Value} {n : Nat} {xs : List Value} (h : w.ownsRow base e s v n xs) (h0 : slN v = false) : slB v < w.heap.size := by
 obtain ⟨h1, h2⟩ := h
 rcases h2 with ⟨rfl, rfl⟩ | ⟨g, cap, cur, rfl, a1, a2, a3⟩
 ·simp [slN] at h0
 ·exact (Array.getElem?_eq_some_iff.1 a2).1
theorem own_empty {e : TypeId} {s : Nat} (W : World) (base : Nat) (h : base ≤ W.heap.size) : (W.alloc (.cells #[] e)).ownsRow base e s (.slice (some ⟨W.heap.size, 0, none⟩) 0 0) 0 [] :=
 ⟨by simp, .inr ⟨W.heap.size, 0, #[], rfl, h, World.alloc_heap_new W _, Nat.le_refl _, by simp, by simp, by simp⟩⟩
theorem own_made (W : World) (cs : List Value) (t : TypeId) (s n : Nat) (h : cs.length = n * s) (hn : n ≤ 1000) (base : Nat) (hb : base ≤ W.heap.size) : (W.alloc (.cells cs.toArray t)).ownsRow base t s (.slice (some ⟨W.heap.size, 0, none⟩) n n) n cs :=
 ⟨h, .inr ⟨W.heap.size, n, cs.toArray, rfl, hb, World.alloc_heap_new W _, Nat.le_refl _, by simp [maxLen]; omega, by simp [h], by simp [← h]⟩⟩
theorem append_newB {P : Program} {w : World} {base s : Nat} {t ty : TypeId} {b m : Nat} {v2 : Value} {ys : List Value} {e : TypeId} (hs : isS (P.underlying t) = true) (he : elemT (P.underlying t) = e) (hi : elOk (P.info? e) s = true)
  (hown : w.ownsRow base e s (.slice (some ⟨b, 0, none⟩) 0 0) 0 []) (h2 : SlB w s v2 m ys) (h1 : ∀ u ∈ ys, u.oneCell' = true) (hb : m ≤ 1000000) (hbase : base ≤ w.heap.size) :
  ∃ v' w', (Builtin.append_ #[t, t] ty #[.slice (some ⟨b, 0, none⟩) 0 0, v2]).run P w = .ok v' w' ∧ w'.ownsRow base e s v' m ys ∧ Ext w w' := by
 obtain ⟨v', w', hr, ho, hM, -⟩ := append_ownB (ty := ty) hs he hi hown h2 h1 (by omega) hbase
 refine ⟨v', w', hr, by simpa using ho, ?_⟩
 by_cases h0 : m = 0
 ·subst h0
  have hys : ys = [] := List.eq_nil_of_length_eq_zero (by simpa using h2.len)
  subst hys
  obtain ⟨⟨i, z, hi1, hi2, hi3, hi4, hi5⟩, hsz⟩ := elOk_inv hi
  have hel := elemT_of (P := P) hs
  rw [he] at hel
  subst hel
  have hsrc := h2.src (P := P) hs h1
  rw [← hi3] at hsrc
  have hn := run_append_nothing w t t ty (P.elem t) i (elem_of hs) hi1 (some ⟨b, 0, none⟩) 0 0 (by omega) _ hsrc
  rw [hr] at hn
  cases hn
  exact Ext.refl _
 ·obtain ⟨v2', w2', hr2, -, hE, -⟩ := append_full (ty := ty) hs he hi (sl_of_own hown) rfl (h2.toSl (by omega)) h1 (by omega)
  rw [hr] at hr2
  cases hr2
  exact hE
theorem own_set {w : World} {base e s : Nat} {v : Value} {n : Nat} {xs : List Value} (h : w.ownsRow base e s v n xs) (j : Nat) (hj : j < xs.length) (u : Value) :
  (w.setCell ⟨slB v, slO v + j, none⟩ u).ownsRow base e s v n (xs.set j u) := by
 obtain ⟨h1, h2⟩ := h
 refine ⟨by simpa using h1, ?_⟩
 rcases h2 with ⟨rfl, rfl⟩ | ⟨g, cap, cur, rfl, hb, hg, hc, hm, hs, ht⟩
 ·rw [Nat.zero_mul] at h1; omega
 ·refine .inr ⟨g, cap, cur.set! j u, rfl, hb, ?_, hc, hm, by simpa using hs, ?_⟩
  ·simpa [slB, slO] using heap_setCell_same w g j cur e u hg
  ·rw [← ht]
   simp [Array.set!, List.take_set]
def dmark (D : Nat) : Deferred := { target := .collected D, args := #[] }
theorem LV_marks {P : Program} {rs : Array ResultVar} {R : Ending → World → Prop} {ρ : Env} : ∀ (Ds : List Nat) (w : World), Ds.Nodup → (∀ D ∈ Ds, w.heap[D]? = some (.deferred (some []))) → (∀ w', Mod (· ∈ Ds) w w' → LV P rs R ρ [] .returning w') →
  LV P rs R ρ (Ds.map dmark) .returning w
 | [], w, _, _, hk => hk w (Mod.refl _ _)
 | D :: Ds, w, hn, hm, hk => by
  obtain ⟨h1, h2⟩ := List.nodup_cons.1 hn
  refine LV_mark (hm D (by simp)) (by simp) ?_
  refine LV_marks Ds _ h2 (fun E hE => ?_) fun w' hM => ?_
  ·rw [World.putObj_heap_other (fun e => h1 (by rw [← e]; exact hE))]
   exact hm E (by simp [hE])
  ·refine hk w' ?_
   exact ((Mod.putObj D _).weaken fun i hi => by simp [hi]).trans (hM.weaken fun i hi => by simp [hi])
theorem flat_at {α : Type} {s : Nat} (g : α → List Value) (hg : ∀ x, (g x).length = s) : ∀ (l : List α) (i j : Nat) (x : α), l[i]? = some x → j < s → (l.flatMap g)[i * s + j]? = (g x)[j]?
 | [], i, j, x, h, _ => by simp at h
 | a :: l, 0, j, x, h, hj => by
  simp at h; subst h
  rw [List.flatMap_cons, Nat.zero_mul, Nat.zero_add, List.getElem?_append_left (by rw [hg]; exact hj)]
 | a :: l, i + 1, j, x, h, hj => by
  have := flat_at g hg l i j x (by simpa using h) hj
  rw [List.flatMap_cons, Nat.add_mul, Nat.one_mul, List.getElem?_append_right (by rw [hg]; omega), hg]
  rw [show i * s + s + j - s = i * s + j from by omega]
  exact this
theorem flat_len {α : Type} {s : Nat} (g : α → List Value) (hg : ∀ x, (g x).length = s) (l : List α) : (l.flatMap g).length = l.length * s := by
 induction l with
 | nil => simp
 | cons a l ih => rw [List.flatMap_cons, List.length_append, hg, ih, List.length_cons, Nat.add_mul, Nat.one_mul, Nat.add_comm]
theorem flat_take {α : Type} {s : Nat} (g : α → List Value) (hg : ∀ x, (g x).length = s) : ∀ (l : List α) (k : Nat), (l.take k).flatMap g = (l.flatMap g).take (k * s)
 | [], k => by simp
 | a :: l, 0 => by simp
 | a :: l, k + 1 => by
  rw [List.take_succ_cons, List.flatMap_cons, List.flatMap_cons, flat_take g hg l k, Nat.add_mul, Nat.one_mul, Nat.add_comm (k * s) s, List.take_append, hg, Nat.add_sub_cancel_left, List.take_of_length_le (l := g a) (by rw [hg]; omega)]
theorem flat_drop {α : Type} {s : Nat} (g : α → List Value) (hg : ∀ x, (g x).length = s) : ∀ (l : List α) (k : Nat), (l.drop k).flatMap g = (l.flatMap g).drop (k * s)
 | [], k => by simp
 | a :: l, 0 => by simp
 | a :: l, k + 1 => by
  rw [List.drop_succ_cons, List.flatMap_cons, flat_drop g hg l k, Nat.add_mul, Nat.one_mul, Nat.add_comm (k * s) s, List.drop_append, hg, Nat.add_sub_cancel_left, List.drop_of_length_le (l := g a) (by rw [hg]; omega), List.nil_append]
noncomputable def Xf (S : Nat → Prop) : Nat → Bool := fun k => @decide (S k) (Classical.propDecidable _)
theorem Xf_f {S : Nat → Prop} {k : Nat} (h : ¬ S k) : Xf S k = false := by unfold Xf; simp [h]
theorem Xf_not {S : Nat → Prop} {k : Nat} (h : Xf S k = false) : ¬ S k := by unfold Xf at h; simpa using h
theorem Xf_agr {S : Nat → Prop} {w w' : World} (h : Mod S w w') : Agr (fun k => Xf S k = false) w w' := h.agr fun _ hk => Xf_not hk
def Blk (w : World) (b : Nat) (cs : List Value) : Prop := ∃ t, w.heap[b]? = some (.cells cs.toArray t (0, 0))
theorem Blk.cell {w : World} {b : Nat} {cs : List Value} (h : Blk w b cs) (j : Nat) (u : Value) (hj : cs[j]? = some u) : w.cell? ⟨b, j, none⟩ = some u := by
 obtain ⟨t, h⟩ := h
 simp [World.cell?, h, hj]
theorem Blk.thaw {w : World} {b : Nat} {cs : List Value} (h : Blk w b cs) (j : Nat) : w.frozen? ⟨b, j, none⟩ = false := by
 obtain ⟨t, h⟩ := h
 simp [World.frozen?, h]
theorem Blk.lt {w : World} {b : Nat} {cs : List Value} (h : Blk w b cs) : b < w.heap.size := by
 obtain ⟨t, h⟩ := h
 exact (Array.getElem?_eq_some_iff.1 h).1
theorem Blk.keep {w w' : World} {b : Nat} {cs : List Value} (h : Blk w b cs) (hb : w'.heap[b]? = w.heap[b]?) : Blk w' b cs := by
 obtain ⟨t, h⟩ := h
 exact ⟨t, hb.trans h⟩
theorem Blk.ext {w w' : World} {b : Nat} {cs : List Value} (h : Blk w b cs) (he : Ext w w') : Blk w' b cs := h.keep (he.blk b h.lt)
theorem Blk.mod {w w' : World} {b : Nat} {cs : List Value} {S : Nat → Prop} (h : Blk w b cs) (he : Mod S w w') (hs : ¬ S b) : Blk w' b cs := h.keep (he.blk b h.lt hs)
theorem Blk.agr {w w' : World} {b : Nat} {cs : List Value} {S : Nat → Prop} (h : Blk w b cs) (he : Agr S w w') (hs : S b) : Blk w' b cs := h.keep (he.blk b h.lt hs)
theorem Blk.new (w : World) (cs : List Value) (t : TypeId) : Blk (w.alloc (.cells cs.toArray t)) w.heap.size cs := ⟨t, World.alloc_heap_new w _⟩
theorem Blk.set {w : World} {b : Nat} {cs : List Value} (h : Blk w b cs) (j : Nat) (u : Value) : Blk (w.setCell ⟨b, j, none⟩ u) b (cs.set j u) := by
 obtain ⟨t, h⟩ := h
 refine ⟨t, ?_⟩
 have := heap_setCell_same w b j cs.toArray t u h
 simpa using this
theorem Blk.var {w : World} {b : Nat} {v : Value} (h : Blk w b [v]) : Var w b v := ⟨h.cell 0 v rfl, h.thaw 0⟩
theorem Blk.sl {w : World} {b : Nat} {cs : List Value} (h : Blk w b cs) (s n : Nat) (hn : cs.length = n * s) : Sl w s (.slice (some ⟨b, 0, none⟩) n n) n cs :=
 ⟨hn, .inr ⟨b, 0, n, rfl, Nat.le_refl _⟩, fun j u hj => by simpa [slB, slO] using h.cell j u hj⟩
theorem sl_mod {w w' : World} {v : Value} {k n : Nat} {cs : List Value} {S : Nat → Prop} (h : Sl w k v n cs) (hK : Mod S w w') (hS : cs ≠ [] → ¬ S (slB v)) : Sl w' k v n cs := by
 by_cases h0 : cs = []
 ·subst h0
  exact ⟨h.len, h.val, fun j u hj => by simp at hj⟩
 ·exact h.mod hK (hS h0)
end Pk
namespace Pk
section
variable {α : Type}
def insAt (R : List α) (k : Nat) (d : α) : List α := R.take k ++ d :: R.drop k
end
end Pk
namespace Pk
open Go
section
variable {κ ν : Type} [DecidableEq κ]
def eqv (m m' : List (κ × ν)) : Prop := m.length = m'.length ∧ ∀ p ∈ m, mget m' p.1 = some p.2
instance [DecidableEq ν] (m m' : List (κ × ν)) : Decidable (eqv m m') := inferInstanceAs (Decidable (_ ∧ _))
theorem mget_mem {m : List (κ × ν)} {k : κ} {x : ν} (h : mget m k = some x) : (k, x) ∈ m := by
 unfold mget at h
 obtain ⟨p, hp, rfl⟩ := Option.map_eq_some_iff.1 h
 have h1 := List.mem_of_find?_eq_some hp
 have h2 : p.1 = k := by simpa using List.find?_some hp
 rw [← h2]; exact h1
theorem mget_of_mem {m : List (κ × ν)} (hn : (m.map (·.1)).Nodup) {k : κ} {x : ν} (h : (k, x) ∈ m) : mget m k = some x := by
 induction m with
 | nil => simp at h
 | cons q m ih =>
  simp only [List.map_cons, List.nodup_cons] at hn
  unfold mget
  rw [List.find?_cons]
  by_cases hq : q.1 = k
  ·rcases List.mem_cons.1 h with rfl | h
   ·simp
   ·exact absurd (List.mem_map.2 ⟨_, h, rfl⟩) (hq ▸ hn.1)
  ·rcases List.mem_cons.1 h with rfl | h
   ·exact absurd rfl hq
   ·simp only [hq, decide_false]
    exact ih hn.2 h
end
end Pk
namespace Pk
open Go
set_option maxRecDepth 10000
def putC (w : World) (b : Nat) : Nat → List Value → World
 | _, [] => w
 | o, u :: cs => putC (w.setCell ⟨b, o, none⟩ u) b (o + 1) cs
def setL (xs : List Value) : Nat → List Value → List Value
 | _, [] => xs
 | o, u :: cs => setL (xs.set o u) (o + 1) cs
theorem setL_eq : ∀ (cs xs : List Value) (o : Nat), o + cs.length ≤ xs.length → setL xs o cs = xs.take o ++ cs ++ xs.drop (o + cs.length)
 | [], xs, o, _ => by simp [setL]
 | u :: cs, xs, o, h => by
  simp only [List.length_cons] at h
  have := setL_eq cs (xs.set o u) (o + 1) (by simp; omega)
  rw [setL, this]
  apply List.ext_getElem?
  intro k
  rw [List.drop_set_of_lt (by omega), List.length_cons, show o + (cs.length + 1) = o + 1 + cs.length by omega]
  congr 2
  have ht : List.take (o + 1) (xs.set o u) = List.take o xs ++ [u] := by
   rw [List.take_add_one, List.take_set_of_le (Nat.le_refl _), List.getElem?_set_self (by omega)]
   rfl
  rw [ht]
  simp
theorem putC_own {base e s : Nat} {v : Value} {n : Nat} : ∀ (cs : List Value) {w : World} {xs : List Value} (j : Nat), w.ownsRow base e s v n xs → j + cs.length ≤ xs.length → (putC w (slB v) (slO v + j) cs).ownsRow base e s v n (setL xs j cs)
 | [], _, _, _, h, _ => h
 | u :: cs, w, xs, j, h, hj => by
  simp only [List.length_cons] at hj
  have h1 := own_set h j (by omega) u
  have := putC_own cs (j + 1) h1 (by simp; omega)
  rw [← Nat.add_assoc] at this
  exact this
theorem putC_mod {b : Nat} : ∀ (cs : List Value) {a w : World} (o : Nat), Mod (fun k => k = b) a w → Mod (fun k => k = b) a (putC w b o cs)
 | [], _, _, _, h => h
 | _ :: cs, _, _, o, h => putC_mod cs (o + 1) (h.setCell _ _ (.inl rfl))
theorem flat_set {α : Type} {s : Nat} (g : α → List Value) (hg : ∀ x, (g x).length = s) (l : List α) (i : Nat) (hi : i < l.length) (x : α) : (l.set i x).flatMap g = setL (l.flatMap g) (i * s) (g x) := by
 have hl := flat_len g hg l
 have hm : (i + 1) * s ≤ l.length * s := Nat.mul_le_mul_right _ hi
 rw [Nat.add_mul, Nat.one_mul] at hm
 rw [setL_eq _ _ _ (by rw [hg, hl]; omega), hg, ← flat_take g hg, show i * s + s = (i + 1) * s by rw [Nat.add_mul, Nat.one_mul], ← flat_drop g hg, List.set_eq_take_append_cons_drop, if_pos hi, List.flatMap_append, List.flatMap_cons, List.append_assoc]
theorem own_put {w : World} {base e s : Nat} {v : Value} {α : Type} (g : α → List Value) (hg : ∀ x, (g x).length = s) {l : List α} (h : w.ownsRow base e s v l.length (l.flatMap g)) (i : Nat) (hi : i < l.length) (x : α) :
  (putC w (slB v) (slO v + i * s) (g x)).ownsRow base e s v (l.set i x).length ((l.set i x).flatMap g) := by
 have hl := flat_len g hg l
 have hm : (i + 1) * s ≤ l.length * s := Nat.mul_le_mul_right _ hi
 rw [Nat.add_mul, Nat.one_mul] at hm
 rw [flat_set g hg l i hi x, List.length_set]
 exact putC_own (g x) (i * s) h (by rw [hg, hl]; omega)
end Pk
namespace Pk
open Go
set_option maxRecDepth 10000
structure Gr (W0 w : World) (t : Nat) (cs : List Value) (e : TypeId) (s : Nat) (v : Value) (n : Nat) (xs : List Value) : Prop where
 blk : Blk w t cs
 own : w.ownsRow W0.heap.size e s v n xs
 mod : Mod (fun k => W0.heap.size ≤ k ∨ k = t) W0 w
theorem own_nothing (w : World) (base : Nat) (e : TypeId) (s : Nat) : w.ownsRow base e s (.slice none 0 0) 0 [] := ⟨by simp, .inl ⟨rfl, rfl⟩⟩
theorem Gr.start {W0 : World} {t : Nat} {cs : List Value} (e : TypeId) (s : Nat) (h : Blk W0 t cs) : Gr W0 W0 t cs e s (.slice none 0 0) 0 [] := ⟨h, own_nothing _ _ _ _, Mod.refl _ _⟩
theorem Gr.ext {W0 w w' : World} {t : Nat} {cs : List Value} {e : TypeId} {s : Nat} {v : Value} {n : Nat} {xs : List Value} (h : Gr W0 w t cs e s v n xs) (hE : Ext w w') : Gr W0 w' t cs e s v n xs :=
 ⟨h.blk.ext hE, own_ext h.own hE, h.mod.trans hE.mod⟩
theorem Gr.push {P : Program} {W0 w : World} {t : Nat} {cs : List Value} {e : TypeId} {s : Nat} {v : Value} {n : Nat} {xs : List Value} {T : TypeId} (h : Gr W0 w t cs e s v n xs) (ht : t < W0.heap.size) (hs : isS (P.underlying T) = true) (he : elemT (P.underlying T) = e) (hi : elOk (P.info? e) s = true)
  (ys : List Value) (hys : ys.length = s) (h1 : ∀ u ∈ ys, u.oneCell' = true) (hn : n ≤ 10000) :
  ∃ a c w', (Builtin.append_ #[T, T] T #[v, .slice (some ⟨w.heap.size, 0, none⟩) 1 1]).run P (w.alloc (.cells ys.toArray e)) = .ok (.slice a (n + 1) c) w' ∧ Blk w' t cs ∧ Mod (fun k => W0.heap.size ≤ k ∨ k = t) W0 w' ∧
   ∀ j, Gr W0 (w'.setCell ⟨t, j, none⟩ (.slice a (n + 1) c)) t (cs.set j (.slice a (n + 1) c)) e s (.slice a (n + 1) c) (n + 1) (xs ++ ys) := by
 have hE := (Ext.refl w).alloc (.cells ys.toArray e)
 have hsl := Sl.made w ys e s 1 (by simpa using hys)
 have hz := h.mod.size
 obtain ⟨v', w', hr, ho, hM, -⟩ := append_own (P := P) (t := T) (ty := T) (e := e) (s := s) hs he hi (own_ext h.own hE) hsl h1 (by omega) (by have := hE.size; omega)
 obtain ⟨a, c, rfl⟩ := own_val ho
 have hge := fun hn => own_ge h.own hn
 have nt : ∀ k, k < W0.heap.size → ¬ (slN v = false ∧ k = slB v) := fun k hk ⟨e1, e2⟩ => by have := hge e1; omega
 have hb := (h.blk.ext hE).mod hM (nt t ht)
 have hM2 : Mod (fun k => W0.heap.size ≤ k ∨ k = t) W0 w' := (h.mod.trans hE.mod).trans (hM.weaken fun k hk => .inl (by have := hge hk.1; omega))
 refine ⟨a, c, w', hr, hb, hM2, fun j => ⟨hb.set j _, own_keep ho fun hn _ => ?_, hM2.setCell _ _ (.inl (.inr rfl))⟩⟩
 ·have := own_ge ho hn
  exact Go.RowKit.Below.heap_setCell w' _ _ _ (by simp only; omega)
end Pk
namespace Pk
open Go

def XP (ds : List Deferred) (Z : List PanicEntry → World → Prop) : Post
 | .panic ch, _, ds', w => ds' = ds ∧ Z ch w
 | _, _, _, _ => False
@[simp] theorem XP_panic (ds ds' : List Deferred) (Z : List PanicEntry → World → Prop) (ch : List PanicEntry) (ρ : Env) (w : World) : XP ds Z (.panic ch) ρ ds' w = (ds' = ds ∧ Z ch w) := rfl

def REX (P : Program) (X : Nat → Bool) (Z : List PanicEntry → World → Prop) (r : Option Nat) (ds : List Deferred) (ops : List Oper) (K : Env → World → Prop) (σ : Env) (W : World) : Option Oper → Prop
 | none => False
 | some o => GI (gw ops.toArray σ o.guard) (VO P r o (fun ρ'' ds'' w'' => ds'' = ds ∧ KR (Agr (fun k => X k = false) W w'') (K ρ'' w'')) (XP ds Z) σ ds W) (K (put σ o.dst undef) W)

def RLX (P : Program) (X Xc : Nat → Bool) (Z : List PanicEntry → World → Prop) (r : Option Nat) (ds : List Deferred) (ops : List Oper) (fs : Nat → Value → World → Prop) (T : Env → World → Prop) : Tl → Env → World → Prop
 | .Z, σ, W => T σ W
 | .F i t, σ, W => RF P Xc r ds ops (RLX P X Xc Z r ds ops fs T t) σ W (nthO ops i)
 | .C i t, σ, W => REX P Xc Z r ds ops (RLX P X Xc Z r ds ops fs T t) σ W (nthO ops i)
 | .S i t, σ, W => REX P (fun _ => true) Z r ds ops (RLX P X Xc Z r ds ops fs T t) σ W (nthO ops i)
 | .L i t, σ, W => ∀ W', Ext W W' → REX P X Z r ds ops (RLX P X Xc Z r ds ops fs T t) σ W' (nthO ops i)
 | .D i t, σ, W => RD P X r ds ops (fs i) σ W (nthO ops i) ∧ RLX P X Xc Z r ds ops fs T t σ W
 | .W i t, σ, W => ∀ v W', Ext W W' → fs i v W' → RLX P X Xc Z r ds ops fs T t (put σ (dstAt ops i) v) W'


section
variable {P : Program} {X Xc : Nat → Bool} {Z : List PanicEntry → World → Prop} {n : Nat} {r : Option Nat} {id : Nat} {ops : List Oper} {m : Nat} {bs : List (List Nat)} {ds : List Deferred} {fs : Nat → Value → World → Prop} {T : Env → World → Prop} {ρ ρ' : Env}

structure GLX (P : Program) (X Xc : Nat → Bool) (Z : List PanicEntry → World → Prop) (r : Option Nat) (ds : List Deferred) (ops : List Oper) (m : Nat) (bs : List (List Nat)) (fs : Nat → Value → World → Prop) (T : Env → World → Prop) (ρ ρ' : Env) (S : Nat → Bool) (W : World) (t : Tl) (L D : List Nat) (σ : Env) (Wg : World) : Prop where
 ok : tlOk P ops m bs t L D = true
 rt : RLX P X Xc Z r ds ops fs T t σ Wg
 ext : Ext Wg W
 eq : (∀ i ∈ D, S i = false) → W = Wg
 sub : ∀ j, S j = true → j ∈ L ∨ j ∈ D
 lm : ∀ j ∈ L, j < m
 dl : ∀ j ∈ D, j < m ∧ j ∉ L ∧ (dstAt ops j).isSome = true
 fr : ∀ x, (∀ j ∈ L, dstAt ops j ≠ some x) → σ x = ρ x
 val : ∀ j ∈ L, S j = true → dv ρ' (dstAt ops j) = dv σ (dstAt ops j)
 prom : ∀ j ∈ L, S j = false → PROM P Xc r ds ops m bs L j σ W
 flt : ∀ j ∈ D, S j = false → FLT P X r ds ops m bs fs L j σ W
 fval : ∀ j ∈ D, S j = true → fs j (dv ρ' (dstAt ops j)) W

theorem GLX.norm {S : Nat → Bool} {W : World} (hb : befsOk ops m bs = true) : ∀ (t : Tl) (L D : List Nat) (σ : Env) (Wg : World), GLX P X Xc Z r ds ops m bs fs T ρ ρ' S W t L D σ Wg →
  ∃ t' L' D' σ' Wg', GLX P X Xc Z r ds ops m bs fs T ρ ρ' S W t' L' D' σ' Wg' ∧ stable S t'
 | .Z, L, D, σ, Wg, h => ⟨_, _, _, _, _, h, trivial⟩
 | .C .., L, D, σ, Wg, h => ⟨_, _, _, _, _, h, trivial⟩
 | .S .., L, D, σ, Wg, h => ⟨_, _, _, _, _, h, trivial⟩
 | .L .., L, D, σ, Wg, h => ⟨_, _, _, _, _, h, trivial⟩
 | .W i t, L, D, σ, Wg, h => by
  cases hS : S i with
  | false => exact ⟨_, _, _, _, _, h, hS⟩
  | true =>
   have hok := h.ok
   unfold tlOk at hok
   simp only [Bool.and_eq_true, List.contains_iff_mem] at hok
   obtain ⟨hiD, -, hok'⟩ := hok
   obtain ⟨him, hiL, hsome⟩ := h.dl i hiD
   have hrt := h.rt
   unfold RLX at hrt
   obtain ⟨o, ho⟩ : ∃ o, ops[i]? = some o := ⟨_, List.getElem?_eq_getElem (by have := (befsOk_bs hb).2; omega)⟩
   have hdi : dstAt ops i = o.dst := by rw [dstAt_get, ho]; rfl
   have hrt' := hrt (dv ρ' (dstAt ops i)) W h.ext (h.fval i hiD hS)
   have hD' : ∀ j, j ∈ D.filter (fun k => k != i) ↔ j ∈ D ∧ j ≠ i := by simp [List.mem_filter]
   refine GLX.norm hb t (i :: L) (D.filter fun k => k != i) _ W ⟨hok', hrt', Ext.refl W, fun _ => rfl, ?_, ?_, ?_, ?_, ?_, ?_, ?_, ?_⟩
   ·intro j hj
    by_cases hji : j = i
    ·exact .inl (by simp [hji])
    ·rcases h.sub j hj with h1 | h1
     ·exact .inl (by simp [h1])
     ·exact .inr ((hD' j).2 ⟨h1, hji⟩)
   ·intro j hj
    rcases List.mem_cons.1 hj with rfl | hj
    ·exact him
    ·exact h.lm j hj
   ·intro j hj
    obtain ⟨h1, h2⟩ := (hD' j).1 hj
    obtain ⟨h3, h4, h5⟩ := h.dl j h1
    exact ⟨h3, by simp [h2, h4], h5⟩
   ·intro x hx
    rw [put_other fun e => hx i (by simp) e]
    exact h.fr x fun j hj => hx j (by simp [hj])
   ·intro j hj hSj
    rcases List.mem_cons.1 hj with rfl | hj
    ·rw [dv_put_self _ _ _ hsome]
    ·rw [dv_put_other hb him (h.lm j hj) (fun e => hiL (e ▸ hj))]
     exact h.val j hj hSj
   ·intro j hj hSj
    rcases List.mem_cons.1 hj with rfl | hj
    ·rw [hS] at hSj; cases hSj
    ·rw [hdi]
     exact ((h.prom j hj hSj).put hb (h.lm j hj) hj h.lm hiL him ho _).keep (fun k hk => List.mem_cons_of_mem _ hk) (Agr.refl _ _)
   ·intro j hj hSj
    rw [hdi]
    exact ((h.flt j ((hD' j).1 hj).1 hSj).put hb h.lm hiL him ho _).keep (fun k hk => List.mem_cons_of_mem _ hk) (Agr.refl _ _)
   ·intro j hj hSj
    exact h.fval j ((hD' j).1 hj).1 hSj
 | .D i t, L, D, σ, Wg, h => by
  have hok := h.ok
  unfold tlOk at hok
  simp only [Bool.and_eq_true, Bool.not_eq_true'] at hok
  obtain ⟨hn, hiD, hsome, hok'⟩ := hok
  have hiD : i ∉ D := fun hc => by rw [List.contains_iff_mem.2 hc] at hiD; cases hiD
  obtain ⟨him, hiL, hbL, o, ho, hsl⟩ := nodeOk_inv hn
  have hrt := h.rt
  unfold RLX at hrt
  rw [nthO_eq, ho] at hrt
  obtain ⟨o2, ho2, -, hb3, -, hb5, -⟩ := befsOk_head hb him
  rw [ho] at ho2; cases ho2
  have hSi : S i = false := by
   cases hx : S i with
   | false => rfl
   | true => rcases h.sub i hx with h1 | h1
             ·exact (hiL h1).elim
             ·exact (hiD h1).elim
  refine GLX.norm hb t L (i :: D) _ Wg ⟨hok', hrt.2, h.ext, fun hf => h.eq fun j hj => hf j (by simp [hj]), ?_, h.lm, ?_, h.fr, h.val, h.prom, ?_, ?_⟩
  ·intro j hj
   rcases h.sub j hj with h1 | h1
   ·exact .inl h1
   ·exact .inr (by simp [h1])
  ·intro j hj
   rcases List.mem_cons.1 hj with rfl | hj
   ·exact ⟨him, hiL, hsome⟩
   ·exact h.dl j hj
  ·intro j hj hSj
   rcases List.mem_cons.1 hj with rfl | hj
   ·exact ⟨o, ho, hbL, hsl, hb5, Wg, h.ext.agr, hrt.1⟩
   ·exact h.flt j hj hSj
  ·intro j hj hSj
   rcases List.mem_cons.1 hj with rfl | hj
   ·rw [hSi] at hSj; cases hSj
   ·exact h.fval j hj hSj
 | .F i t, L, D, σ, Wg, h => by
  have hok := h.ok
  unfold tlOk at hok
  simp only [Bool.and_eq_true, Bool.not_eq_true'] at hok
  obtain ⟨hn, hiD, ha, hok'⟩ := hok
  have hiD : i ∉ D := fun hc => by rw [List.contains_iff_mem.2 hc] at hiD; cases hiD
  obtain ⟨him, hiL, hbL, o, ho, hsl⟩ := nodeOk_inv hn
  rw [nthO_eq, ho] at ha
  simp only [Bool.and_eq_true] at ha
  have hrt := h.rt
  unfold RLX at hrt
  rw [nthO_eq, ho] at hrt
  have hdi : dstAt ops i = o.dst := by rw [dstAt_get, ho]; rfl
  obtain ⟨o2, ho2, -, hb3, -, hb5, -⟩ := befsOk_head hb him
  rw [ho] at ho2; cases ho2
  obtain ⟨d, hd⟩ := Option.isSome_iff_exists.1 ha.2
  have hSi : S i = false := by
   cases hx : S i with
   | false => rfl
   | true => rcases h.sub i hx with h1 | h1
             ·exact (hiL h1).elim
             ·exact (hiD h1).elim
  have key : ∃ v, RLX P X Xc Z r ds ops fs T t (Pk.put σ o.dst v) Wg ∧ GI (gw ops.toArray σ o.guard) (xL Xc σ Wg o = true ∧ VO P r o (fun ρ'' ds'' _ => ds'' = ds ∧ dv ρ'' o.dst = v) (fun _ _ _ _ => False) σ ds Wg) (v = undef) := by
   unfold RF at hrt
   simp only at hrt
   cases hg : gw ops.toArray σ o.guard with
   | true =>
    rw [hg, GI_true] at hrt
    obtain ⟨v, w', hK, hK'⟩ := VO_det (auto_plain ha.1) hrt.2
    refine ⟨v, hK.2, ?_⟩
    rw [GI_true]
    refine ⟨hrt.1, hK' _ _ ⟨hK.1.1, ?_⟩⟩
    rw [hd]; simp
   | false =>
    rw [hg, GI_false] at hrt
    exact ⟨undef, hrt, by rw [GI_false]⟩
  obtain ⟨v, hrt', hv⟩ := key
  have hs : ∀ x, o.dst ≠ some x → (Pk.put σ o.dst v) x = σ x := fun x hx => put_other hx
  have hop : ∀ x ∈ tmpsOf o, σ x = (Pk.put σ o.dst v) x := fun x hx => (hs x fun e => by
   have := hsl x hx i him (by rw [hdi, e])
   have := (hb3 i this).1
   omega).symm
  have hgw : gw ops.toArray (Pk.put σ o.dst v) o.guard = gw ops.toArray σ o.guard := by
   refine gw_env fun k b hg x hx => hs x fun e => ?_
   have hkb := hb5 k b hg
   have hk : k = i := head_uniq hb (h.lm k (hbL k hkb)) him hx (by rw [hdi, e])
   exact hiL (hk ▸ hbL k hkb)
  refine GLX.norm hb t (i :: L) D (Pk.put σ o.dst v) Wg ⟨hok', hrt', h.ext, h.eq, ?_, ?_, ?_, ?_, ?_, ?_, ?_, h.fval⟩
  ·intro j hj
   rcases h.sub j hj with h1 | h1
   ·exact .inl (by simp [h1])
   ·exact .inr h1
  ·intro j hj
   rcases List.mem_cons.1 hj with rfl | hj
   ·exact him
   ·exact h.lm j hj
  ·intro j hj
   obtain ⟨h3, h4, h5⟩ := h.dl j hj
   exact ⟨h3, by simp [h4]; exact fun e => hiD (e ▸ hj), h5⟩
  ·intro x hx
   rw [hs x fun e => hx i (by simp) (by rw [hdi, e])]
   exact h.fr x fun j hj => hx j (by simp [hj])
  ·intro j hj hSj
   rcases List.mem_cons.1 hj with rfl | hj
   ·rw [hSi] at hSj; cases hSj
   ·rw [← hdi, dv_put_other hb him (h.lm j hj) (fun e => hiL (e ▸ hj))]
    exact h.val j hj hSj
  ·intro j hj hSj
   rcases List.mem_cons.1 hj with rfl | hj
   ·refine ⟨o, ho, ha.1, ha.2, fun k hk => List.mem_cons_of_mem _ (hbL k hk), hsl, hb5, Wg, h.ext.agr, ?_⟩
    have hdv : dv (Pk.put σ o.dst v) o.dst = v := by rw [hd]; simp
    rw [hgw, hdv]
    cases hg : gw ops.toArray σ o.guard with
    | true =>
     rw [hg, GI_true] at hv
     rw [GI_true]
     refine ⟨by rw [← xL_env hop _]; exact hv.1, ?_⟩
     have := VO_env (k := fun u ds'' _ => ds'' = ds ∧ u = v) hop hv.2
     obtain ⟨u, w', hK, hK'⟩ := VO_det (auto_plain ha.1) this
     exact hK' _ _ hK.1
    | false => rw [hg, GI_false] at hv; rw [GI_false]; exact hv
   ·exact ((h.prom j hj hSj).put hb (h.lm j hj) hj h.lm hiL him ho v).keep (fun k hk => List.mem_cons_of_mem _ hk) (Agr.refl _ _)
  ·intro j hj hSj
   exact ((h.flt j hj hSj).put hb h.lm hiL him ho v).keep (fun k hk => List.mem_cons_of_mem _ hk) (Agr.refl _ _)

end


def REXt (P : Program) (X : Nat → Bool) (Z : List PanicEntry → World → Prop) (r : Option Nat) (ds : List Deferred) (ops : List Oper) (K : Env → World → Prop) (l : List Oper) (i : Nat) (_ : Tok (PProd.mk ops (PProd.mk K (PProd.mk l i)))) (σ : Env) (W : World) : Prop := REX P X Z r ds ops K σ W (nthO l i)
def RLXt (P : Program) (X Xc : Nat → Bool) (Z : List PanicEntry → World → Prop) (r : Option Nat) (ds : List Deferred) (ops : List Oper) (fs : Nat → Value → World → Prop) (T : Env → World → Prop) (t : Tl) (_ : Tok (PProd.mk ops (PProd.mk fs (PProd.mk T t)))) (σ : Env) (W : World) : Prop := RLX P X Xc Z r ds ops fs T t σ W
section
variable (P : Program) (X Xc : Nat → Bool) (Z : List PanicEntry → World → Prop) (r : Option Nat) (ds : List Deferred) (ops : List Oper) (fs : Nat → Value → World → Prop) (A : Value → World → Prop) (T : Env → World → Prop) (l : List Oper) (o : Oper) (i : Nat) (σ : Env) (W : World)
@[simp ↓] theorem RLX_tok (t : Tl) : RLX P X Xc Z r ds ops fs T t σ W = RLXt P X Xc Z r ds ops fs T t .mk σ W := _root_.id rfl
@[simp ↓] theorem RLXt_Z (k) : RLXt P X Xc Z r ds ops fs T .Z k σ W = T σ W := _root_.id rfl
@[simp ↓] theorem RLXt_F (t : Tl) (k) : RLXt P X Xc Z r ds ops fs T (.F i t) k σ W = RFt P Xc r ds ops (RLX P X Xc Z r ds ops fs T t) ops i .mk σ W := _root_.id rfl
@[simp ↓] theorem RLXt_C (t : Tl) (k) : RLXt P X Xc Z r ds ops fs T (.C i t) k σ W = REXt P Xc Z r ds ops (RLX P X Xc Z r ds ops fs T t) ops i .mk σ W := _root_.id rfl
@[simp ↓] theorem RLXt_S (t : Tl) (k) : RLXt P X Xc Z r ds ops fs T (.S i t) k σ W = REXt P (fun _ => true) Z r ds ops (RLX P X Xc Z r ds ops fs T t) ops i .mk σ W := _root_.id rfl
@[simp ↓] theorem REXt_succ (K : Env → World → Prop) (k) : REXt P X Z r ds ops K (o :: l) (i + 1) k σ W = REXt P X Z r ds ops K l i .mk σ W := _root_.id rfl
@[simp ↓] theorem REXt_zero (K : Env → World → Prop) (k) : REXt P X Z r ds ops K (o :: l) 0 k σ W = GIt (gw ops.toArray σ o.guard) (VO P r o (fun ρ'' ds'' w'' => ds'' = ds ∧ KR (Agr (fun k => X k = false) W w'') (K ρ'' w'')) (XP ds Z) σ ds W) (K (put σ o.dst undef) W) .mk := _root_.id rfl
end
section
variable {P : Program} {X Xc : Nat → Bool} {Z : List PanicEntry → World → Prop} {r : Option Nat} {ds : List Deferred} {ops : List Oper} {fs : Nat → Value → World → Prop} {T : Env → World → Prop} {i : Nat} {t : Tl} {σ : Env} {W : World}
end

end Pk
