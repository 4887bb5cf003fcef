/-
  Contracts of the functions that the law reaches, step by step.
-/
import Derived.Test.YtfppepjaopbanaaRkB
namespace Go.Proofs
open Pk
set_option maxRecDepth 10000
/-! ### A line -/
abbrev MQ := List (Qu × (Value × List Wt))
abbrev MN := List (Nm × Qu)
def ewQ (x : Value × List Wt) : Value := x.1
def quOf (x : Wt) : Qu := (x.2.1, x.2.2.1)
def qof (s : List Wt) (q : Qu) : List Wt := s.filter fun x => decide (quOf x = q)
def findN (s : List Wt) (n : Nm) : Option Wt := s.find? fun x => decide (x.1 = n)
structure LineAt (w : World) (l Rq Rw : Nat) (M : MQ) (N : MN) (s : List Wt) (most : Int) : Prop where
  c0 : w.cell? ⟨l, 0, none⟩ = some (i64 most)
  c1 : w.cell? ⟨l, 1, none⟩ = some (.map (some Rq))
  c2 : w.cell? ⟨l, 2, none⟩ = some (.map (some Rw))
  mq : MapAt quV ewQ w Rq M
  mw : MapAt nmV quV w Rw N
  row : ∀ x ∈ M, WOwn w x.2.1 x.2.2
  nn : ∀ x ∈ M, x.2.2 ≠ []
  blk : (M.map fun x => slB x.2.1).Nodup
  lb : ∀ x ∈ M, slB x.2.1 ≠ l
  rq : Rw ≠ Rq
  qs : ∀ q, ((mget M q).map (·.2)).getD [] = qof s q
  ws : ∀ n, mget N n = (findN s n).map quOf
  nd : (s.map (·.1)).Nodup
  len : N.length = s.length
def Foot (l Rq Rw : Nat) (M : MQ) (k : Nat) : Prop := k = l ∨ k = Rq ∨ k = Rw ∨ ∃ x ∈ M, k = slB x.2.1
section
variable {w w' : World} {l Rq Rw : Nat} {M : MQ} {N : MN} {s : List Wt} {most : Int}
theorem LineAt.nil (h : LineAt w l Rq Rw M N s most) : ∀ x ∈ M, slN x.2.1 = false := fun x hx => own_nil (h.row x hx) (List.length_pos_iff.2 (h.nn x hx))
theorem LineAt.lt (h : LineAt w l Rq Rw M N s most) : ∀ k, Foot l Rq Rw M k → k < w.heap.size := by
  rintro k (rfl | rfl | rfl | ⟨x, hx, rfl⟩)
  · exact World.block_lt_of_cell? _ _ h.c0
  · exact h.mq.lt
  · exact h.mw.lt
  · obtain ⟨c, hc⟩ := own_obj (h.row x hx) (h.nil x hx)
    exact (Array.getElem?_eq_some_iff.1 hc).1
theorem LineAt.keep (h : LineAt w l Rq Rw M N s most) (hb : ∀ k, Foot l Rq Rw M k → k < w.heap.size → w'.heap[k]? = w.heap[k]?) : LineAt w' l Rq Rw M N s most := by
  have hl : w'.heap[l]? = w.heap[l]? := hb l (.inl rfl) (h.lt l (.inl rfl))
  refine ⟨?_, ?_, ?_, h.mq.keep (hb Rq (.inr (.inl rfl)) h.mq.lt), h.mw.keep (hb Rw (.inr (.inr (.inl rfl))) h.mw.lt), fun x hx => own_keep (h.row x hx) fun _ hlt => hb _ (.inr (.inr (.inr ⟨x, hx, rfl⟩))) hlt, h.nn, h.blk, h.lb, h.rq, h.qs, h.ws, h.nd, h.len⟩
  · rw [← h.c0]; unfold World.cell?; rw [hl]
  · rw [← h.c1]; unfold World.cell?; rw [hl]
  · rw [← h.c2]; unfold World.cell?; rw [hl]
theorem LineAt.ext (h : LineAt w l Rq Rw M N s most) (he : Ext w w') : LineAt w' l Rq Rw M N s most := h.keep fun k _ hk => he.blk k hk
theorem LineAt.mod {S : Nat → Prop} (h : LineAt w l Rq Rw M N s most) (he : Mod S w w') (hs : ∀ k, Foot l Rq Rw M k → ¬ S k) : LineAt w' l Rq Rw M N s most := h.keep fun k hf hk => he.blk k hk (hs k hf)
/-- The row of a queue. -/
def rowV (M : MQ) (q : Qu) : Value := ((mget M q).map ewQ).getD (.slice none 0 0)
theorem LineAt.hasQ (h : LineAt w l Rq Rw M N s most) {q : Qu} {v : Value} {r : List Wt} (hg : mget M q = some (v, r)) : r = qof s q ∧ qof s q ≠ [] := by
  have h1 := h.qs q
  rw [hg] at h1
  simp at h1
  exact ⟨h1, h1 ▸ h.nn _ (kget_mem hg)⟩
theorem LineAt.noQ (h : LineAt w l Rq Rw M N s most) {q : Qu} (hg : mget M q = none) : qof s q = [] := by
  have h1 := h.qs q
  rw [hg] at h1
  simpa using h1.symm
theorem LineAt.get (h : LineAt w l Rq Rw M N s most) {q : Qu} (hq : qof s q ≠ []) : ∃ v, mget M q = some (v, qof s q) := by
  cases hg : mget M q with
  | none => exact absurd (h.noQ hg) hq
  | some x => exact ⟨x.1, by rw [← (h.hasQ (v := x.1) (r := x.2) hg).1]⟩
theorem LineAt.sl (h : LineAt w l Rq Rw M N s most) (q : Qu) : WSl w (rowV M q) (qof s q) := by
  unfold rowV
  cases hg : mget M q with
  | none =>
    rw [h.noQ hg]
    exact Sl.nil w 7 0
  | some x =>
    have := sl_of_own (h.row _ (kget_mem hg))
    rw [← (h.hasQ (v := x.1) (r := x.2) hg).1]
    exact this
theorem LineAt.findQ (h : LineAt w l Rq Rw M N s most) (a b : Int) : (Instr.lookup 67 (.map (some Rq)) (.agg #[.int .u32 a, .int .i64 b]) false).run Try.prog w = .ok (rowV M (a, b)) w := by
  have := h.mq.lookup kQueue tmq (zSl w) (a, b) false
  simpa [rowV] using this
theorem LineAt.findW (h : LineAt w l Rq Rw M N s most) (a b c d : Int) (ok : Bool) : (Instr.lookup 68 (.map (some Rw)) (.agg #[.int .u32 a, .int .u32 b, .int .u64 c, .int .u32 d]) ok).run Try.prog w =
    .ok (if ok then .tuple #[quV (((findN s (a, b, c, d)).map quOf).getD (0, 0)), .bool (findN s (a, b, c, d)).isSome] else quV (((findN s (a, b, c, d)).map quOf).getD (0, 0))) w := by
  have := h.mw.lookup kName tmw (zQu w) (a, b, c, d) ok
  rw [h.ws] at this
  rw [this]
  cases findN s (a, b, c, d) <;> rfl
end
theorem none_c {w : World} {l Rq Rw : Nat} {M : MQ} {N : MN} {s : List Wt} {most : Int} (h : LineAt w l Rq Rw M N s most) : FN Try.prog 32 [ptr l] w fun e w' => e = .returned (.bool false) ∧ w' = w := by
  refine FN_enter Try.func32 rfl rfl (by kernel_rfl) ?_
  simp [h.c2]
/-! ### What is asked -/
theorem is_c (l : Nat) (w : World) : FN Try.prog 23 [ptr l] w fun e w' => e = .returned (.agg #[.func (.func 32) #[ptr l] #[], i64 1]) ∧ Ext w w' := by
  refine FN_enter Try.func23 rfl rfl (by kernel_rfl) ?_
  simp
  exact (Ext.refl w).alloc _
theorem right_c (n : Nm) (w : World) : FN Try.prog 24 [nmV n] w fun e w' => ∃ b, e = .returned (.agg #[.func (.func 55) #[] #[ptr b], i64 2]) ∧ NmAt w' b n ∧ Ext w w' := by
  refine FN_enter Try.func24 rfl rfl (by kernel_rfl) ?_
  have hn : NmAt (w.alloc (.cells #[u32 n.1, u32 n.2.1, u64 n.2.2.1, u32 n.2.2.2] 28)) w.heap.size n := NmAt.new w n 28
  have hE := (Ext.refl w).alloc (.cells #[u32 n.1, u32 n.2.1, u64 n.2.2.1, u32 n.2.2.2] 28)
  simp
  exact ⟨hn.ext ((Ext.refl _).alloc _), hE.alloc _⟩
theorem node_c (n : Int) (w : World) : FN Try.prog 25 [u32 n] w fun e w' => ∃ b, e = .returned (.agg #[.func (.func 57) #[] #[ptr b], i64 2]) ∧ Var w' b (u32 n) ∧ Ext w w' := by
  refine FN_enter Try.func25 rfl rfl (by kernel_rfl) ?_
  simp
  exact ⟨(Var.new w _ _).ext ((Ext.refl _).alloc _), ((Ext.refl w).alloc _).alloc _⟩
theorem waits_c (l : Nat) (n : Nm) (w : World) : FN Try.prog 35 [ptr l, nmV n] w fun e w' => ∃ b0 b1, e = .returned (.agg #[.func (.func 60) #[] #[ptr b0, ptr b1], i64 5]) ∧ Var w' b0 (ptr l) ∧ NmAt w' b1 n ∧ Ext w w' := by
  refine FN_enter Try.func35 rfl rfl (by kernel_rfl) ?_
  have hn : NmAt ((w.alloc (.cells #[ptr l] 32)).alloc (.cells #[u32 n.1, u32 n.2.1, u64 n.2.2.1, u32 n.2.2.2] 28)) (w.heap.size + 1) n := by
    have := NmAt.new (w.alloc (.cells #[ptr l] 32)) n 28
    simpa using this
  simp
  refine ⟨_, _, ⟨rfl, rfl⟩, ?_⟩
  exact ⟨(Var.new w _ _).ext (((Ext.refl _).alloc _).alloc _), hn.ext ((Ext.refl _).alloc _), (((Ext.refl w).alloc _).alloc _).alloc _⟩
theorem waitsF_c {w : World} {l Rq Rw b0 b1 : Nat} {M : MQ} {N : MN} {s : List Wt} {most : Int} {n : Nm} (h : LineAt w l Rq Rw M N s most) (v0 : Var w b0 (ptr l)) (hn : NmAt w b1 n) :
    FN Try.prog 60 [ptr b0, ptr b1] w fun e w' => e = .returned (.bool (findN s n).isNone) ∧ Ext w w' := by
  refine FN_enter Try.func60 rfl rfl (by kernel_rfl) ?_
  simp
  refine WC_drawL 11 (.F 0 <| .F 1 <| .F 2 <| .F 3 <| .F 4 <| .D 9 <| .L 5 <| .F 6 <| .F 7 <| .F 8 <| .W 9 <| .S 10 <| .Z) (fun _ => false) (fun _ => false) (fun _ u W => ∃ b, u = ptr b ∧ W.heap[b]? = some (.cells #[u32 0, i64 0] 80 (0, 0)) ∧ w.heap.size ≤ b) rfl (by kernel_rfl) (fun _ h => h)
    (fun _ _ _ _ ⟨b, h1, h2, h3⟩ h4 => ⟨b, h1, (agr_ext h4).obj h2, h3⟩) fun W hW => ?_
  have hWE : Ext w W := hW ▸ Ext.drew w
  have h0 := h.ext hWE
  have hn0 := hn.ext hWE
  simp [(v0.ext hWE).cell, h0.c2, hn0.c0, hn0.c1, hn0.c2, hn0.c3]
  refine RL_float (fun W1 h1 => ?_) ?_
  · simp
    have hs := (hWE.trans (agr_ext h1)).size
    exact ⟨(Ext.refl _).alloc _, by omega⟩
  simp
  refine RL_loose fun W1 h1 => ?_
  simp [(h0.ext h1).findW]
  refine KR_same ?_
  simp
  refine RL_wait fun _ W3 h3 ⟨b, hb, ho4, hlb⟩ => ?_
  subst hb
  have hE3 : Ext w W3 := hWE.trans (h1.trans h3)
  have z0 : W3.cell? ⟨b, 0, none⟩ = some (u32 0) := by simp [World.cell?, ho4]
  have z1 : W3.cell? ⟨b, 1, none⟩ = some (i64 0) := by simp [World.cell?, ho4]
  have zf : ∀ j, W3.frozen? ⟨b, j, none⟩ = false := fun j => by simp [World.frozen?, ho4]
  simp [z0, z1, zf, cell_setCell]
  refine KR_mk (agr_any (((Mod.refl _ _).any _ _).any _ _)) ?_
  have hX := fun (x y : Value) => (hE3.setCell ⟨b, 0, none⟩ x hlb).setCell ⟨b, 1, none⟩ y hlb
  simp
  cases findN s n <;> simp <;> exact hX _ _
/-! ### A name more -/
theorem mset_mset {κ ν : Type} [DecidableEq κ] (m : List (κ × ν)) (k : κ) (u v : ν) : mset (mset m k u) k v = mset m k v := by
  have h1 : (mget (mset m k u) k).isSome = true := by rw [kget_mset, if_pos rfl]; rfl
  unfold mset at h1 ⊢
  rw [if_pos h1]
  by_cases h : (mget m k).isSome = true
  · rw [if_pos h, if_pos h, List.map_map]
    apply List.map_congr_left
    intro p _
    simp only [Function.comp]
    by_cases hp : p.1 = k
    · simp [hp]
    · simp [hp]
  · rw [if_neg h, if_neg h, List.map_append]
    have hn : mget m k = none := by simpa using h
    have := kget_none hn
    congr 1
    · conv => rhs; rw [← List.map_id m]
      apply List.map_congr_left
      intro p hp
      rw [if_neg (this p hp)]; rfl
    · simp
theorem nodup_mset {κ ν β : Type} [DecidableEq κ] {m : List (κ × ν)} (hn : (m.map (·.1)).Nodup) (f : κ × ν → β) (hf : (m.map f).Nodup) (k : κ) (v : ν) (hv : ∀ y ∈ m, y.1 ≠ k → f y ≠ f (k, v)) : ((mset m k v).map f).Nodup := by
  unfold mset
  split
  · rename_i h
    rw [List.map_map]
    rw [List.Nodup, List.pairwise_map] at hf hn ⊢
    refine List.Pairwise.imp_of_mem ?_ (hf.and hn)
    rintro a b ha hb ⟨hab, hk⟩
    simp only [Function.comp]
    by_cases h1 : a.1 = k <;> by_cases h2 : b.1 = k
    · exact absurd (h1.trans h2.symm) hk
    · rw [if_pos h1, if_neg h2]; exact (hv b hb h2).symm
    · rw [if_neg h1, if_pos h2]; exact hv a ha h1
    · rw [if_neg h1, if_neg h2]; exact hab
  · rename_i h
    have hno := kget_none (by simpa using h : mget m k = none)
    rw [List.map_append, List.nodup_append]
    refine ⟨hf, by simp, ?_⟩
    intro a ha b hb
    simp at hb; subst hb
    obtain ⟨y, hy, rfl⟩ := List.mem_map.1 ha
    exact hv y hy (hno y hy)
theorem blk_uniq {M : MQ} (hn : (M.map (·.1)).Nodup) (hb : (M.map fun x => slB x.2.1).Nodup) {q : Qu} {z : Value × List Wt} (hg : mget M q = some z) : ∀ x ∈ M, x.1 ≠ q → slB x.2.1 ≠ slB z.1 := by
  intro x hx hne e
  have hm := kget_mem hg
  obtain ⟨i, hi, rfl⟩ := List.mem_iff_getElem.1 hx
  obtain ⟨j, hj, e2⟩ := List.mem_iff_getElem.1 hm
  have h1 : (M.map fun x => slB x.2.1)[i]'(by simpa using hi) = (M.map fun x => slB x.2.1)[j]'(by simpa using hj) := by simp [e, e2]
  have := (List.getElem_inj hb).1 h1
  subst this
  rw [e2] at hne
  exact hne rfl
theorem qof_snoc (s : List Wt) (x : Wt) (q : Qu) : qof (s ++ [x]) q = qof s q ++ (if quOf x = q then [x] else []) := by
  unfold qof
  rw [List.filter_append]
  congr 1
  by_cases h : quOf x = q <;> simp [h]
theorem findN_snoc (s : List Wt) (x : Wt) (n : Nm) : findN (s ++ [x]) n = (findN s n).or (if x.1 = n then some x else none) := by
  unfold findN
  rw [List.find?_append]
  congr 1
  by_cases h : x.1 = n <;> simp [h]
theorem findN_none {s : List Wt} {n : Nm} : findN s n = none ↔ n ∉ s.map (·.1) := by
  unfold findN
  rw [List.find?_eq_none]
  constructor
  · intro h hm
    obtain ⟨x, hx, rfl⟩ := List.mem_map.1 hm
    simpa using h x hx
  · intro h x hx
    have : x.1 ≠ n := fun e => h (e ▸ List.mem_map.2 ⟨x, hx, rfl⟩)
    simpa using this
theorem LineAt.maps {w : World} {l Rq Rw : Nat} {M : MQ} {N : MN} {s : List Wt} {most : Int} (h : LineAt w l Rq Rw M N s most) : Rq ≠ l ∧ Rw ≠ l ∧ (∀ x ∈ M, slB x.2.1 ≠ Rq ∧ slB x.2.1 ≠ Rw) := by
  have notC : ∀ {κ ν : Type} {ek : κ → Value} {ew : ν → Value} {r b : Nat} {m : List (κ × ν)} {c t fr}, MapAt ek ew w r m → w.heap[b]? = some (.cells c t fr) → b ≠ r := by
    rintro κ ν ek ew r b m c t fr ⟨⟨es, c, h1, _⟩, _⟩ h2 e
    rw [e, h1] at h2; cases h2
  obtain ⟨c, t, fr, hl⟩ := cell_blk h.c0
  refine ⟨(notC h.mq hl).symm, (notC h.mw hl).symm, fun x hx => ?_⟩
  obtain ⟨c, hc⟩ := own_obj (h.row x hx) (h.nil x hx)
  exact ⟨notC h.mq hc, notC h.mw hc⟩
theorem LineAt.push {w w' : World} {l Rq Rw : Nat} {M : MQ} {N : MN} {s : List Wt} {most : Int} (h : LineAt w l Rq Rw M N s most) {x : Wt} (hx : findN s x.1 = none) {v' : Value}
    (hmq : MapAt quV ewQ w' Rq (mset M (quOf x) (v', qof s (quOf x) ++ [x]))) (hmw : MapAt nmV quV w' Rw (mset N x.1 (quOf x))) (ho : WOwn w' v' (qof s (quOf x) ++ [x]))
    (hM : Mod (fun k => k = Rq ∨ k = Rw ∨ ((mget M (quOf x)).isSome = true ∧ k = slB (rowV M (quOf x)))) w w') (hb : ((mget M (quOf x)).isSome = true ∧ slB v' = slB (rowV M (quOf x))) ∨ w.heap.size ≤ slB v') :
    LineAt w' l Rq Rw (mset M (quOf x) (v', qof s (quOf x) ++ [x])) (mset N x.1 (quOf x)) (s ++ [x]) most ∧ Mod (Foot l Rq Rw M) w w' ∧ ∀ k, Foot l Rq Rw (mset M (quOf x) (v', qof s (quOf x) ++ [x])) k → Foot l Rq Rw M k ∨ w.heap.size ≤ k := by
  obtain ⟨m1, m2, m3⟩ := h.maps
  have hrow : (mget M (quOf x)).isSome = true → ∃ z, mget M (quOf x) = some z ∧ rowV M (quOf x) = z.1 := by
    intro hs
    obtain ⟨z, hz⟩ := Option.isSome_iff_exists.1 hs
    exact ⟨z, hz, by simp [rowV, hz, ewQ]⟩
  have hF : ∀ k, (k = Rq ∨ k = Rw ∨ ((mget M (quOf x)).isSome = true ∧ k = slB (rowV M (quOf x)))) → Foot l Rq Rw M k := by
    rintro k (rfl | rfl | ⟨hs, rfl⟩)
    · exact .inr (.inl rfl)
    · exact .inr (.inr (.inl rfl))
    · obtain ⟨z, hz, hr⟩ := hrow hs
      rw [hr]
      exact .inr (.inr (.inr ⟨_, kget_mem hz, rfl⟩))
  have hfoot : ∀ y ∈ M, y.1 ≠ quOf x → ¬ (slB y.2.1 = Rq ∨ slB y.2.1 = Rw ∨ ((mget M (quOf x)).isSome = true ∧ slB y.2.1 = slB (rowV M (quOf x)))) := by
    rintro y hy hne (e | e | ⟨hs, e⟩)
    · exact (m3 y hy).1 e
    · exact (m3 y hy).2 e
    · obtain ⟨z, hz, hr⟩ := hrow hs
      rw [hr] at e
      exact blk_uniq h.mq.nodup h.blk hz y hy hne e
  have hlS : ¬ (l = Rq ∨ l = Rw ∨ ((mget M (quOf x)).isSome = true ∧ l = slB (rowV M (quOf x)))) := by
    rintro (e | e | ⟨hs, e⟩)
    · exact m1 e.symm
    · exact m2 e.symm
    · obtain ⟨z, hz, hr⟩ := hrow hs
      rw [hr] at e
      exact h.lb _ (kget_mem hz) e.symm
  refine ⟨⟨hM.cell h.c0 hlS, hM.cell h.c1 hlS, hM.cell h.c2 hlS, hmq, hmw, ?_, ?_, ?_, ?_, h.rq, ?_, ?_, ?_, ?_⟩, hM.weaken hF, ?_⟩
  · intro y hy
    rcases kset_mem hy with rfl | ⟨hy, hne⟩
    · exact ho
    · exact own_keep (h.row y hy) fun _ hlt => hM.blk _ hlt (hfoot y hy hne)
  · intro y hy
    rcases kset_mem hy with rfl | ⟨hy, hne⟩
    · simp
    · exact h.nn y hy
  · refine nodup_mset h.mq.nodup _ h.blk _ _ fun y hy hne => ?_
    have hlt := h.lt _ (.inr (.inr (.inr ⟨y, hy, rfl⟩)))
    rcases hb with ⟨hs, hb⟩ | hb
    · obtain ⟨z, hz, hr⟩ := hrow hs
      simp only
      rw [hb, hr]
      exact blk_uniq h.mq.nodup h.blk hz y hy hne
    · simp only; omega
  · intro y hy
    have hll := h.lt l (.inl rfl)
    rcases kset_mem hy with rfl | ⟨hy, hne⟩
    · rcases hb with ⟨hs, hb⟩ | hb
      · obtain ⟨z, hz, hr⟩ := hrow hs
        simp only
        rw [hb, hr]
        exact h.lb _ (kget_mem hz)
      · simp only; omega
    · exact h.lb y hy
  · intro q
    rw [kget_mset, qof_snoc]
    by_cases hq : q = quOf x
    · subst hq; simp
    · rw [if_neg hq, if_neg (fun e => hq e.symm), List.append_nil]
      exact h.qs q
  · intro n
    rw [kget_mset, findN_snoc]
    by_cases hn : n = x.1
    · subst hn; rw [if_pos rfl, hx]; simp
    · rw [if_neg hn, if_neg (fun e => hn e.symm), Option.or_none]
      exact h.ws n
  · rw [List.map_append, List.nodup_append]
    refine ⟨h.nd, by simp, fun a ha b hb => ?_⟩
    simp at hb; subst hb
    rintro rfl
    exact findN_none.1 hx ha
  · have : mget N x.1 = none := by rw [h.ws, hx]; rfl
    rw [kset_len, this, h.len]
    simp
  · rintro k (e | e | e | ⟨y, hy, e⟩)
    · exact .inl (.inl e)
    · exact .inl (.inr (.inl e))
    · exact .inl (.inr (.inr (.inl e)))
    · rcases kset_mem hy with rfl | ⟨hy, hne⟩
      · rcases hb with ⟨hs, hb⟩ | hb
        · left; refine hF k (.inr (.inr ⟨hs, ?_⟩)); rw [e]; exact hb
        · right; rw [e]; exact hb
      · exact .inl (.inr (.inr (.inr ⟨y, hy, e⟩)))
/-- Blocks that a row may be written in. -/
def Xq (Rq : Nat) (v : Value) (k : Nat) : Bool := decide (k = Rq) || (!slN v && decide (k = slB v))
theorem Xq_f {Rq : Nat} {v : Value} {k : Nat} (h1 : k ≠ Rq) (h2 : slN v = false → k ≠ slB v) : Xq Rq v k = false := by
  unfold Xq
  cases hn : slN v with
  | true => simp [h1]
  | false => simp [h1, h2 hn]
theorem Xq_agr {Rq : Nat} {v : Value} {w w' : World} (h : Mod (fun k => k = Rq ∨ (slN v = false ∧ k = slB v)) w w') : Agr (fun k => Xq Rq v k = false) w w' := h.agr fun k hk hc => by
  unfold Xq at hk
  rcases hc with rfl | ⟨h1, rfl⟩
  · simp at hk
  · simp [h1] at hk
theorem LineAt.rowV_ne {w : World} {l Rq Rw : Nat} {M : MQ} {N : MN} {s : List Wt} {most : Int} (h : LineAt w l Rq Rw M N s most) (q : Qu) (hn : slN (rowV M q) = false) : ∃ z, mget M q = some z ∧ rowV M q = z.1 := by
  unfold rowV at hn ⊢
  cases hg : mget M q with
  | none => rw [hg] at hn; simp [slN] at hn
  | some z => exact ⟨z, rfl, rfl⟩
set_option maxHeartbeats 1000000 in
theorem push_c {w : World} {l Rq Rw : Nat} {M : MQ} {N : MN} {s : List Wt} {most : Int} (h : LineAt w l Rq Rw M N s most) (x : Wt) (hx : findN s x.1 = none) (hb : s.length ≤ 1048575) :
    FN Try.prog 31 [ptr l, wtV x] w fun e w' => (∃ u, e = .returned u) ∧ ∃ M' N', LineAt w' l Rq Rw M' N' (s ++ [x]) most ∧ Mod (Foot l Rq Rw M) w w' ∧ ∀ k, Foot l Rq Rw M' k → Foot l Rq Rw M k ∨ w.heap.size ≤ k := by
  refine FN_enter Try.func31 rfl rfl (by kernel_rfl) ?_
  simp
  have hE1 : Ext w ((w.alloc (.cells #[u32 x.1.1, u32 x.1.2.1, u64 x.1.2.2.1, u32 x.1.2.2.2, u32 x.2.1, i64 x.2.2.1, i64 x.2.2.2] 30)).alloc (.cells #[u32 x.2.1, i64 x.2.2.1] 80)) := ((Ext.refl w).alloc _).alloc _
  have hx1 : WtAt ((w.alloc (.cells #[u32 x.1.1, u32 x.1.2.1, u64 x.1.2.2.1, u32 x.1.2.2.2, u32 x.2.1, i64 x.2.2.1, i64 x.2.2.2] 30)).alloc (.cells #[u32 x.2.1, i64 x.2.2.1] 80)) w.heap.size x := (WtAt.new w x 30).ext ((Ext.refl _).alloc _)
  have q0 : ((w.alloc (.cells #[u32 x.1.1, u32 x.1.2.1, u64 x.1.2.2.1, u32 x.1.2.2.2, u32 x.2.1, i64 x.2.2.1, i64 x.2.2.2] 30)).alloc (.cells #[u32 x.2.1, i64 x.2.2.1] 80)).cell? ⟨w.heap.size + 1, 0, none⟩ = some (u32 x.2.1) := by simp
  have q1 : ((w.alloc (.cells #[u32 x.1.1, u32 x.1.2.1, u64 x.1.2.2.1, u32 x.1.2.2.2, u32 x.2.1, i64 x.2.2.1, i64 x.2.2.2] 30)).alloc (.cells #[u32 x.2.1, i64 x.2.2.1] 80)).cell? ⟨w.heap.size + 1, 1, none⟩ = some (i64 x.2.2.1) := by simp
  have hsz : ((w.alloc (.cells #[u32 x.1.1, u32 x.1.2.1, u64 x.1.2.2.1, u32 x.1.2.2.2, u32 x.2.1, i64 x.2.2.1, i64 x.2.2.2] 30)).alloc (.cells #[u32 x.2.1, i64 x.2.2.1] 80)).heap.size = w.heap.size + 1 + 1 := by simp
  generalize ((w.alloc (.cells #[u32 x.1.1, u32 x.1.2.1, u64 x.1.2.2.1, u32 x.1.2.2.2, u32 x.2.1, i64 x.2.2.1, i64 x.2.2.2] 30)).alloc (.cells #[u32 x.2.1, i64 x.2.2.1] 80)) = w1 at *
  have h1 := h.ext hE1
  obtain ⟨m1, m2, m3⟩ := h.maps
  have hlt := h.lt
  have hll := hlt l (.inl rfl)
  have hlq := hlt Rq (.inr (.inl rfl))
  have hlw := hlt Rw (.inr (.inr (.inl rfl)))
  obtain ⟨v, hv⟩ : ∃ v, v = rowV M (quOf x) := ⟨_, rfl⟩
  have hvb : slN v = false → slB v < w.heap.size ∧ slB v ≠ l ∧ slB v ≠ Rw ∧ slB v ≠ Rq := fun hn => by
    obtain ⟨z, hz, e⟩ := h.rowV_ne (quOf x) (hv ▸ hn)
    rw [hv, e]
    have hm := kget_mem hz
    exact ⟨hlt _ (.inr (.inr (.inr ⟨_, hm, rfl⟩))), h.lb _ hm, (m3 _ hm).2, (m3 _ hm).1⟩
  have X0 : Xq Rq v l = false := Xq_f (Ne.symm m1) fun hn => (hvb hn).2.1.symm
  have X1 : Xq Rq v w.heap.size = false := Xq_f (by omega) fun hn => by have := (hvb hn).1; omega
  have X2 : Xq Rq v (w.heap.size + 1) = false := Xq_f (by omega) fun hn => by have := (hvb hn).1; omega
  refine WC_drawC 11 (.F 0 <| .F 1 <| .F 2 <| .F 3 <| .F 4 <| .F 5 <| .C 6 <| .C 7 <| .F 8 <| .F 10 <| .C 9 <| .Z) (Xq Rq v) rfl (by kernel_rfl) fun W hW => ?_
  have hWE : Ext w1 W := hW ▸ Ext.drew _
  have h2 := h1.ext hWE
  have hx2 := hx1.ext hWE
  simp [h2.c1, hx2.c0, hx2.c1, hx2.c2, hx2.c3, hx2.c4, hx2.c5, hx2.c6, hWE.cell_eq q0, hWE.cell_eq q1, X0, X1, X2]
  have hE3 : Ext W (W.alloc (.cells #[u32 x.1.1, u32 x.1.2.1, u64 x.1.2.2.1, u32 x.1.2.2.2, u32 x.2.1, i64 x.2.2.1, i64 x.2.2.2] 30)) := (Ext.refl W).alloc _
  have hsl : Sl (W.alloc (.cells #[u32 x.1.1, u32 x.1.2.1, u64 x.1.2.2.1, u32 x.1.2.2.2, u32 x.2.1, i64 x.2.2.1, i64 x.2.2.2] 30)) 7 (.slice (some ⟨W.heap.size, 0, none⟩) 1 1) 1 (wtC x) := Sl.made W (wtC x) 30 7 1 rfl
  have hWs := hWE.size
  refine KR_ext hE3 ?_
  simp
  generalize (W.alloc (.cells #[u32 x.1.1, u32 x.1.2.1, u64 x.1.2.2.1, u32 x.1.2.2.2, u32 x.2.1, i64 x.2.2.1, i64 x.2.2.2] 30)) = W3 at *
  have h3 := h2.ext hE3
  obtain ⟨W4, n, hr4, hm4, he4, hM4, hs4⟩ := h3.mq.entry (P := Try.prog) kQueue tmq (z := (.slice none 0 0, [])) (zSl W3) (quOf x)
  have hzv : (mget M (quOf x)).getD (.slice none 0 0, []) = (v, qof s (quOf x)) := by
    rw [hv]
    unfold rowV
    cases hg : mget M (quOf x) with
    | none => rw [h.noQ hg]; rfl
    | some z => rw [← (h.hasQ (v := z.1) (r := z.2) hg).1]; rfl
  rw [hzv] at hr4 hm4
  simp [quOf, ewQ] at hr4
  simp [hr4]
  have hA4 : Agr (fun k => Xq Rq v k = false) W3 W4 := Xq_agr (hM4.weaken fun k hk => .inl hk)
  refine KR_mk hA4 ?_
  simp
  have hown3 : W3.ownsRow 0 30 7 v (qof s (quOf x)).length ((qof s (quOf x)).flatMap wtC) := by
    rw [hv]
    unfold rowV
    cases hg : mget M (quOf x) with
    | none => rw [h.noQ hg]; exact World.ownsRow_nil _ _ _ _
    | some z =>
      have := h3.row _ (kget_mem hg)
      rw [(h.hasQ (v := z.1) (r := z.2) hg).1] at this
      exact this
  have hown4 : W4.ownsRow 0 30 7 v (qof s (quOf x)).length ((qof s (quOf x)).flatMap wtC) := own_keep hown3 fun hn hlt => hM4.blk _ hlt (hvb hn).2.2.2
  have hsl4 := hsl.mod hM4 (show ¬ (slB (.slice (some ⟨W.heap.size, 0, none⟩) 1 1) = Rq) from by simp only [slB]; omega)
  have hlen : (qof s (quOf x)).length ≤ s.length := List.length_filter_le _ _
  obtain ⟨v', W5, hr5, ho5, hM5, hb5⟩ := append_own (P := Try.prog) (t := 22) (ty := 22) (e := 30) (s := 7) (by simp) (by simp) (by kernel_rfl) hown4 hsl4 (fun u hu => wone [x] u (by simpa using hu)) (by omega) (Nat.zero_le _)
  simp [hr5]
  refine KR_mk (Xq_agr (hM5.weaken fun k hk => .inr hk)) ?_
  have hm5 := hm4.mod hM5 (fun hk => (hvb hk.1).2.2.2 hk.2.symm)
  have he5 := he4.mod hM5 (fun hk => (hvb hk.1).2.2.2 hk.2.symm)
  obtain ⟨W6, hr6, hm6, hM6, hs6⟩ := hm5.entryStore (P := Try.prog) (T := 67) qu_inj he5 (v', qof s (quOf x) ++ [x])
  rw [mset_mset] at hm6
  simp [ewQ] at hr6
  simp [hr6]
  have hEall : Mod (fun k => k = Rq ∨ (slN v = false ∧ k = slB v)) w1 W6 :=
    (hWE.trans hE3).mod.trans ((hM4.weaken fun k hk => .inl hk).trans ((hM5.weaken fun k hk => .inr hk).trans (hM6.weaken fun k hk => .inl hk)))
  have n1 : ¬ (l = Rq ∨ (slN v = false ∧ l = slB v)) := fun e => by rcases e with e | ⟨e1, e2⟩; exact m1 e.symm; exact (hvb e1).2.1 e2.symm
  have n2 : ∀ b, w.heap.size ≤ b → ¬ (b = Rq ∨ (slN v = false ∧ b = slB v)) := fun b hb e => by rcases e with e | ⟨e1, e2⟩; omega; have := (hvb e1).1; omega
  have n3 : ¬ (Rw = Rq ∨ (slN v = false ∧ Rw = slB v)) := fun e => by
    rcases e with e | ⟨e1, e2⟩
    · exact h.rq e
    · exact (hvb e1).2.2.1 e2.symm
  have hd := Ext.drew W6
  have hx6 := (hx1.mod hEall (n2 _ (Nat.le_refl _))).ext hd
  have c2 := hd.cell_eq (hEall.cell h1.c2 n1)
  have g0 := hd.cell_eq (hEall.cell q0 (n2 _ (by simp only; omega)))
  have g1 := hd.cell_eq (hEall.cell q1 (n2 _ (by simp only; omega)))
  have hw6 := (h1.mw.mod hEall n3).ext hd
  refine WC_drawQ 7 rfl (by kernel_rfl) ?_
  obtain ⟨W7, hr7, hm7, hM7, hs7⟩ := hw6.update (P := Try.prog) kName tmw x.1 (quOf x)
  simp [quOf] at hr7
  simp [c2, g0, g1, hx6.c0, hx6.c1, hx6.c2, hx6.c3, hr7]
  have hM17 : Mod (fun k => k = Rq ∨ k = Rw ∨ (slN v = false ∧ k = slB v)) w W7 :=
    hE1.mod.trans ((hEall.weaken fun k hk => by rcases hk with hk | hk; exact .inl hk; exact .inr (.inr hk)).trans (hd.mod.trans (hM7.weaken fun k hk => .inr (.inl hk))))
  have hsome : slN v = false → (mget M (quOf x)).isSome = true := fun hn => by
    obtain ⟨z, hz, _⟩ := h.rowV_ne (quOf x) (hv ▸ hn)
    rw [hz]; rfl
  have hv' : slN v' = false := own_nil ho5 (by omega)
  have hb' : slB v' ≠ Rw ∧ slB v' ≠ Rq := by
    rcases hb5 hv' with ⟨e1, e2⟩ | e
    · rw [e2]; exact ⟨(hvb e1).2.2.1, (hvb e1).2.2.2⟩
    · have := hE3.size; have := hE1.size; constructor <;> omega
  have ho7 : WOwn W7 v' (qof s (quOf x) ++ [x]) := by
    have h1 := own_keep ho5 fun hn hlt => hM6.blk _ hlt hb'.2
    have h2 := own_ext h1 hd
    have h3 := own_keep h2 fun hn hlt => hM7.blk _ hlt hb'.1
    show W7.ownsRow 0 30 7 v' (qof s (quOf x) ++ [x]).length _
    rw [List.length_append, List.flatMap_append]
    simpa using h3
  have hmq7 := (hm6.ext hd).mod hM7 (fun e => h.rq e.symm)
  have hfin := h.push hx hmq7 hm7 ho7 (hM17.weaken fun k hk => by
    rcases hk with hk | hk | ⟨e1, e2⟩
    · exact .inl hk
    · exact .inr (.inl hk)
    · exact .inr (.inr ⟨hsome e1, hv ▸ e2⟩)) (by
    rcases hb5 hv' with ⟨e1, e2⟩ | e
    · exact .inl ⟨hsome e1, hv ▸ e2⟩
    · right; have := hE3.size; have := hE1.size; omega)
  exact ⟨_, ⟨_, hfin.1⟩, hfin.2⟩
end Go.Proofs
