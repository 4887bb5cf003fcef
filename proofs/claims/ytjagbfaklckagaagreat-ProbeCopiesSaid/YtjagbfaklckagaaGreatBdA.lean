/-
  Contracts of the functions that the law reaches, step by step.
-/
import Derived.Test.YtjagbfaklckagaaGreatAmG
namespace Go.Proofs
open Pk
set_option maxRecDepth 10000
/-! ### Questions -/
structure Qn where
  f : Value
  e : Int
  b : Bool
def askE : List Qn → Int
  | [] => 0
  | q :: qs => if q.b then q.e else askE qs
def askCells (qs : List Qn) : List Value := qs.flatMap fun q => [q.f, .int .i64 q.e]
theorem askCells_at : ∀ (qs : List Qn) (i : Nat) (q : Qn), qs[i]? = some q → (askCells qs)[i * 2]? = some q.f ∧ (askCells qs)[i * 2 + 1]? = some (.int .i64 q.e)
  | [], i, q, h => by simp at h
  | a :: qs, 0, q, h => by
    simp at h; subst h
    simp [askCells]
  | a :: qs, i + 1, q, h => by
    have := askCells_at qs i q (by simpa using h)
    have e1 : (i + 1) * 2 = i * 2 + 1 + 1 := by omega
    have e2 : (i + 1) * 2 + 1 = i * 2 + 1 + 1 + 1 := by omega
    rw [e1]
    simp only [askCells, List.flatMap_cons] at this ⊢
    simpa using this
theorem askE_none : ∀ (qs : List Qn), (∀ (j : Nat) (q : Qn), qs[j]? = some q → q.b = false) → askE qs = 0
  | [], _ => rfl
  | q :: qs, h => by
    have h0 := h 0 q rfl
    simp [askE, h0]
    exact askE_none qs fun j q hj => h (j + 1) q hj
theorem askE_at : ∀ (qs : List Qn) (i : Nat) (q : Qn), qs[i]? = some q → q.b = true → (∀ (j : Nat) (q : Qn), j < i → qs[j]? = some q → q.b = false) → askE qs = q.e
  | [], i, q, h, _, _ => by simp at h
  | a :: qs, 0, q, h, hb, _ => by
    simp at h; subst h
    simp [askE, hb]
  | a :: qs, i + 1, q, h, hb, hn => by
    have h0 := hn 0 a (by omega) rfl
    simp [askE, h0]
    exact askE_at qs i q (by simpa using h) hb fun j q hj hq => hn (j + 1) q (by omega) (by simpa using hq)
theorem asked_c {w : World} {v : Value} (qs : List Qn) (hs : Sl w 2 v qs.length (askCells qs)) (hb : qs.length ≤ 1000) (hf : ∀ q ∈ qs, ∃ f x y, q.f = .func f x y)
    (hq : ∀ (i : Nat) (q : Qn), qs[i]? = some q → (∀ (j : Nat) (p : Qn), j < i → qs[j]? = some p → p.b = false) → ∀ w', Ext w w' → CV Tryz.prog q.f [] w' fun e w'' => e = .returned (.bool q.b) ∧ Ext w' w'') :
    FN Tryz.prog 24 [v] w fun e w' => e = .returned (.int .i64 (askE qs)) ∧ Ext w w' := by
  refine FN_enter Tryz.func24 rfl rfl (by kernel_rfl) ?_
  simp
  refine WC_scope 0 _ rfl ?_
  simp [hs.isLen]
  refine WC_loop (fun k ρ ds w' => ∃ i : Nat, k = qs.length - i ∧ i ≤ qs.length ∧ ρ 5 = v ∧ ρ 6 = .int .i64 qs.length ∧ ρ 7 = .int .i64 i ∧ ds = [] ∧ Ext w w' ∧ ∀ (j : Nat) (q : Qn), j < i → qs[j]? = some q → q.b = false) qs.length ⟨0, by simp [Ext.refl]⟩ ?_
  rintro k ρ ds w1 ⟨i, rfl, hi, e5, e6, e7, rfl, hE, hno⟩
  by_cases hlt : i < qs.length
  · have hq0 : qs[i]? = some qs[i] := by simp [hlt]
    obtain ⟨c1, c2⟩ := askCells_at qs i _ hq0
    have hs1 := hs.ext hE
    have d1 := hs1.at_ _ _ c1
    have d2 := hs1.at_ _ _ c2
    rw [← Nat.add_assoc] at d2
    have hix := hs1.index (P := Tryz.prog) (t := 123) (by simp) .i64 i (by omega) (by omega) w1
    obtain ⟨f, x, y, hfv⟩ := hf qs[i] (by simp)
    have hcall := hq i _ hq0 hno
    rw [hfv] at d1 hcall
    simp [e5, e6, e7, hlt, hix, d1, d2]
    have hE1 := (Ext.refl w1).alloc (.cells #[.func f x y, .int .i64 qs[i].e] 74)
    refine CV.mono (hcall _ (hE.trans hE1)) ?_
    rintro _ w2 ⟨rfl, hE2⟩
    cases hqb : qs[i].b with
    | true =>
      simp
      exact ⟨(askE_at qs i _ hq0 hqb hno).symm, (hE.trans hE1).trans hE2⟩
    | false =>
      simp [e5, e6, e7]
      refine ⟨qs.length - (i + 1), by omega, i + 1, rfl, by omega, ?_, (hE.trans hE1).trans hE2, ?_⟩
      · rw [wrap64 _ (by omega) (by omega)]; rfl
      · intro j q hj hjq
        rcases Nat.lt_succ_iff_lt_or_eq.1 hj with h1 | rfl
        · exact hno j q h1 hjq
        · rw [hq0] at hjq; cases hjq; exact hqb
  · simp [e6, e7, hlt]
    exact ⟨(askE_none qs fun j q hj => hno j q (by have := (List.getElem?_eq_some_iff.1 hj).1; omega) hj).symm, hE⟩
/-- The rest of a list of questions, one by one. -/
theorem asked_go {w w0 : World} {v : Value} {R : Ending → World → Prop} (qs : List Qn) (hs : Sl w 2 v qs.length (askCells qs)) (hb : qs.length ≤ 1000) (hf : ∀ q ∈ qs, ∃ f x y, q.f = .func f x y) (hE : Ext w0 w)
    (hq : ∀ (i : Nat) (q : Qn), qs[i]? = some q → (∀ (j : Nat) (p : Qn), j < i → qs[j]? = some p → p.b = false) → ∀ w', Ext w0 w' → CV Tryz.prog q.f [] w' fun e w'' => e = .returned (.bool q.b) ∧ Ext w' w'')
    (h : ∀ w', Ext w0 w' → R (.returned (.int .i64 (askE qs))) w') : FN Tryz.prog 24 [v] w R := by
  refine FN.mono (asked_c qs hs hb hf fun i q h1 h2 w' h3 => hq i q h1 h2 w' (hE.trans h3)) ?_
  rintro _ w' ⟨rfl, h2⟩
  exact h _ (hE.trans h2)
/-! ### The board -/
abbrev PK := Int × Int
def pairC (p : PK) : List Value := [u32 p.1, u32 p.2]
def keyC (p : PK) : List Value := [u32 p.1, u64 p.2]
def quesC (p : PK) : List Value := [u32 p.1, u64 p.2]
def ansC (p : Bool × Int) : List Value := [.bool p.1, u64 p.2]
def foreVC (p : PK) : List Value := [u64 p.1, u8 p.2]
def ekP (p : PK) : Value := .agg (pairC p).toArray
def ekK (p : PK) : Value := .agg (keyC p).toArray
def ewQ (p : PK) : Value := .agg (quesC p).toArray
def ewA (p : Bool × Int) : Value := .agg (ansC p).toArray
def ewF (p : PK) : Value := .agg (foreVC p).toArray
theorem fPair : flatA Tryz.prog 71 = some [.int .u32, .int .u32] := by kernel_rfl
theorem fKey : flatA Tryz.prog 84 = some [.int .u32, .int .u64] := by kernel_rfl
theorem fQues : flatA Tryz.prog 77 = some [.int .u32, .int .u64] := by kernel_rfl
theorem fAns : flatA Tryz.prog 82 = some [.bool, .int .u64] := by kernel_rfl
theorem fFore : flatA Tryz.prog 87 = some [.int .u64, .int .u8] := by kernel_rfl
theorem two_eq (k1 k2 : IntKind) (a b : PK) : eqcs [.int k1 a.1, .int k2 a.2] [.int k1 b.1, .int k2 b.2] = decide (a = b) := by
  obtain ⟨a1, a2⟩ := a
  obtain ⟨b1, b2⟩ := b
  rw [Bool.eq_iff_iff]
  simp [eqcs, eqc]
theorem ans_eq (a b : Bool × Int) : eqcs (ansC a) (ansC b) = decide (a = b) := by
  obtain ⟨a1, a2⟩ := a
  obtain ⟨b1, b2⟩ := b
  rw [Bool.eq_iff_iff]
  simp [ansC, eqcs, eqc]
theorem kPair : KeyEq Tryz.prog 71 ekP := keyEq_flat (g := pairC) fPair (fun _ => rfl) (fun a b => two_eq .u32 .u32 a b)
theorem kKey : KeyEq Tryz.prog 84 ekK := keyEq_flat (g := keyC) fKey (fun _ => rfl) (fun a b => two_eq .u32 .u64 a b)
theorem tmQ : Tryz.prog.underlying 67 = some (.map 71 77) := by simp
theorem tmA : Tryz.prog.underlying 68 = some (.map 71 82) := by simp
theorem tmF : Tryz.prog.underlying 65 = some (.map 84 87) := by simp
theorem tmFs : Tryz.prog.underlying 66 = some (.map 84 87) := by simp
theorem zQ (w : World) : (zeroValue 77).run Tryz.prog w = .ok (ewQ (0, 0)) w := by simp [ewQ, quesC]
theorem zA (w : World) : (zeroValue 82).run Tryz.prog w = .ok (ewA (false, 0)) w := by simp [ewA, ansC]
theorem zF (w : World) : (zeroValue 87).run Tryz.prog w = .ok (ewF (0, 0)) w := by simp [ewF, foreVC]
abbrev MQ := List (PK × PK)
abbrev MA := List (PK × (Bool × Int))
abbrev MF := List (PK × PK)
structure Bd where
  F : MF
  Q : MQ
  A : MA
  p : Int
  n : Int
structure BdAt (w : World) (t rF rQ rA : Nat) (b : Bd) : Prop where
  blk : Blk w t [.map (some rF), .map (some rQ), .map (some rA), u64 b.p, u32 b.n]
  mF : MapAt ekK ewF w rF b.F
  mQ : MapAt ekP ewQ w rQ b.Q
  mA : MapAt ekP ewA w rA b.A
  fq : rF ≠ rQ
  fa : rF ≠ rA
  qa : rQ ≠ rA
def Foot (t rF rQ rA : Nat) (k : Nat) : Prop := k = t ∨ k = rF ∨ k = rQ ∨ k = rA
theorem blk_map {κ ν : Type} {ek : κ → Value} {ew : ν → Value} {w : World} {b r : Nat} {cs : List Value} {m : List (κ × ν)} (hb : Blk w b cs) (hm : MapAt ek ew w r m) : b ≠ r := by
  obtain ⟨t, h⟩ := hb
  obtain ⟨es, c, h', -⟩ := hm.ex
  rintro rfl
  rw [h] at h'; cases h'
theorem BdAt.mod {w w' : World} {t rF rQ rA : Nat} {b : Bd} {S : Nat → Prop} (h : BdAt w t rF rQ rA b) (hM : Mod S w w') (hS : ∀ k, Foot t rF rQ rA k → ¬ S k) : BdAt w' t rF rQ rA b :=
  ⟨h.blk.mod hM (hS _ (.inl rfl)), h.mF.mod hM (hS _ (.inr (.inl rfl))), h.mQ.mod hM (hS _ (.inr (.inr (.inl rfl)))), h.mA.mod hM (hS _ (.inr (.inr (.inr rfl)))), h.fq, h.fa, h.qa⟩
theorem BdAt.ext {w w' : World} {t rF rQ rA : Nat} {b : Bd} (h : BdAt w t rF rQ rA b) (hE : Ext w w') : BdAt w' t rF rQ rA b :=
  ⟨h.blk.ext hE, h.mF.ext hE, h.mQ.ext hE, h.mA.ext hE, h.fq, h.fa, h.qa⟩
theorem BdAt.lt {w : World} {t rF rQ rA : Nat} {b : Bd} (h : BdAt w t rF rQ rA b) : ∀ k, Foot t rF rQ rA k → k < w.heap.size := by
  rintro k (rfl | rfl | rfl | rfl)
  · exact h.blk.lt
  · exact h.mF.lt
  · exact h.mQ.lt
  · exact h.mA.lt
theorem none_c {w : World} {t rF rQ rA : Nat} {b : Bd} (h : BdAt w t rF rQ rA b) : FN Tryz.prog 36 [ptr t] w fun e w' => e = .returned (.bool false) ∧ w' = w := by
  refine FN_enter Tryz.func36 rfl rfl (by kernel_rfl) ?_
  simp [h.blk.cell 1 _ rfl]
theorem num_c (a : Int) (w : World) : FN Tryz.prog 11 [i64 a] w fun e w' => e = .returned (i64 a) ∧ w' = w := by
  refine FN_enter Tryz.func11 rfl rfl (by kernel_rfl) ?_
  simp
theorem is_c (v : Value) (w : World) : FN Tryz.prog 25 [v] w fun e w' => e = .returned (.agg #[.func (.func 36) #[v] #[], i64 1]) ∧ Ext w w' := by
  refine FN_enter Tryz.func25 rfl rfl (by kernel_rfl) ?_
  simp
  exact (Ext.refl w).alloc _
theorem newB_c {p : Int} (hp : 0 ≤ p) (w : World) : FN Tryz.prog 8 [u64 p] w fun e w' => (p ≤ 4611686018427387903 → ∃ t rF rQ rA, e = .returned (.tuple #[ptr t, i64 0]) ∧ BdAt w' t rF rQ rA ⟨[], [], [], p, 0⟩ ∧ Ext w w' ∧ ∀ k, Foot t rF rQ rA k → w.heap.size ≤ k) ∧
    (¬ p ≤ 4611686018427387903 → e = .returned (.tuple #[.pointer none, i64 2]) ∧ Ext w w') := by
  refine FN_enter Tryz.func8 rfl rfl (by kernel_rfl) ?_
  simp
  have hm := Sl.made w [u64 p] 27 1 1 rfl
  have hE1 := (Ext.refl w).alloc (.cells #[u64 p] 27)
  refine FN.mono (ccheck_c (l := [p]) hm (by simp)) ?_
  rintro _ w2 ⟨rfl, hE2⟩
  have hE12 := hE1.trans hE2
  by_cases hp2 : p ≤ 4611686018427387903
  · have ht : timesOk [p] = true := by simp [timesOk, hp2]
    simp [ht, hp2]
    have s2 := hE12.size
    have e1 : Ext w2 (w2.alloc (.map #[] 0)) := (Ext.refl _).alloc _
    have e2 : Ext (w2.alloc (.map #[] 0)) ((w2.alloc (.map #[] 0)).alloc (.map #[] 0)) := (Ext.refl _).alloc _
    have e3 : Ext ((w2.alloc (.map #[] 0)).alloc (.map #[] 0)) (((w2.alloc (.map #[] 0)).alloc (.map #[] 0)).alloc (.map #[] 0)) := (Ext.refl _).alloc _
    have m1 := MapAt.alloc0 ekK ewF w2
    have m2 := MapAt.alloc0 ekP ewQ (w2.alloc (.map #[] 0))
    have m3 := MapAt.alloc0 ekP ewA ((w2.alloc (.map #[] 0)).alloc (.map #[] 0))
    have b4 := Blk.new (((w2.alloc (.map #[] 0)).alloc (.map #[] 0)).alloc (.map #[] 0)) [.map (some w2.heap.size), .map (some (w2.heap.size + 1)), .map (some (w2.heap.size + 1 + 1)), u64 p, u32 0] 70
    have e4 : Ext (((w2.alloc (.map #[] 0)).alloc (.map #[] 0)).alloc (.map #[] 0)) ((((w2.alloc (.map #[] 0)).alloc (.map #[] 0)).alloc (.map #[] 0)).alloc (.cells [.map (some w2.heap.size), .map (some (w2.heap.size + 1)), .map (some (w2.heap.size + 1 + 1)), u64 p, u32 0].toArray 70)) := (Ext.refl _).alloc _
    simp only [World.size_alloc] at m2 m3 b4
    refine ⟨w2.heap.size, w2.heap.size + 1, w2.heap.size + 1 + 1, ⟨b4, ((m1.ext e2).ext e3).ext e4, (m2.ext e3).ext e4, m3.ext e4, by omega, by omega, by omega⟩, hE12.trans (e1.trans (e2.trans (e3.trans e4))), ?_⟩
    rintro k (rfl | rfl | rfl | rfl) <;> omega
  · have ht : timesOk [p] = false := by simp [timesOk, hp2]
    simp [ht, hp2]
    exact hE12
end Go.Proofs
namespace Go.Proofs
open Pk
set_option maxRecDepth 10000
theorem ask1_c {w : World} {b0 b1 b2 : Nat} {g r a : Int} (v0 : Var w b0 (u32 g)) (v1 : Var w b1 (u32 r)) (v2 : Var w b2 (u64 a)) : FN Tryz.prog 26 [ptr b0, ptr b1, ptr b2] w fun e w' => e = .returned (.bool (decide (min g r = 0) || decide (4611686018427387903 < a))) ∧ Ext w w' := by
  refine FN_enter Tryz.func26 rfl rfl (by kernel_rfl) ?_
  by_cases h0 : min g r = 0
  · simp [v0.cell, v1.cell, h0]
    exact Ext.refl w
  · simp [beq_dec, v0.cell, v1.cell, v2.cell, h0]
    have hm := Sl.made w [u64 a] 27 1 1 rfl
    have hE1 := (Ext.refl w).alloc (.cells #[u64 a] 27)
    refine FN.mono (ccheck_c (l := [a]) hm (by simp)) ?_
    rintro _ w2 ⟨rfl, hE2⟩
    by_cases ha : a ≤ 4611686018427387903
    · have ht : timesOk [a] = true := by simp [timesOk, ha]
      have hn : ¬ 4611686018427387903 < a := by omega
      simp [ht, hn]
      exact ⟨h0, hE1.trans hE2⟩
    · have ht : timesOk [a] = false := by simp [timesOk, ha]
      have hn : 4611686018427387903 < a := by omega
      simp [ht, hn]
      exact hE1.trans hE2
theorem lookQ {w : World} {r : Nat} {m : MQ} (h : MapAt ekP ewQ w r m) (g x : Int) (W : World) (hE : Ext w W) : (Instr.lookup 67 (.map (some r)) (.agg #[.int .u32 g, .int .u32 x]) true).run Tryz.prog W = .ok (.tuple #[ewQ ((mget m (g, x)).getD (0, 0)), .bool (mget m (g, x)).isSome]) W := by
  have := (h.ext hE).lookup (P := Tryz.prog) kPair tmQ (zQ W) (g, x) true
  simp only [ekP, pairC] at this
  rw [show #[Value.int IntKind.u32 g, Value.int IntKind.u32 x] = [u32 g, u32 x].toArray from rfl, this]
  cases mget m (g, x) <;> rfl
theorem ask2_c {w : World} {b0 b1 t rF rQ rA : Nat} {b : Bd} {g r : Int} (v0 : Var w b0 (ptr t)) (v1 : Blk w b1 [u32 g, u32 r]) (h : BdAt w t rF rQ rA b) : FN Tryz.prog 27 [ptr b0, ptr b1] w fun e w' => e = .returned (.bool (mget b.Q (g, r)).isSome) ∧ Ext w w' := by
  refine FN_enter Tryz.func27 rfl rfl (by kernel_rfl) ?_
  simp
  refine WC_drawL 11 (.F 0 <| .F 1 <| .F 2 <| .F 3 <| .F 4 <| .D 9 <| .L 5 <| .F 6 <| .F 7 <| .F 8 <| .W 9 <| .S 10 <| .Z) (fun _ => false) (fun _ => false) (fun _ u W => ∃ j, u = ptr j ∧ w.heap.size ≤ j ∧ Blk W j [u32 0, u64 0]) rfl (by kernel_rfl) (fun _ h => h)
    (fun _ _ _ _ ⟨j, h1, h2, h3⟩ hA => ⟨j, h1, h2, h3.ext (agr_ext hA)⟩) fun W hW => ?_
  have hWE : Ext w W := hW ▸ Ext.drew w
  have hW1 := h.ext hWE
  simp [(v0.ext hWE).cell, hW1.blk.cell 1 _ rfl, (v1.ext hWE).cell 0 _ rfl, (v1.ext hWE).cell 1 _ rfl]
  refine RL_float (fun W' h' => ?_) ?_
  · simp
    have hs := (hWE.trans (agr_ext h')).size
    exact ⟨(Ext.refl _).alloc _, hs, Blk.new W' [u32 0, u64 0] 77⟩
  simp
  refine RL_loose fun W3 h3 => ?_
  simp [lookQ hW1.mQ g r W3 h3]
  refine KR_same ?_
  simp
  refine RL_wait fun v6 W6 h6 ⟨j, hj, hjs, hjb⟩ => ?_
  subst hj
  simp [ewQ, quesC, hjb.cell 0 _ rfl, hjb.cell 1 _ rfl, hjb.thaw, cell_setCell]
  refine KR_mk (agr_any ((((Mod.refl (fun _ => True) _).any _ _).any _ _))) ?_
  simp
  exact ((((hWE.trans (h3.trans h6)).mod (S := fun k => w.heap.size ≤ k)).trans ((((Mod.refl (fun k => k = j) W6).setC 0 _).setC 1 _).weaken fun k hk => by omega))).ext fun _ h => h
theorem ask3_c {w : World} {b0 t rF rQ rA : Nat} {b : Bd} (v0 : Var w b0 (ptr t)) (h : BdAt w t rF rQ rA b) : FN Tryz.prog 28 [ptr b0] w fun e w' => e = .returned (.bool (decide (256 ≤ b.Q.length))) ∧ w' = w := by
  refine FN_enter Tryz.func28 rfl rfl (by kernel_rfl) ?_
  have hl := h.mQ.len (P := Tryz.prog) (T := 67) (by simp) 3
  simp [v0.cell, h.blk.cell 1 _ rfl, hl]
  omega
def askR (b : Bd) (g r a : Int) : Int := if min g r = 0 ∨ 4611686018427387903 < a then 2 else if (mget b.Q (g, r)).isSome then 150 else if 256 ≤ b.Q.length then 330 else 0
def askB (b : Bd) (g r a : Int) : Bd := if askR b g r a = 0 then { b with Q := mset b.Q (g, r) (b.n, a), n := IntKind.u32.wrap (b.n + 1) } else b
set_option maxHeartbeats 1000000 in
theorem ask_c {w : World} {t rF rQ rA : Nat} {b : Bd} (h : BdAt w t rF rQ rA b) (g r a : Int) : FN Tryz.prog 9 [ptr t, u32 g, u32 r, u64 a] w fun e w' => e = .returned (.tuple #[u32 (if askR b g r a = 0 then b.n else 0), i64 (askR b g r a)]) ∧ BdAt w' t rF rQ rA (askB b g r a) ∧ Mod (fun k => k = t ∨ k = rQ) w w' := by
  refine FN_enter Tryz.func9 rfl rfl (by kernel_rfl) ?_
  simp
  have hE1 : Ext w (((((w.alloc (.cells #[ptr t] 23)).alloc (.cells #[u32 g] 28)).alloc (.cells #[u32 r] 28)).alloc (.cells #[u64 a] 27)).alloc (.cells #[u32 g, u32 r] 71)) := (((((Ext.refl w).alloc _).alloc _).alloc _).alloc _).alloc _
  have v4 : Blk (((((w.alloc (.cells #[ptr t] 23)).alloc (.cells #[u32 g] 28)).alloc (.cells #[u32 r] 28)).alloc (.cells #[u64 a] 27)).alloc (.cells #[u32 g, u32 r] 71)) w.heap.size [ptr t] := (Blk.new w _ _).ext (((((Ext.refl _).alloc _).alloc _).alloc _).alloc _)
  have v5 : Blk (((((w.alloc (.cells #[ptr t] 23)).alloc (.cells #[u32 g] 28)).alloc (.cells #[u32 r] 28)).alloc (.cells #[u64 a] 27)).alloc (.cells #[u32 g, u32 r] 71)) (w.heap.size + 1) [u32 g] := by
    have := (Blk.new (w.alloc (.cells #[ptr t] 23)) [u32 g] 28).ext ((((Ext.refl _).alloc (.cells #[u32 r] 28)).alloc (.cells #[u64 a] 27)).alloc (.cells #[u32 g, u32 r] 71))
    simpa using this
  have v6 : Blk (((((w.alloc (.cells #[ptr t] 23)).alloc (.cells #[u32 g] 28)).alloc (.cells #[u32 r] 28)).alloc (.cells #[u64 a] 27)).alloc (.cells #[u32 g, u32 r] 71)) (w.heap.size + 1 + 1) [u32 r] := by
    have := (Blk.new ((w.alloc (.cells #[ptr t] 23)).alloc (.cells #[u32 g] 28)) [u32 r] 28).ext (((Ext.refl _).alloc (.cells #[u64 a] 27)).alloc (.cells #[u32 g, u32 r] 71))
    simpa using this
  have v7 : Blk (((((w.alloc (.cells #[ptr t] 23)).alloc (.cells #[u32 g] 28)).alloc (.cells #[u32 r] 28)).alloc (.cells #[u64 a] 27)).alloc (.cells #[u32 g, u32 r] 71)) (w.heap.size + 1 + 1 + 1) [u64 a] := by
    have := (Blk.new (((w.alloc (.cells #[ptr t] 23)).alloc (.cells #[u32 g] 28)).alloc (.cells #[u32 r] 28)) [u64 a] 27).ext ((Ext.refl _).alloc (.cells #[u32 g, u32 r] 71))
    simpa using this
  have v10 : Blk (((((w.alloc (.cells #[ptr t] 23)).alloc (.cells #[u32 g] 28)).alloc (.cells #[u32 r] 28)).alloc (.cells #[u64 a] 27)).alloc (.cells #[u32 g, u32 r] 71)) (w.heap.size + 1 + 1 + 1 + 1) [u32 g, u32 r] := by
    have := Blk.new ((((w.alloc (.cells #[ptr t] 23)).alloc (.cells #[u32 g] 28)).alloc (.cells #[u32 r] 28)).alloc (.cells #[u64 a] 27)) [u32 g, u32 r] 71
    simpa using this
  have z1 : (((((w.alloc (.cells #[ptr t] 23)).alloc (.cells #[u32 g] 28)).alloc (.cells #[u32 r] 28)).alloc (.cells #[u64 a] 27)).alloc (.cells #[u32 g, u32 r] 71)).heap.size = w.heap.size + 1 + 1 + 1 + 1 + 1 := by simp
  generalize (((((w.alloc (.cells #[ptr t] 23)).alloc (.cells #[u32 g] 28)).alloc (.cells #[u32 r] 28)).alloc (.cells #[u64 a] 27)).alloc (.cells #[u32 g, u32 r] 71)) = w1 at *
  have h1 := h.ext hE1
  refine FN.mono (is_c (ptr t) w1) ?_
  rintro _ w2 ⟨rfl, hE2⟩
  let qs : List Qn := [⟨.func (.func 36) #[ptr t] #[], 1, false⟩, ⟨.func (.func 26) #[] #[ptr (w.heap.size + 1), ptr (w.heap.size + 1 + 1), ptr (w.heap.size + 1 + 1 + 1)], 2, decide (min g r = 0) || decide (4611686018427387903 < a)⟩,
    ⟨.func (.func 27) #[] #[ptr w.heap.size, ptr (w.heap.size + 1 + 1 + 1 + 1)], 150, (mget b.Q (g, r)).isSome⟩, ⟨.func (.func 28) #[] #[ptr w.heap.size], 330, decide (256 ≤ b.Q.length)⟩]
  have hsl := Sl.made w2 (askCells qs) 74 2 4 rfl
  have he3 := (Ext.refl w2).alloc (.cells (askCells qs).toArray 74)
  have he13 := hE2.trans he3
  simp
  refine FN.mono (asked_c qs hsl (by simp [qs]) ?_ ?_) ?_
  · intro q hq
    simp [qs] at hq
    rcases hq with rfl | rfl | rfl | rfl <;> exact ⟨_, _, _, rfl⟩
  · intro i q hq hno w' hw'
    have hx := he13.trans hw'
    match i, hq with
    | 0, hq =>
      simp [qs] at hq; subst hq
      exact FN.mono (none_c (h1.ext hx)) fun _ _ h => ⟨h.1, h.2 ▸ Ext.refl _⟩
    | 1, hq =>
      simp [qs] at hq; subst hq
      exact ask1_c (v5.var.ext hx) (v6.var.ext hx) (v7.var.ext hx)
    | 2, hq =>
      simp [qs] at hq; subst hq
      exact ask2_c (v4.var.ext hx) (v10.ext hx) (h1.ext hx)
    | 3, hq =>
      simp [qs] at hq; subst hq
      exact FN.mono (ask3_c (v4.var.ext hx) (h1.ext hx)) fun _ _ h => ⟨h.1, h.2 ▸ Ext.refl _⟩
    | i + 4, hq => simp [qs] at hq
  · rintro _ w3 ⟨rfl, h2⟩
    have hE : askE qs = askR b g r a := by
      simp [qs, askE, askR]
    rw [hE]
    have hx := he13.trans h2
    have hX := hE1.trans hx
    have h3 := h1.ext hx
    have u4 := v4.ext hx
    have u7 := v7.ext hx
    have u10 := v10.ext hx
    have hlt := h.lt
    by_cases h0 : askR b g r a = 0
    · simp [h0, u4.cell 0 _ rfl, h3.blk.cell 4 _ rfl]
      refine WC_drawC 8 (.F 0 <| .F 1 <| .F 2 <| .F 3 <| .F 4 <| .F 5 <| .F 6 <| .F 7 <| .Z) (fun _ => false) rfl (by kernel_rfl) fun W hW => ?_
      have hWE : Ext w3 W := hW ▸ Ext.drew w3
      have h4 := h3.ext hWE
      have x4 := u4.ext hWE
      have x10 := u10.ext hWE
      obtain ⟨W5, hu, hm, hM, hsz⟩ := h4.mQ.update (P := Tryz.prog) kPair tmQ (g, r) (b.n, a)
      simp only [ekP, pairC, ewQ, quesC] at hu
      simp [x4.cell 0 _ rfl, h4.blk.cell 1 _ rfl, x10.cell 0 _ rfl, x10.cell 1 _ rfl, (u7.ext hWE).cell 0 _ rfl, hu]
      have b5 := h4.blk.mod hM (blk_map h4.blk h4.mQ)
      have x5 := x4.mod hM (by have := hlt rQ (.inr (.inr (.inl rfl))); omega)
      simp [x5.cell 0 _ rfl, b5.cell 4 _ rfl, b5.thaw]
      have hM6 : Mod (fun k => k = t) W5 (W5.setCell ⟨t, 4, none⟩ (u32 (IntKind.u32.wrap (b.n + 1)))) := (Mod.refl _ _).setC _ _
      have b6 := b5.set 4 (u32 (IntKind.u32.wrap (b.n + 1)))
      simp only [List.set_cons_zero, List.set_cons_succ] at b6
      have hB : askB b g r a = { b with Q := mset b.Q (g, r) (b.n, a), n := IntKind.u32.wrap (b.n + 1) } := by simp [askB, h0]
      rw [hB]
      refine ⟨⟨b6, (h4.mF.mod hM h.fq).mod hM6 fun e => blk_map h4.blk h4.mF e.symm, hm.mod hM6 fun e => blk_map h4.blk h4.mQ e.symm, (h4.mA.mod hM fun e => h.qa e.symm).mod hM6 fun e => blk_map h4.blk h4.mA e.symm, h.fq, h.fa, h.qa⟩, ?_⟩
      exact ((hX.trans hWE).mod.trans (hM.weaken fun k hk => .inr hk)).trans (hM6.weaken fun k hk => .inl hk)
    · have hb : (askR b g r a != 0) = true := by simpa using h0
      have hB : askB b g r a = b := by simp [askB, h0]
      rw [hB]
      simp [h0, hb]
      exact ⟨h3, hX.mod⟩
end Go.Proofs
namespace Go.Proofs
open Pk
set_option maxRecDepth 10000
theorem right_c (r : Rec) (k : Int) (w : World) : FN Tryz.prog 29 [recV r, i64 k] w fun e w' => ∃ b b', e = .returned (.agg #[.func (.func 65) #[] #[ptr b, ptr b'], i64 2]) ∧ Blk w' b (recC r) ∧ Var w' b' (i64 k) ∧ Ext w w' := by
  refine FN_enter Tryz.func29 rfl rfl (by kernel_rfl) ?_
  simp
  have b1 : Blk (w.alloc (.cells #[i64 r.kind, u32 r.nn, u32 r.ns, u64 r.nt, u32 r.nq, i64 r.what, i64 r.why, u64 r.at', u64 r.num, u32 r.node, u32 r.reg, .bool r.yes, u64 r.fro, u64 r.til, u8 r.lev] 38)) w.heap.size (recC r) := Blk.new w (recC r) 38
  have e1 : Ext w (w.alloc (.cells #[i64 r.kind, u32 r.nn, u32 r.ns, u64 r.nt, u32 r.nq, i64 r.what, i64 r.why, u64 r.at', u64 r.num, u32 r.node, u32 r.reg, .bool r.yes, u64 r.fro, u64 r.til, u8 r.lev] 38)) := (Ext.refl _).alloc _
  have z1 : (w.alloc (.cells #[i64 r.kind, u32 r.nn, u32 r.ns, u64 r.nt, u32 r.nq, i64 r.what, i64 r.why, u64 r.at', u64 r.num, u32 r.node, u32 r.reg, .bool r.yes, u64 r.fro, u64 r.til, u8 r.lev] 38)).heap.size = w.heap.size + 1 := by simp
  generalize (w.alloc (.cells #[i64 r.kind, u32 r.nn, u32 r.ns, u64 r.nt, u32 r.nq, i64 r.what, i64 r.why, u64 r.at', u64 r.num, u32 r.node, u32 r.reg, .bool r.yes, u64 r.fro, u64 r.til, u8 r.lev] 38)) = w1 at *
  have v2 := Var.new w1 (i64 k) 32
  rw [z1] at v2
  have e2 : Ext w1 (w1.alloc (.cells #[i64 k] 32)) := (Ext.refl _).alloc _
  have e3 : Ext (w1.alloc (.cells #[i64 k] 32)) ((w1.alloc (.cells #[i64 k] 32)).alloc (.cells #[.func (.func 65) #[] #[ptr w.heap.size, ptr (w.heap.size + 1)], i64 2] 74)) := (Ext.refl _).alloc _
  exact ⟨w.heap.size, w.heap.size + 1, ⟨rfl, rfl⟩, (b1.ext e2).ext e3, v2.ext e3, e1.trans (e2.trans e3)⟩
theorem right1_c {w : World} {b b' : Nat} {r : Rec} {k c : Int} (hb : Blk w b (recC r)) (hv : Var w b' (i64 k)) (hc : r.kind = k → ∀ w, FN Tryz.prog 66 [recV r] w fun e w' => e = .returned (i64 c) ∧ Ext w w') :
    FN Tryz.prog 65 [ptr b, ptr b'] w fun e w' => e = .returned (.bool (decide (¬ r.kind = k) || decide (¬ c = 0))) ∧ Ext w w' := by
  refine FN_enter Tryz.func65 rfl rfl (by kernel_rfl) ?_
  by_cases hk : r.kind = k
  · simp [hv.cell, hb.cell 0 _ rfl, hb.cell 1 _ rfl, hb.cell 2 _ rfl, hb.cell 3 _ rfl, hb.cell 4 _ rfl, hb.cell 5 _ rfl, hb.cell 6 _ rfl, hb.cell 7 _ rfl, hb.cell 8 _ rfl, hb.cell 9 _ rfl, hb.cell 10 _ rfl, hb.cell 11 _ rfl, hb.cell 12 _ rfl, hb.cell 13 _ rfl, hb.cell 14 _ rfl, hk]
    have := hc hk w
    rw [show recV r = .agg #[i64 k, u32 r.nn, u32 r.ns, u64 r.nt, u32 r.nq, i64 r.what, i64 r.why, u64 r.at', u64 r.num, u32 r.node, u32 r.reg, .bool r.yes, u64 r.fro, u64 r.til, u8 r.lev] by rw [← hk]] at this
    refine FN.mono this ?_
    rintro _ w1 ⟨rfl, hE⟩
    simp [bne_dec]
    exact ⟨fun e => absurd hk e, hE⟩
  · simp [bne_dec, hv.cell, hb.cell 0 _ rfl, hk]
    exact Ext.refl w
theorem lookA {w : World} {r : Nat} {m : MA} (h : MapAt ekP ewA w r m) (g x : Int) (W : World) (hE : Ext w W) : (Instr.lookup 68 (.map (some r)) (.agg #[.int .u32 g, .int .u32 x]) true).run Tryz.prog W = .ok (.tuple #[ewA ((mget m (g, x)).getD (false, 0)), .bool (mget m (g, x)).isSome]) W := by
  have := (h.ext hE).lookup (P := Tryz.prog) kPair tmA (zA W) (g, x) true
  simp only [ekP, pairC] at this
  rw [show #[Value.int IntKind.u32 g, Value.int IntKind.u32 x] = [u32 g, u32 x].toArray from rfl, this]
  cases mget m (g, x) <;> rfl
theorem lookF {w : World} {r : Nat} {m : MF} (h : MapAt ekK ewF w r m) (g x : Int) (W : World) (hE : Ext w W) : (Instr.lookup 65 (.map (some r)) (.agg #[.int .u32 g, .int .u64 x]) true).run Tryz.prog W = .ok (.tuple #[ewF ((mget m (g, x)).getD (0, 0)), .bool (mget m (g, x)).isSome]) W := by
  have := (h.ext hE).lookup (P := Tryz.prog) kKey tmF (zF W) (g, x) true
  simp only [ekK, keyC] at this
  rw [show #[Value.int IntKind.u32 g, Value.int IntKind.u64 x] = [u32 g, u64 x].toArray from rfl, this]
  cases mget m (g, x) <;> rfl
/-- Is there no room for one more? -/
def fullB {ν : Type} (m : List (PK × ν)) (p : PK) : Bool := decide ((mget m p).isSome = false) && decide (256 ≤ m.length)
theorem fullA_c {w : World} {rA : Nat} {m : MA} (h : MapAt ekP ewA w rA m) (g x : Int) : FN Tryz.prog 32 [.map (some rA), .agg #[u32 g, u32 x]] w fun e w' => ∃ b b', e = .returned (.func (.func 67) #[] #[ptr b, ptr b']) ∧ Var w' b (.map (some rA)) ∧ Blk w' b' [u32 g, u32 x] ∧ Ext w w' := by
  refine FN_enter Tryz.func32 rfl rfl (by kernel_rfl) ?_
  simp
  have v1 := Var.new w (.map (some rA)) 68
  have e1 : Ext w (w.alloc (.cells #[.map (some rA)] 68)) := (Ext.refl _).alloc _
  have z1 : (w.alloc (.cells #[.map (some rA)] 68)).heap.size = w.heap.size + 1 := by simp
  generalize (w.alloc (.cells #[.map (some rA)] 68)) = w1 at *
  have b2 := Blk.new w1 [u32 g, u32 x] 71
  rw [z1] at b2
  have e2 : Ext w1 (w1.alloc (.cells [u32 g, u32 x].toArray 71)) := (Ext.refl _).alloc _
  exact ⟨w.heap.size, w.heap.size + 1, ⟨rfl, rfl⟩, v1.ext e2, b2, e1.trans e2⟩
theorem fullA1_c {w : World} {rA b b' : Nat} {m : MA} {g x : Int} (h : MapAt ekP ewA w rA m) (hv : Var w b (.map (some rA))) (hb : Blk w b' [u32 g, u32 x]) : FN Tryz.prog 67 [ptr b, ptr b'] w fun e w' => e = .returned (.bool (fullB m (g, x))) ∧ Ext w w' := by
  refine FN_enter Tryz.func67 rfl rfl (by kernel_rfl) ?_
  simp [hv.cell, hb.cell 0 _ rfl, hb.cell 1 _ rfl, lookA h g x w (Ext.refl w), ewA, ansC]
  have e1 : Ext w (w.alloc (.cells #[.bool ((mget m (g, x)).getD (false, 0)).1, u64 ((mget m (g, x)).getD (false, 0)).2] 82)) := (Ext.refl _).alloc _
  cases hg : mget m (g, x) with
  | some q =>
    simp [fullB, hg]
    rw [hg] at e1
    exact e1
  | none =>
    have hl := h.len (P := Tryz.prog) (T := 68) (by simp) 3
    rw [hg] at e1
    have hl2 := (h.ext e1).len (P := Tryz.prog) (T := 68) (by simp) 3
    simp only [Option.getD_none] at hl2 e1
    simp [fullB, hg, hv.cell, hl2]
    exact ⟨by omega, e1⟩
theorem fullF_c {w : World} {rA : Nat} {m : MF} (h : MapAt ekK ewF w rA m) (g x : Int) : FN Tryz.prog 35 [.map (some rA), .agg #[u32 g, u64 x]] w fun e w' => ∃ b b', e = .returned (.func (.func 68) #[] #[ptr b, ptr b']) ∧ Var w' b (.map (some rA)) ∧ Blk w' b' [u32 g, u64 x] ∧ Ext w w' := by
  refine FN_enter Tryz.func35 rfl rfl (by kernel_rfl) ?_
  simp
  have v1 := Var.new w (.map (some rA)) 65
  have e1 : Ext w (w.alloc (.cells #[.map (some rA)] 65)) := (Ext.refl _).alloc _
  have z1 : (w.alloc (.cells #[.map (some rA)] 65)).heap.size = w.heap.size + 1 := by simp
  generalize (w.alloc (.cells #[.map (some rA)] 65)) = w1 at *
  have b2 := Blk.new w1 [u32 g, u64 x] 84
  rw [z1] at b2
  have e2 : Ext w1 (w1.alloc (.cells [u32 g, u64 x].toArray 84)) := (Ext.refl _).alloc _
  exact ⟨w.heap.size, w.heap.size + 1, ⟨rfl, rfl⟩, v1.ext e2, b2, e1.trans e2⟩
theorem fullF1_c {w : World} {rA b b' : Nat} {m : MF} {g x : Int} (h : MapAt ekK ewF w rA m) (hv : Var w b (.map (some rA))) (hb : Blk w b' [u32 g, u64 x]) : FN Tryz.prog 68 [ptr b, ptr b'] w fun e w' => e = .returned (.bool (fullB m (g, x))) ∧ Ext w w' := by
  refine FN_enter Tryz.func68 rfl rfl (by kernel_rfl) ?_
  simp [hv.cell, hb.cell 0 _ rfl, hb.cell 1 _ rfl, lookF h g x w (Ext.refl w), ewF, foreVC]
  have e1 : Ext w (w.alloc (.cells #[u64 ((mget m (g, x)).getD (0, 0)).1, u8 ((mget m (g, x)).getD (0, 0)).2] 87)) := (Ext.refl _).alloc _
  cases hg : mget m (g, x) with
  | some q =>
    simp [fullB, hg]
    rw [hg] at e1
    exact e1
  | none =>
    rw [hg] at e1
    have hl2 := (h.ext e1).len (P := Tryz.prog) (T := 65) (by simp) 3
    simp only [Option.getD_none] at hl2 e1
    simp [fullB, hg, hv.cell, hl2]
    exact ⟨by omega, e1⟩
/-! ### Answer's questions -/
def noQ (b : Bd) (r : Rec) : Bool := match mget b.Q (r.node, r.reg) with | none => true | some q => decide (¬ q.1 = r.num)
def QOk (b : Bd) : Prop := ∀ x ∈ b.Q, 0 ≤ x.2.1 ∧ x.2.1 ≤ 4294967295
theorem ans1_c {w : World} {b0 b1 b2 t rF rQ rA : Nat} {b : Bd} {r : Rec} (v0 : Var w b0 (ptr t)) (v1 : Blk w b1 [u32 r.node, u32 r.reg]) (v2 : Blk w b2 (recC r)) (h : BdAt w t rF rQ rA b) (hq : QOk b) : FN Tryz.prog 30 [ptr b0, ptr b1, ptr b2] w fun e w' => e = .returned (.bool (noQ b r)) ∧ Ext w w' := by
  refine FN_enter Tryz.func30 rfl rfl (by kernel_rfl) ?_
  simp
  refine WC_drawL 11 (.F 0 <| .F 1 <| .F 2 <| .F 3 <| .F 4 <| .D 9 <| .L 5 <| .F 6 <| .F 7 <| .F 8 <| .W 9 <| .S 10 <| .Z) (fun _ => false) (fun _ => false) (fun _ u W => ∃ j, u = ptr j ∧ w.heap.size ≤ j ∧ Blk W j [u32 0, u64 0]) rfl (by kernel_rfl) (fun _ h => h)
    (fun _ _ _ _ ⟨j, h1, h2, h3⟩ hA => ⟨j, h1, h2, h3.ext (agr_ext hA)⟩) fun W hW => ?_
  have hWE : Ext w W := hW ▸ Ext.drew w
  have hW1 := h.ext hWE
  simp [(v0.ext hWE).cell, hW1.blk.cell 1 _ rfl, (v1.ext hWE).cell 0 _ rfl, (v1.ext hWE).cell 1 _ rfl]
  refine RL_float (fun W' h' => ?_) ?_
  · simp
    have hs := (hWE.trans (agr_ext h')).size
    exact ⟨(Ext.refl _).alloc _, hs, Blk.new W' [u32 0, u64 0] 77⟩
  simp
  refine RL_loose fun W3 h3 => ?_
  simp [lookQ hW1.mQ r.node r.reg W3 h3]
  refine KR_same ?_
  simp
  refine RL_wait fun v6 W6 h6 ⟨j, hj, hjs, hjb⟩ => ?_
  subst hj
  have hE6 := hWE.trans (h3.trans h6)
  have c2 := v2.ext hE6
  have lt2 := v2.lt
  simp [ewQ, quesC, hjb.cell 0 _ rfl, hjb.cell 1 _ rfl, hjb.thaw, cell_setCell]
  have hM7 : Mod (fun k => k = j) W6 ((W6.setCell ⟨j, 0, none⟩ (u32 ((mget b.Q (r.node, r.reg)).getD (0, 0)).1)).setCell ⟨j, 1, none⟩ (u64 ((mget b.Q (r.node, r.reg)).getD (0, 0)).2)) := ((Mod.refl _ _).setC 0 _).setC 1 _
  have j7 := (hjb.set 0 (u32 ((mget b.Q (r.node, r.reg)).getD (0, 0)).1)).set 1 (u64 ((mget b.Q (r.node, r.reg)).getD (0, 0)).2)
  simp only [List.set_cons_zero, List.set_cons_succ] at j7
  refine KR_mk (agr_any (hM7.weaken fun _ _ => trivial)) ?_
  have c7 := c2.mod hM7 (by omega)
  have hE7 : Ext w ((W6.setCell ⟨j, 0, none⟩ (u32 ((mget b.Q (r.node, r.reg)).getD (0, 0)).1)).setCell ⟨j, 1, none⟩ (u64 ((mget b.Q (r.node, r.reg)).getD (0, 0)).2)) := ((hE6.mod (S := fun k => w.heap.size ≤ k)).trans (hM7.weaken fun k hk => by omega)).ext fun _ h => h
  generalize ((W6.setCell ⟨j, 0, none⟩ (u32 ((mget b.Q (r.node, r.reg)).getD (0, 0)).1)).setCell ⟨j, 1, none⟩ (u64 ((mget b.Q (r.node, r.reg)).getD (0, 0)).2)) = w7 at *
  cases hg : mget b.Q (r.node, r.reg) with
  | none =>
    simp [noQ, hg]
    exact hE7
  | some q =>
    rw [hg] at j7
    simp only [Option.getD_some] at j7
    have hq1 := hq _ (kget_mem hg)
    have hw : IntKind.u64.wrap q.1 = q.1 := wrap64u _ hq1.1 (by simp only at hq1; omega)
    simp [bne_dec, noQ, hg, j7.cell 0 _ rfl, c7.cell 8 _ rfl, hw]
    exact hE7
theorem ans2_c {w : World} {b0 b1 t rF rQ rA : Nat} {b : Bd} {g x : Int} (v0 : Var w b0 (ptr t)) (v1 : Blk w b1 [u32 g, u32 x]) (h : BdAt w t rF rQ rA b) : FN Tryz.prog 31 [ptr b0, ptr b1] w fun e w' => e = .returned (.bool (fullB b.A (g, x))) ∧ Ext w w' := by
  refine FN_enter Tryz.func31 rfl rfl (by kernel_rfl) ?_
  simp
  refine WC_drawC 5 (.F 0 <| .F 1 <| .F 2 <| .F 3 <| .F 4 <| .Z) (fun _ => false) rfl (by kernel_rfl) fun W hW => ?_
  have hWE : Ext w W := hW ▸ Ext.drew w
  have hW1 := h.ext hWE
  simp [(v0.ext hWE).cell, hW1.blk.cell 2 _ rfl, (v1.ext hWE).cell 0 _ rfl, (v1.ext hWE).cell 1 _ rfl]
  refine FN.mono (fullA_c hW1.mA g x) ?_
  rintro _ w2 ⟨c, c', rfl, hv, hb, hE2⟩
  simp
  refine FN.mono (fullA1_c (hW1.mA.ext hE2) hv hb) ?_
  rintro _ w3 ⟨rfl, hE3⟩
  simp
  exact hWE.trans (hE2.trans hE3)
theorem fore1_c {w : World} {b0 : Nat} {r : Rec} (v : Blk w b0 (recC r)) : FN Tryz.prog 33 [ptr b0] w fun e w' => e = .returned (.bool (decide (r.fro = r.til))) ∧ w' = w := by
  refine FN_enter Tryz.func33 rfl rfl (by kernel_rfl) ?_
  simp [beq_dec, v.cell 12 _ rfl, v.cell 13 _ rfl]
theorem fore2_c {w : World} {b0 b1 t rF rQ rA : Nat} {b : Bd} {g x : Int} (v0 : Var w b0 (ptr t)) (v1 : Blk w b1 [u32 g, u64 x]) (h : BdAt w t rF rQ rA b) : FN Tryz.prog 34 [ptr b0, ptr b1] w fun e w' => e = .returned (.bool (fullB b.F (g, x))) ∧ Ext w w' := by
  refine FN_enter Tryz.func34 rfl rfl (by kernel_rfl) ?_
  simp
  refine WC_drawC 5 (.F 0 <| .F 1 <| .F 2 <| .F 3 <| .F 4 <| .Z) (fun _ => false) rfl (by kernel_rfl) fun W hW => ?_
  have hWE : Ext w W := hW ▸ Ext.drew w
  have hW1 := h.ext hWE
  simp [(v0.ext hWE).cell, hW1.blk.cell 0 _ rfl, (v1.ext hWE).cell 0 _ rfl, (v1.ext hWE).cell 1 _ rfl]
  refine FN.mono (fullF_c hW1.mF g x) ?_
  rintro _ w2 ⟨c, c', rfl, hv, hb, hE2⟩
  simp
  refine FN.mono (fullF1_c (hW1.mF.ext hE2) hv hb) ?_
  rintro _ w3 ⟨rfl, hE3⟩
  simp
  exact hWE.trans (hE2.trans hE3)
end Go.Proofs
