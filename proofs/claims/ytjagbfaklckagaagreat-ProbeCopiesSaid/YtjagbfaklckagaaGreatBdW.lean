/-
  Contracts of the functions that the law reaches, step by step.
-/
import Derived.Test.YtjagbfaklckagaaGreatBdU
import Derived.Test.YtjagbfaklckagaaGreatEngAC
import Derived.Test.YtjagbfaklckagaaGreatEngAD
namespace Go.Proofs
open Pk
set_option maxRecDepth 10000
/-- The questions, by number. -/
def isOpen (l : List Qt) (R : List Qt) : Prop := (R.Pairwise fun a b => a.n ≤ b.n) ∧ R.Perm l
theorem isOpen.ins {l R : List Qt} {i k : Nat} (h : isOpen (l.take i) R) (hi : i < l.length) (h1 : ∀ y ∈ R.take k, y.n ≤ l[i].n) (h2 : ∀ y ∈ R.drop k, l[i].n ≤ y.n) : isOpen (l.take (i + 1)) (insAt R k l[i]) := by
  refine ⟨insAt_sorted h.1 h1 h2, ?_⟩
  rw [List.take_add_one, List.getElem?_eq_getElem hi]
  exact (insAt_perm _ _ _).trans (h.2.append_right [l[i]])
set_option maxHeartbeats 2000000 in
theorem ropen_c {w : World} {V : RV} {b : RB} (h : RbAt w V b) (hb : b.Q.length ≤ 1000) :
    FN Tryz.prog 52 [rbV V b] w fun e w' => ∃ u R, e = .returned u ∧ isOpen b.Q R ∧ w'.ownsRow w.heap.size 109 4 u R.length (R.flatMap qC) ∧ Ext w w' := by
  refine FN_enter Tryz.func52 rfl rfl (by kernel_rfl) ?_
  obtain ⟨qa, qc, aa, ac, fa, fc, rfl⟩ := h.open
  have hlen := fun ty W => h.q.isLen (P := Tryz.prog) (t := 50) (by simp) ty W
  simp
  have hE1 : Ext w (w.alloc (.cells #[.slice qa b.Q.length qc, .slice aa b.A.length ac, .slice fa b.F.length fc, u64 b.p, u32 b.n] 53)) := (Ext.refl _).alloc _
  have o1 : Blk (w.alloc (.cells #[.slice qa b.Q.length qc, .slice aa b.A.length ac, .slice fa b.F.length fc, u64 b.p, u32 b.n] 53)) w.heap.size [.slice qa b.Q.length qc, .slice aa b.A.length ac, .slice fa b.F.length fc, u64 b.p, u32 b.n] := Blk.new w _ _
  generalize (w.alloc (.cells #[.slice qa b.Q.length qc, .slice aa b.A.length ac, .slice fa b.F.length fc, u64 b.p, u32 b.n] 53)) = w1 at *
  have z1 := hE1.size
  refine WC_loop (fun k ρ ds w' => ∃ (i : Nat) (R : List Qt) (v7 : Value), k = b.Q.length - i ∧ i ≤ b.Q.length ∧ ρ 1 = ptr w.heap.size ∧ ρ 4 = i64 i ∧ ρ 3 = v7 ∧ ds = [] ∧ Ext w1 w' ∧ isOpen (b.Q.take i) R ∧ w'.ownsRow w1.heap.size 109 4 v7 R.length (R.flatMap qC)) b.Q.length
    ⟨0, [], .slice none 0 0, by simp, by simp, by simp, by simp, by simp, rfl, Ext.refl _, ⟨by simp, by simp⟩, World.ownsRow_nil _ _ _ _⟩ ?_
  rintro k ρ ds w2 ⟨i, R, v7, rfl, hi, e1, e4, e3, rfl, hE, hR, hO⟩
  have o2 := o1.ext hE
  have hE2 := hE1.trans hE
  by_cases hlt : i < b.Q.length
  · have r := ques_at (h.ext hE2).q (List.getElem?_eq_getElem hlt)
    have r0 := r 0 _ (by omega) rfl
    rw [Nat.add_zero] at r0
    have ix := ques_ix h.q i hlt
    have nx : IntKind.i64.wrap ((i : Int) + 1) = ((i + 1 : Nat) : Int) := by rw [wrap64 _ (by omega) (by omega)]; rfl
    have hRl : R.length = i := by
      have h1 := hR.2.length_eq
      rw [h1, List.length_take]; omega
    have hlen7 := fun ty W => (sl_of_own hO).isLen (P := Tryz.prog) (t := 50) (by simp) ty W
    simp [e1, e3, e4, o2.cell 0 _ rfl, hlen, hlt, hlen7, ix, r0, r 1 _ (by omega) rfl, r 2 _ (by omega) rfl, r 3 _ (by omega) rfl]
    have hm := Sl.made w2 (qC b.Q[i]) 109 4 1 rfl
    have hE4 : Ext w2 (w2.alloc (.cells #[u32 b.Q[i].n, u32 b.Q[i].g, u32 b.Q[i].r, u64 b.Q[i].a] 109)) := (Ext.refl _).alloc _
    have hw4 : (w2.alloc (.cells (qC b.Q[i]).toArray 109)) = (w2.alloc (.cells #[u32 b.Q[i].n, u32 b.Q[i].g, u32 b.Q[i].r, u64 b.Q[i].a] 109)) := rfl
    have s4 : (w2.alloc (.cells #[u32 b.Q[i].n, u32 b.Q[i].g, u32 b.Q[i].r, u64 b.Q[i].a] 109)).heap.size = w2.heap.size + 1 := by simp
    rw [hw4] at hm
    have hO4 := own_ext hO hE4
    generalize (w2.alloc (.cells #[u32 b.Q[i].n, u32 b.Q[i].g, u32 b.Q[i].r, u64 b.Q[i].a] 109)) = w4 at *
    obtain ⟨v8, w5, hr5, hO5, hM5, hnew⟩ := append_own (P := Tryz.prog) (t := 50) (ty := 50) (e := 109) (s := 4) (by simp) (by simp) (by kernel_rfl) hO4 hm (by have := q_one [b.Q[i]]; simpa using this) (by omega) (by have := hE.size; omega)
    have hge8 := own_ge hO5 (own_nil hO5 (by omega))
    have hE5 : Ext w1 w5 := (((hE.trans hE4).mod (S := fun k => w1.heap.size ≤ k)).trans (hM5.weaken fun k hk => by have := own_ge hO hk.1; omega)).ext fun _ h => h
    have hO5' : w5.ownsRow w1.heap.size 109 4 v8 (insAt R R.length b.Q[i]).length ((insAt R R.length b.Q[i]).flatMap qC) := by
      rw [insAt_end, List.length_append, List.length_singleton, List.flatMap_append]
      simpa [qC] using hO5
    simp [hr5]
    refine WC_loop (fun κ ρ ds w' => ∃ (k : Nat) (d : Qt), κ = k ∧ k ≤ R.length ∧ ρ 1 = ptr w.heap.size ∧ ρ 4 = i64 i ∧ ρ 3 = v8 ∧ ρ 5 = i64 k ∧ ds = [] ∧ Mod (fun k => k = slB v8) w5 w' ∧
      w'.ownsRow w1.heap.size 109 4 v8 (insAt R k d).length ((insAt R k d).flatMap qC) ∧ ∀ y ∈ R.drop k, b.Q[i].n < y.n) R.length
      ⟨R.length, b.Q[i], by simp, by simp, by simp [e1], by simp [e4], by simp, by simp, rfl, Mod.refl _ _, hO5', by simp⟩ ?_
    rintro κ ρ ds w6' ⟨k, d, hκ, hk, f1, f4, f3, f5, rfl, hM', hO6', hgt⟩
    subst κ
    simp
    refine WC_drawC 15 (.F 0 <| .F 1 <| .F 2 <| .F 3 <| .F 4 <| .F 5 <| .F 6 <| .F 7 <| .F 8 <| .F 9 <| .F 10 <| .F 11 <| .F 12 <| .F 13 <| .F 14 <| .Z) (fun _ => false) rfl (by kernel_rfl) fun w6 hW => ?_
    have hWE : Ext w6' w6 := hW ▸ Ext.drew _
    have hM := hM'.trans hWE.mod
    have hO6 := own_ext hO6' hWE
    have hlk := insAt_len hk d
    have hX6 : Ext w w6 := hE1.trans (((hE5.mod (S := fun k => w1.heap.size ≤ k)).trans (hM.weaken fun k hk => by omega)).ext fun _ h => h)
    have fin : ∀ W, Mod (fun k => k = slB v8) w6 W → W.ownsRow w1.heap.size 109 4 v8 (insAt R k b.Q[i]).length ((insAt R k b.Q[i]).flatMap qC) → (∀ y ∈ R.take k, y.n ≤ b.Q[i].n) →
        ∃ m', m' < b.Q.length - i ∧ ∃ i_1, m' = b.Q.length - i_1 ∧ i_1 ≤ b.Q.length ∧ (i : Int) + 1 = (i_1 : Int) ∧ Ext w1 W ∧ ∃ R', isOpen (b.Q.take i_1) R' ∧ W.ownsRow w1.heap.size 109 4 v8 R'.length (R'.flatMap qC) :=
      fun W hMW hOW hle => ⟨b.Q.length - (i + 1), by omega, i + 1, rfl, by omega, by simp, ((hE5.mod (S := fun k => w1.heap.size ≤ k)).trans ((hM.trans hMW).weaken fun k hk => by omega)).ext (fun _ h => h), _,
        hR.ins hlt hle (fun y hy => Int.le_of_lt (hgt y hy)), hOW⟩
    have hS6 : Sl w6 4 v8 (insAt R k d).length ((insAt R k d).flatMap qC) := sl_of_own hO6
    have th := fun j => own_thaw hO6 (by omega) j
    have ixk := ques_ix hS6 k (by omega)
    have rk := ques_at hS6 (insAt_at hk d)
    have rk0 := rk 0 _ (by omega) rfl
    rw [Nat.add_zero] at rk0
    have o6 := (o1.ext ((hE5.mod (S := fun k => w1.heap.size ≤ k)).trans (hM.weaken fun k hk => by omega) |>.ext fun _ h => h))
    have s6 := ques_at (h.ext hX6).q (List.getElem?_eq_getElem hlt)
    have s60 := s6 0 _ (by omega) rfl
    rw [Nat.add_zero] at s60
    have hput := Pk.own_put qC (fun _ => rfl) hO6 k (by omega) b.Q[i]
    have hMp : Mod (fun k => k = slB v8) w6 (putC w6 (slB v8) (slO v8 + k * 4) (qC b.Q[i])) := putC_mod _ _ (Mod.refl _ _)
    rw [insAt_set hk] at hput
    cases k with
    | zero =>
      simp [f5]
      rw [f3]
      simp only [Nat.zero_mul, Nat.add_zero, Int.cast_ofNat_Int] at ixk rk0 hput hMp
      have k1 := rk 1 _ (by omega) rfl
      have k2 := rk 2 _ (by omega) rfl
      have k3 := rk 3 _ (by omega) rfl
      simp only [Nat.zero_mul, Nat.add_zero] at k1 k2 k3
      simp [f1, f3, f4, nx, ixk, ix, o6.cell 0 _ rfl, s60, s6 1 _ (by omega) rfl, s6 2 _ (by omega) rfl, s6 3 _ (by omega) rfl, rk0, k1, k2, k3, th, cell_setCell]
      exact fin _ hMp hput (by simp)
    | succ k =>
      have hkl : k < R.length := by omega
      have rk' := ques_at hS6 ((insAt_lt hk d (Nat.lt_succ_self k)).trans (List.getElem?_eq_getElem hkl))
      have rk'0 := rk' 0 _ (by omega) rfl
      rw [Nat.add_zero] at rk'0
      have ixk' := ques_ix hS6 k (by omega)
      have nm : IntKind.i64.wrap (k : Int) = (k : Int) := wrap64 _ (by omega) (by omega)
      have hp : (0 : Int) < (k : Int) + 1 := by omega
      push_cast at ixk
      by_cases hx : b.Q[i].n < R[k].n
      · have hp2 := Pk.own_put qC (fun _ => rfl) hO6 (k + 1) (by omega) R[k]
        have hM2 : Mod (fun k => k = slB v8) w6 (putC w6 (slB v8) (slO v8 + (k + 1) * 4) (qC R[k])) := putC_mod _ _ (Mod.refl _ _)
        rw [insAt_set hk, insAt_shift hkl] at hp2
        simp [f1, f3, f4, f5, hp, nm, ixk', ix, o6.cell 0 _ rfl, s60, rk'0, rk' 1 _ (by omega) rfl, rk' 2 _ (by omega) rfl, rk' 3 _ (by omega) rfl, hx, ixk, rk0, rk 1 _ (by omega) rfl, rk 2 _ (by omega) rfl, rk 3 _ (by omega) rfl, th, cell_setCell]
        rw [← insAt_len (k := k + 1) (by omega) d] at hlk
        have hp3 : (putC w6 (slB v8) (slO v8 + (k + 1) * 4) (qC R[k])).ownsRow w1.heap.size 109 4 v8 (insAt R k R[k]).length ((insAt R k R[k]).flatMap qC) := hp2
        refine ⟨k, by omega, by omega, rfl, hM.trans hM2, ⟨R[k], hp3⟩, fun y hy => ?_⟩
        rw [List.drop_eq_getElem_cons hkl] at hy
        rcases List.mem_cons.1 hy with rfl | hy
        · exact hx
        · exact hgt y hy
      · simp [f1, f3, f4, f5, hp, nm, ixk', ix, o6.cell 0 _ rfl, s60, rk'0, hx]
        simp [f1, f3, f4, nx, ixk, s6 1 _ (by omega) rfl, s6 2 _ (by omega) rfl, s6 3 _ (by omega) rfl, rk0, rk 1 _ (by omega) rfl, rk 2 _ (by omega) rfl, rk 3 _ (by omega) rfl, th, cell_setCell]
        exact fin _ hMp hput (take_le (key := Qt.n) hR.1 hkl (by omega))
  · have : i = b.Q.length := by omega
    subst this
    rw [List.take_length] at hR
    simp [e1, e3, e4, o2.cell 0 _ rfl, hlen]
    exact ⟨R, hR, own_lower hO z1, hE2⟩
end Go.Proofs
namespace Go.Proofs
open Pk
set_option maxRecDepth 10000
/-! ### The board and the document's, side by side -/
abbrev qE (q : Qt) : PK × PK := ((q.g, q.r), (q.n, q.a))
abbrev aE (r : Rec) : PK × (Bool × Int) := ((r.node, r.reg), (r.yes, r.til))
abbrev fE (r : Rec) : PK × PK := ((r.node, r.fro), (r.til, r.lev))
section
variable {κ ν : Type} [DecidableEq κ]
theorem nodup_inj {α : Type} {l : List α} (h : l.Nodup) {i j : Nat} (hi : i < l.length) (hj : j < l.length) (e : l[i] = l[j]) : i = j := by
  rcases Nat.lt_trichotomy i j with h1 | h1 | h1
  · exact absurd e (List.pairwise_iff_getElem.1 h i j hi hj h1)
  · exact h1
  · exact absurd e.symm (List.pairwise_iff_getElem.1 h j i hj hi h1)
theorem mget_some_iff (m : List (κ × ν)) (k : κ) : (mget m k).isSome = true ↔ ∃ x ∈ m, x.1 = k := by
  constructor
  · intro h
    cases hg : mget m k with
    | none => rw [hg] at h; cases h
    | some v => exact ⟨_, kget_mem hg, rfl⟩
  · rintro ⟨x, hx, rfl⟩
    cases hg : mget m x.1 with
    | some v => rfl
    | none => exact absurd rfl (kget_none hg x hx)
theorem perm_isSome {m m' : List (κ × ν)} (h : m.Perm m') (k : κ) : (mget m k).isSome = (mget m' k).isSome := by
  rw [Bool.eq_iff_iff, mget_some_iff, mget_some_iff]
  exact ⟨fun ⟨x, hx, e⟩ => ⟨x, h.mem_iff.1 hx, e⟩, fun ⟨x, hx, e⟩ => ⟨x, h.mem_iff.2 hx, e⟩⟩
theorem perm_mget {m m' : List (κ × ν)} (h : m.Perm m') (hn : (m.map (·.1)).Nodup) (k : κ) : mget m k = mget m' k := by
  have hn' : (m'.map (·.1)).Nodup := (h.map _).nodup_iff.1 hn
  cases hg : mget m' k with
  | some v => exact (kget_iff hn).2 (h.mem_iff.2 (kget_mem hg))
  | none =>
    have := perm_isSome h k
    rw [hg] at this
    simpa using this
theorem perm_mset {m m' : List (κ × ν)} (h : m.Perm m') (k : κ) (v : ν) : (mset m k v).Perm (mset m' k v) := by
  unfold mset
  rw [perm_isSome h k]
  split
  · exact h.map _
  · exact h.append_right _
theorem perm_mdel {m m' : List (κ × ν)} (h : m.Perm m') (k : κ) : (mdel m k).Perm (mdel m' k) := h.filter _
/-- Setting the one entry of that key. -/
theorem mset_at {m : List (κ × ν)} (hn : (m.map (·.1)).Nodup) {i : Nat} (hi : i < m.length) (k : κ) (v : ν) (hk : m[i].1 = k) : mset m k v = m.set i (k, v) := by
  have hs : (mget m k).isSome = true := (mget_some_iff m k).2 ⟨m[i], by simp, hk⟩
  unfold mset
  rw [if_pos hs]
  apply List.ext_getElem (by simp)
  intro j h1 h2
  rw [List.getElem_map, List.getElem_set]
  have hj : j < m.length := by simpa using h1
  by_cases hij : i = j
  · subst hij
    rw [if_pos hk, if_pos rfl]
  · rw [if_neg hij, if_neg]
    intro e
    have : i = j := nodup_inj hn (by simpa using hi) (by simpa using hj) (by simp [hk, e])
    exact hij this
theorem mdel_at {m : List (κ × ν)} (hn : (m.map (·.1)).Nodup) {i : Nat} (hi : i < m.length) (k : κ) (hk : m[i].1 = k) : mdel m k = m.take i ++ m.drop (i + 1) := by
  have hfi : m.findIdx? (fun p => decide (p.1 = k)) = some i := by
    rw [List.findIdx?_eq_some_iff_getElem]
    refine ⟨hi, by simpa using hk, fun j hj => ?_⟩
    simp only [Bool.not_eq_true, decide_eq_false_iff_not]
    intro e
    have : i = j := nodup_inj hn (by simpa using hi) (by simp; omega) (by simp [hk, e])
    omega
  rw [mdel_erase hn hfi, List.eraseIdx_eq_take_drop_succ]
end
structure Tie (b : Bd) (d : RB) : Prop where
  q : b.Q.Perm (d.Q.map qE)
  a : b.A.Perm (d.A.map aE)
  f : b.F.Perm (d.F.map fE)
  p : b.p = d.p
  n : b.n = d.n
  fine : ∀ r ∈ d.F, spnOk r.fro r.til = true ∧ r.kind = 4 ∧ foreB r = r
  ans : ∀ r ∈ d.A, r.kind = 3 ∧ tellB r = r
end Go.Proofs
namespace Go.Proofs
open Pk
set_option maxRecDepth 10000
theorem ixI_none_iff {α : Type} (l : List α) (f : α → Bool) : (ixI l f < 0 ∧ ∀ x ∈ l, f x = false) ∨ ∃ (i : Nat) (hi : i < l.length), ixI l f = i ∧ f l[i] = true := by
  cases hf : l.findIdx? f with
  | none =>
    refine .inl ⟨by simp [ixI, hf], fun x hx => ?_⟩
    simpa using List.findIdx?_eq_none_iff.1 hf x hx
  | some i =>
    obtain ⟨h1, h2, -⟩ := List.findIdx?_eq_some_iff_getElem.1 hf
    exact .inr ⟨i, h1, by simp [ixI, hf], h2⟩
theorem lastI_iff (l : List Rec) (f : Rec → Bool) : (lastI l f < 0 ∧ ∀ x ∈ l, f x = false) ∨ ∃ (i : Nat) (hi : i < l.length), lastI l f = i ∧ f l[i] = true := by
  have key : ∀ n, n ≤ l.length → (lastU l f n < 0 ∧ ∀ j (hj : j < l.length), j < n → f l[j] = false) ∨ ∃ (i : Nat) (hi : i < l.length), lastU l f n = i ∧ f l[i] = true := by
    intro n
    induction n with
    | zero => exact fun _ => .inl ⟨by simp [lastU], fun j _ h => by omega⟩
    | succ n ih =>
      intro hn
      rw [lastU_succ f (by omega)]
      cases hb : f l[n] with
      | true => exact .inr ⟨n, by omega, by simp, hb⟩
      | false =>
        simp only [Bool.false_eq_true, if_false]
        rcases ih (by omega) with ⟨h1, h2⟩ | h
        · refine .inl ⟨h1, fun j hj hjn => ?_⟩
          rcases Nat.lt_succ_iff_lt_or_eq.1 hjn with h | rfl
          · exact h2 j hj h
          · exact hb
        · exact .inr h
  rcases key l.length (Nat.le_refl _) with ⟨h1, h2⟩ | h
  · refine .inl ⟨h1, fun x hx => ?_⟩
    obtain ⟨j, hj, rfl⟩ := List.getElem_of_mem hx
    exact h2 j hj hj
  · exact .inr h
theorem Tie.lenQ {b : Bd} {d : RB} (h : Tie b d) : b.Q.length = d.Q.length := by rw [h.q.length_eq, List.length_map]
theorem Tie.lenA {b : Bd} {d : RB} (h : Tie b d) : b.A.length = d.A.length := by rw [h.a.length_eq, List.length_map]
theorem Tie.lenF {b : Bd} {d : RB} (h : Tie b d) : b.F.length = d.F.length := by rw [h.f.length_eq, List.length_map]
theorem Tie.new (p : Int) : Tie ⟨[], [], [], p, 0⟩ ⟨[], [], [], p, 0⟩ := ⟨by simp, by simp, by simp, rfl, rfl, fun r h => (by cases h), fun r h => (by cases h)⟩
theorem Tie.anyQ {b : Bd} {d : RB} (h : Tie b d) (g x : Int) : (mget b.Q (g, x)).isSome = d.Q.any (onQ g x) := by
  rw [perm_isSome h.q, Bool.eq_iff_iff, mget_some_iff, List.any_eq_true]
  constructor
  · rintro ⟨y, hy, e⟩
    obtain ⟨q, hq, rfl⟩ := List.mem_map.1 hy
    simp only [Prod.mk.injEq] at e
    exact ⟨q, hq, by simp [onQ, e.1, e.2]⟩
  · rintro ⟨q, hq, e⟩
    simp only [onQ, Bool.and_eq_true, decide_eq_true_eq] at e
    exact ⟨qE q, List.mem_map.2 ⟨q, hq, rfl⟩, by simp [e.1, e.2]⟩
theorem Tie.ask {b : Bd} {d : RB} (h : Tie b d) {g x a : Int} (hg : 0 ≤ g) (hx : 0 ≤ x) : rAskR d g x a = askR b g x a ∧ Tie (askB b g x a) (rAskB d g x a) := by
  have hR : rAskR d g x a = askR b g x a := by
    unfold rAskR askR
    rw [h.anyQ, h.lenQ]
    by_cases h1 : min g x = 0 ∨ 4611686018427387903 < a
    · rw [if_pos h1, if_pos (by omega)]
    · rw [if_neg h1, if_neg (by omega)]
  refine ⟨hR, ?_⟩
  unfold rAskB askB
  rw [hR]
  split
  · rename_i h0
    have hno : ∀ y ∈ b.Q, y.1 ≠ (g, x) := fun y hy e => by
      have hs : (mget b.Q (g, x)).isSome = true := (mget_some_iff _ _).2 ⟨y, hy, e⟩
      unfold askR at h0
      rw [hs] at h0
      simp only [if_true] at h0
      split at h0 <;> omega
    rw [mset_out hno]
    refine ⟨?_, h.a, h.f, h.p, by rw [h.n], h.fine, h.ans⟩
    rw [List.map_append]
    have := h.q.append_right [((g, x), (b.n, a))]
    simpa [qE, h.n] using this
  · exact h
theorem Tie.prune {b : Bd} {d : RB} (h : Tie b d) (a : Int) : Tie (pruB b a) (rPruB d a) ∧ bdN b - bdN (pruB b a) = rbN d - rbN (rPruB d a) := by
  have hT : Tie (pruB b a) (rPruB d a) := by
    unfold pruB rPruB
    split
    · refine ⟨?_, ?_, ?_, h.p, h.n, fun r hr => h.fine r (List.mem_filter.1 hr).1, fun r hr => h.ans r (List.mem_filter.1 hr).1⟩
      · have := h.q.filter (fun x => !decide (addT x.2.2 b.p < a))
        rw [List.filter_map] at this
        refine this.trans (List.Perm.of_eq ?_)
        congr 1
        refine List.filter_congr fun q _ => ?_
        simp only [Function.comp, keepQ, h.p]
        rw [← decide_not]
        congr 1
        rw [Int.not_lt]
      · have := h.a.filter (fun x => !decide (x.2.2 ≤ a))
        rw [List.filter_map] at this
        refine this.trans (List.Perm.of_eq ?_)
        congr 1
        refine List.filter_congr fun q _ => ?_
        simp only [Function.comp, keepR]
        rw [← decide_not]
        congr 1
        rw [Int.not_le]
      · have := h.f.filter (fun x => !decide (x.2.1 ≤ a))
        rw [List.filter_map] at this
        refine this.trans (List.Perm.of_eq ?_)
        congr 1
        refine List.filter_congr fun q _ => ?_
        simp only [Function.comp, keepR]
        rw [← decide_not]
        congr 1
        rw [Int.not_le]
    · exact h
  refine ⟨hT, ?_⟩
  unfold bdN rbN
  rw [h.lenQ, h.lenA, h.lenF, hT.lenQ, hT.lenA, hT.lenF]
theorem putA {l : List Rec} {g : Rec → PK} {v : Rec → Bool × Int} (hn : ((l.map fun r => (g r, v r)).map (·.1)).Nodup) (r : Rec) {i : Int} (hi : (i < 0 ∧ ∀ x ∈ l, g x ≠ g r) ∨ ∃ (n : Nat) (hn : n < l.length), i = n ∧ g l[n] = g r) : mset (l.map fun r => (g r, v r)) (g r) (v r) = (putL l i r).map fun r => (g r, v r) := by
  unfold putL
  rcases hi with ⟨h1, h2⟩ | ⟨n, hl, rfl, h2⟩
  · rw [if_pos h1, mset_out (fun x hx => by obtain ⟨y, hy, rfl⟩ := List.mem_map.1 hx; exact h2 y hy), List.map_append]
    rfl
  · rw [if_neg (by omega), mset_at hn (i := n) (by simpa using hl) _ _ (by simpa using h2)]
    simp [List.map_set]
theorem putF {l : List Rec} {g : Rec → PK} {v : Rec → PK} (hn : ((l.map fun r => (g r, v r)).map (·.1)).Nodup) (r : Rec) {i : Int} (hi : (i < 0 ∧ ∀ x ∈ l, g x ≠ g r) ∨ ∃ (n : Nat) (hn : n < l.length), i = n ∧ g l[n] = g r) : mset (l.map fun r => (g r, v r)) (g r) (v r) = (putL l i r).map fun r => (g r, v r) := by
  unfold putL
  rcases hi with ⟨h1, h2⟩ | ⟨n, hl, rfl, h2⟩
  · rw [if_pos h1, mset_out (fun x hx => by obtain ⟨y, hy, rfl⟩ := List.mem_map.1 hx; exact h2 y hy), List.map_append]
    rfl
  · rw [if_neg (by omega), mset_at hn (i := n) (by simpa using hl) _ _ (by simpa using h2)]
    simp [List.map_set]
theorem mem_putL {l : List Rec} {i : Int} {r x : Rec} (h : x ∈ putL l i r) : x = r ∨ x ∈ l := by
  unfold putL at h
  split at h
  · rcases List.mem_append.1 h with h | h
    · exact .inr h
    · simp at h; exact .inl h
  · rcases List.mem_or_eq_of_mem_set h with h | h
    · exact .inr h
    · exact .inl h
theorem Tie.onA {b : Bd} {d : RB} (h : Tie b d) (g x : Int) : (ixI d.A (onA g x) < 0 ∧ (mget b.A (g, x)).isSome = false ∧ ∀ y ∈ d.A, ((y.node, y.reg) : PK) ≠ (g, x)) ∨ ∃ (n : Nat) (hn : n < d.A.length), ixI d.A (onA g x) = n ∧ (mget b.A (g, x)).isSome = true ∧ ((d.A[n].node, d.A[n].reg) : PK) = (g, x) := by
  rw [perm_isSome h.a]
  rcases ixI_none_iff d.A (Go.Proofs.onA g x) with ⟨h1, h2⟩ | ⟨n, hn, h1, h2⟩
  · have hno : ∀ y ∈ d.A, ((y.node, y.reg) : PK) ≠ (g, x) := fun y hy e => by
      have := h2 y hy
      simp only [Prod.mk.injEq] at e
      simp [Go.Proofs.onA, e.1, e.2] at this
    refine .inl ⟨h1, ?_, hno⟩
    rw [mget_out (fun y hy => by obtain ⟨z, hz, rfl⟩ := List.mem_map.1 hy; exact hno z hz)]
    rfl
  · simp only [Go.Proofs.onA, Bool.and_eq_true, decide_eq_true_eq] at h2
    refine .inr ⟨n, hn, h1, (mget_some_iff _ _).2 ⟨aE d.A[n], List.mem_map.2 ⟨d.A[n], by simp, rfl⟩, by simp [h2.1, h2.2]⟩, by simp [h2.1, h2.2]⟩
theorem Tie.onF {b : Bd} {d : RB} (h : Tie b d) (g x : Int) : (lastI d.F (onF g x) < 0 ∧ (mget b.F (g, x)).isSome = false ∧ ∀ y ∈ d.F, ((y.node, y.fro) : PK) ≠ (g, x)) ∨ ∃ (n : Nat) (hn : n < d.F.length), lastI d.F (onF g x) = n ∧ (mget b.F (g, x)).isSome = true ∧ ((d.F[n].node, d.F[n].fro) : PK) = (g, x) := by
  rw [perm_isSome h.f]
  rcases lastI_iff d.F (Go.Proofs.onF g x) with ⟨h1, h2⟩ | ⟨n, hn, h1, h2⟩
  · have hno : ∀ y ∈ d.F, ((y.node, y.fro) : PK) ≠ (g, x) := fun y hy e => by
      have := h2 y hy
      simp only [Prod.mk.injEq] at e
      simp [Go.Proofs.onF, e.1, e.2] at this
    refine .inl ⟨h1, ?_, hno⟩
    rw [mget_out (fun y hy => by obtain ⟨z, hz, rfl⟩ := List.mem_map.1 hy; exact hno z hz)]
    rfl
  · simp only [Go.Proofs.onF, Bool.and_eq_true, decide_eq_true_eq] at h2
    refine .inr ⟨n, hn, h1, (mget_some_iff _ _).2 ⟨fE d.F[n], List.mem_map.2 ⟨d.F[n], by simp, rfl⟩, by simp [h2.1, h2.2]⟩, by simp [h2.1, h2.2]⟩
/-- What the board must be for that: keys of its own. -/
structure Own (b : Bd) : Prop where
  q : (b.Q.map (·.1)).Nodup
  a : (b.A.map (·.1)).Nodup
  f : (b.F.map (·.1)).Nodup
theorem BdAt.keys {w : World} {t rF rQ rA : Nat} {b : Bd} (h : BdAt w t rF rQ rA b) : Own b := ⟨h.mQ.nodup, h.mA.nodup, h.mF.nodup⟩
theorem Tie.isQ {b : Bd} {d : RB} (h : Tie b d) (ho : Own b) (r : Rec) : (ixI d.Q (isQ r) < 0 ∧ noQ b r = true) ∨ ∃ (n : Nat) (hn : n < d.Q.length), ixI d.Q (isQ r) = n ∧ noQ b r = false ∧ ((d.Q[n].g, d.Q[n].r) : PK) = (r.node, r.reg) := by
  rcases ixI_none_iff d.Q (Go.Proofs.isQ r) with ⟨h1, h2⟩ | ⟨n, hn, h1, h2⟩
  · refine .inl ⟨h1, ?_⟩
    unfold noQ
    cases hg : mget b.Q (r.node, r.reg) with
    | none => rfl
    | some v =>
      obtain ⟨q, hq, e⟩ := List.mem_map.1 (h.q.mem_iff.1 (kget_mem hg))
      have := h2 q hq
      simp only [qE, Prod.mk.injEq] at e
      obtain ⟨⟨e1, e2⟩, rfl⟩ := e
      simpa [Go.Proofs.isQ, e1, e2] using this
  · simp only [Go.Proofs.isQ, Bool.and_eq_true, decide_eq_true_eq] at h2
    refine .inr ⟨n, hn, h1, ?_, by simp [h2.2.1, h2.2.2]⟩
    have hm : ((r.node, r.reg), (r.num, d.Q[n].a)) ∈ b.Q := h.q.mem_iff.2 (List.mem_map.2 ⟨d.Q[n], by simp, by simp [qE, h2.1, h2.2.1, h2.2.2]⟩)
    unfold noQ
    rw [(kget_iff ho.q).2 hm]
    simp
theorem right_iff3 {r : Rec} (hk : r.kind = 3) : rightB r = false ↔ ¬ tellE r = 0 := by
  rw [← right_tell hk]; simp
theorem right_iff4 {r : Rec} (hk : r.kind = 4) : rightB r = false ↔ ¬ foreE r = 0 := by
  rw [← right_fore hk]; simp
theorem Tie.ans' {b : Bd} {d : RB} (h : Tie b d) (ho : Own b) (r : Rec) : rAnsR d r = ansR b r ∧ Tie (ansB b r) (rAnsB d r) := by
  have hc : (¬ r.kind = 3 ∨ rightB r = false) ↔ (¬ r.kind = 3 ∨ ¬ tellE r = 0) := by
    by_cases hk : r.kind = 3
    · rw [right_iff3 hk]
    · simp [hk]
  have hA := h.onA r.node r.reg
  have hQ := h.isQ ho r
  have hR : rAnsR d r = ansR b r := by
    unfold rAnsR ansR
    by_cases h1 : ¬ r.kind = 3 ∨ ¬ tellE r = 0
    · rw [if_pos h1, if_pos (hc.2 h1)]
    rw [if_neg h1, if_neg (fun e => h1 (hc.1 e))]
    rcases hQ with ⟨q1, q2⟩ | ⟨n, hn, q1, q2, q3⟩
    · rw [if_pos q1, q2]; rfl
    rw [if_neg (by omega), q2]
    simp only [Bool.false_eq_true, if_false, fullB, h.lenA]
    rcases hA with ⟨a1, a2, -⟩ | ⟨m, hm, a1, a2, -⟩
    · simp [a1, a2]
    · have : ¬ ixI d.A (Go.Proofs.onA r.node r.reg) < 0 := by omega
      simp [a2, this]
  refine ⟨hR, ?_⟩
  unfold ansB rAnsB
  rw [hR]
  by_cases h0 : ansR b r = 0
  · rw [if_pos h0, if_pos h0]
    have hk : r.kind = 3 ∧ rightB r = true := by
      unfold ansR at h0
      by_cases h1 : ¬ r.kind = 3 ∨ ¬ tellE r = 0
      · rw [if_pos h1] at h0; omega
      · have h2 : ¬ (¬ r.kind = 3 ∨ rightB r = false) := fun e => h1 (hc.1 e)
        refine ⟨Decidable.not_not.1 fun e => h2 (.inl e), ?_⟩
        cases hb : rightB r with
        | true => rfl
        | false => exact absurd (.inr hb) h2
    have hnq : noQ b r = false := by
      cases hb : noQ b r with
      | false => rfl
      | true =>
        unfold ansR at h0
        rw [hb] at h0
        simp only [if_true] at h0
        split at h0 <;> omega
    obtain ⟨n, hn, q1, q2, q3⟩ : ∃ (n : Nat) (hn : n < d.Q.length), ixI d.Q (Go.Proofs.isQ r) = n ∧ noQ b r = false ∧ ((d.Q[n].g, d.Q[n].r) : PK) = (r.node, r.reg) := by
      rcases hQ with ⟨q1, q2⟩ | hQ
      · rw [q2] at hnq; cases hnq
      · exact hQ
    rw [q1]
    refine ⟨?_, ?_, h.f, h.p, h.n, h.fine, fun x hx => ?_⟩
    · have hdn : ((d.Q.map qE).map (·.1)).Nodup := (h.q.map _).nodup_iff.1 ho.q
      have := perm_mdel h.q (r.node, r.reg)
      rw [mdel_at hdn (i := n) (by simpa using hn) _ (by simpa [qE] using q3)] at this
      rw [show ((n : Nat) : Int).toNat = n from rfl, List.map_append, List.map_take, List.map_drop]
      exact this
    · have hdn : ((d.A.map aE).map (·.1)).Nodup := (h.a.map _).nodup_iff.1 ho.a
      have := perm_mset h.a (r.node, r.reg) (r.yes, r.til)
      refine this.trans (List.Perm.of_eq ?_)
      refine putA (g := fun r => (r.node, r.reg)) (v := fun r => (r.yes, r.til)) hdn r ?_
      rcases hA with ⟨a1, -, a3⟩ | ⟨m, hm, a1, -, a3⟩
      · exact .inl ⟨a1, a3⟩
      · exact .inr ⟨m, hm, a1, a3⟩
    · rcases mem_putL hx with rfl | hx
      · refine ⟨hk.1, ?_⟩
        have := hk.2
        unfold rightB rbareR at this
        rw [if_pos hk.1] at this
        simp only [Bool.and_eq_true, decide_eq_true_eq] at this
        exact this.1
      · exact h.ans x hx
  · rw [if_neg h0, if_neg h0]
    exact h
end Go.Proofs
namespace Go.Proofs
open Pk
set_option maxRecDepth 10000
theorem Tie.fore' {b : Bd} {d : RB} (h : Tie b d) (ho : Own b) (r : Rec) : rForeR d r = foreR b r ∧ Tie (foreBd b r) (rForeB d r) := by
  have hc : (¬ r.kind = 4 ∨ rightB r = false ∨ r.fro = r.til) ↔ ((¬ r.kind = 4 ∨ ¬ foreE r = 0) ∨ r.fro = r.til) := by
    by_cases hk : r.kind = 4
    · rw [right_iff4 hk, or_assoc]
    · simp [hk]
  have hF := h.onF r.node r.fro
  have hR : rForeR d r = foreR b r := by
    unfold rForeR foreR
    by_cases h1 : ¬ r.kind = 4 ∨ ¬ foreE r = 0
    · rw [if_pos h1, if_pos (hc.2 (.inl h1))]
    rw [if_neg h1]
    by_cases h2 : r.fro = r.til
    · rw [if_pos h2, if_pos (hc.2 (.inr h2))]
    rw [if_neg h2, if_neg (fun e => by rcases hc.1 e with e | e; exact h1 e; exact h2 e)]
    simp only [fullB, h.lenF]
    rcases hF with ⟨a1, a2, -⟩ | ⟨m, hm, a1, a2, -⟩
    · simp [a1, a2]
    · have : ¬ lastI d.F (Go.Proofs.onF r.node r.fro) < 0 := by omega
      simp [a2, this]
  refine ⟨hR, ?_⟩
  unfold foreBd rForeB
  rw [hR]
  by_cases h0 : foreR b r = 0
  · rw [if_pos h0, if_pos h0]
    have hk : r.kind = 4 ∧ rightB r = true := by
      unfold foreR at h0
      by_cases h1 : ¬ r.kind = 4 ∨ ¬ foreE r = 0
      · rw [if_pos h1] at h0; omega
      · have h3 : r.kind = 4 := Decidable.not_not.1 fun e => h1 (.inl e)
        refine ⟨h3, ?_⟩
        rw [right_fore h3]
        exact Decidable.not_not.1 fun e => h1 (.inr e)
    have hk2 := hk.2
    unfold rightB rbareR at hk2
    rw [if_neg (show ¬ r.kind = 3 by omega), if_pos hk.1] at hk2
    simp only [Bool.and_eq_true, decide_eq_true_eq] at hk2
    refine ⟨h.q, h.a, ?_, h.p, h.n, fun x hx => ?_, h.ans⟩
    · have hdn : ((d.F.map fE).map (·.1)).Nodup := (h.f.map _).nodup_iff.1 ho.f
      have := perm_mset h.f (r.node, r.fro) (r.til, r.lev)
      refine this.trans (List.Perm.of_eq ?_)
      refine putF (g := fun r => (r.node, r.fro)) (v := fun r => (r.til, r.lev)) hdn r ?_
      rcases hF with ⟨a1, -, a3⟩ | ⟨m, hm, a1, -, a3⟩
      · exact .inl ⟨a1, a3⟩
      · exact .inr ⟨m, hm, a1, a3⟩
    · rcases mem_putL hx with rfl | hx
      · refine ⟨?_, hk.1, hk2.1⟩
        unfold spnOk
        simp only [Bool.and_eq_true, decide_eq_true_eq]
        exact ⟨hk2.2.2.2.2.2.1, hk2.2.2.2.1⟩
      · exact h.fine x hx
  · rw [if_neg h0, if_neg h0]
    exact h
theorem Tie.says {b : Bd} {d : RB} (h : Tie b d) (ho : Own b) (g x : Int) : sayV b g x = ((sayD d g x).y, (sayD d g x).u, (sayD d g x).t) := by
  unfold sayV
  rw [perm_mget h.a ho.a]
  have hdn : ((d.A.map aE).map (·.1)).Nodup := (h.a.map _).nodup_iff.1 ho.a
  unfold sayD
  cases hf : d.A.find? (Go.Proofs.onA g x) with
  | none =>
    have : mget (d.A.map aE) (g, x) = none := mget_out fun y hy e => by
      obtain ⟨r, hr, rfl⟩ := List.mem_map.1 hy
      have := List.find?_eq_none.1 hf r hr
      simp only [Prod.mk.injEq] at e
      simp [Go.Proofs.onA, e.1, e.2] at this
    rw [this]
    rfl
  | some r =>
    have h1 := List.mem_of_find?_eq_some hf
    have h2 := List.find?_some hf
    simp only [Go.Proofs.onA, Bool.and_eq_true, decide_eq_true_eq] at h2
    have : mget (d.A.map aE) (g, x) = some (r.yes, r.til) := (kget_iff hdn).2 (List.mem_map.2 ⟨r, h1, by simp [aE, h2.1, h2.2]⟩)
    rw [this]
    rfl
theorem Tie.off {b : Bd} {d : RB} (h : Tie b d) (ho : Own b) (g x a : Int) : offV b g x a = offD d g x a := by
  unfold offV offD
  rw [h.says ho]
theorem lvlD_isLvl {b : Bd} {d : RB} (h : Tie b d) (h0 : ∀ x ∈ b.F, 0 ≤ x.2.2) (g a : Int) : IsLvl b.F g a (lvlD d.F g a) := by
  have hh : ∀ r ∈ d.F, hitF g a (fE r) = hitD g a r := fun r hr => by
    simp only [hitF, hitD, inS, (h.fine r hr).1, Bool.true_and]
  have key : ∀ (l : List Rec), (∀ r ∈ l, r ∈ d.F) → ∀ L0 : Int, 0 ≤ L0 → (let L := l.foldl (fun L r => if hitD g a r then max L r.lev else L) L0; L0 ≤ L ∧ (∀ r ∈ l, hitD g a r = true → r.lev ≤ L) ∧ (L = L0 ∨ ∃ r ∈ l, hitD g a r = true ∧ r.lev = L)) := by
    intro l
    induction l with
    | nil => exact fun _ L0 _ => ⟨Int.le_refl _, by simp, .inl rfl⟩
    | cons r l ih =>
      intro hl L0 hL0
      simp only [List.foldl_cons]
      have hl' := fun x hx => hl x (List.mem_cons_of_mem _ hx)
      cases hr : hitD g a r with
      | false =>
        obtain ⟨h1, h2, h3⟩ := ih hl' L0 hL0
        refine ⟨h1, fun x hx hxx => ?_, ?_⟩
        · rcases List.mem_cons.1 hx with rfl | hx
          · rw [hr] at hxx; cases hxx
          · exact h2 x hx hxx
        · rcases h3 with h3 | ⟨x, hx, h3⟩
          · exact .inl h3
          · exact .inr ⟨x, List.mem_cons_of_mem _ hx, h3⟩
      | true =>
        obtain ⟨h1, h2, h3⟩ := ih hl' (max L0 r.lev) (by omega)
        simp only [if_true]
        refine ⟨by omega, fun x hx hxx => ?_, ?_⟩
        · rcases List.mem_cons.1 hx with rfl | hx
          · omega
          · exact h2 x hx hxx
        · rcases h3 with h3 | ⟨x, hx, h3⟩
          · by_cases hle : r.lev ≤ L0
            · exact .inl (by rw [h3]; omega)
            · exact .inr ⟨r, by simp, hr, by rw [h3]; omega⟩
          · exact .inr ⟨x, List.mem_cons_of_mem _ hx, h3⟩
  obtain ⟨h1, h2, h3⟩ := key d.F (fun _ h => h) 0 (Int.le_refl _)
  refine ⟨h1, fun x hx hxx => ?_, ?_⟩
  · obtain ⟨r, hr, rfl⟩ := List.mem_map.1 (h.f.mem_iff.1 hx)
    rw [hh r hr] at hxx
    exact h2 r hr hxx
  · rcases h3 with h3 | ⟨r, hr, h3, h4⟩
    · exact .inl h3
    · exact .inr ⟨fE r, h.f.mem_iff.2 (List.mem_map.2 ⟨r, hr, rfl⟩), by rw [hh r hr]; exact h3, h4⟩
end Go.Proofs
