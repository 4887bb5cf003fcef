/-
  Contracts of the functions that the law reaches, step by step.
-/
import Derived.Test.YtjagbfaklckagaaGreatBdW
import Derived.Test.YtjagbfaklckagaaGreatBeM
import Derived.Test.YtjagbfaklckagaaGreatBeA
namespace Go.Proofs
open Pk
set_option maxRecDepth 10000
def num0 (r : Rec) : Rec := { r with num := 0 }
def Bare (w w' : World) (u : Value) (l : List Rec) (i : Nat) : Prop := w'.ownsRow w.heap.size 38 15 u i (((l.take i).map num0).flatMap recC) ∧ Ext w w'
set_option maxHeartbeats 2000000 in
theorem rbare2_c {w : World} {v : Value} {l : List Rec} (h : Sl w 15 v l.length (l.flatMap recC)) (hb : l.length ≤ 1000) : FN Tryz.prog 59 [v] w fun e w' => ∃ u, e = .returned u ∧ Sl w' 15 u l.length ((l.map num0).flatMap recC) ∧ Ext w w' := by
  refine FN_enter Tryz.func59 rfl rfl (by kernel_rfl) ?_
  have hlen := fun ty W => h.isLen (P := Tryz.prog) (t := 51) (by simp) ty W
  simp
  refine WC_loop (fun k ρ ds w' => ∃ (i : Nat) (u : Value), k = l.length - i ∧ i ≤ l.length ∧ ρ 0 = v ∧ ρ 3 = u ∧ ρ 4 = i64 i ∧ ds = [] ∧ Bare w w' u l i) l.length ⟨0, .slice none 0 0, by simp, by simp, by simp, by simp, by simp, rfl, own_nothing _ _ _ _, Ext.refl _⟩ ?_
  rintro k ρ ds w1 ⟨i, u, rfl, hi, e0, e3, e4, rfl, ho, hE⟩
  by_cases hlt : i < l.length
  · have hq := List.getElem?_eq_getElem hlt
    have ix := fun W => rec_ix h i hlt W
    have r := rec_at (h.ext hE) hq
    obtain ⟨x, hx⟩ : ∃ x, x = l[i] := ⟨_, rfl⟩
    rw [← hx] at hq r
    have r0 := r 0 _ (by omega) rfl
    rw [Nat.add_zero] at r0
    simp [e0, e3, e4, hlen, hlt, ix, r0, r 1 _ (by omega) rfl, r 2 _ (by omega) rfl, r 3 _ (by omega) rfl, r 4 _ (by omega) rfl, r 5 _ (by omega) rfl, r 6 _ (by omega) rfl, r 7 _ (by omega) rfl, r 8 _ (by omega) rfl, r 9 _ (by omega) rfl, r 10 _ (by omega) rfl, r 11 _ (by omega) rfl, r 12 _ (by omega) rfl, r 13 _ (by omega) rfl, r 14 _ (by omega) rfl]
    obtain ⟨W, hW⟩ : ∃ W, W = w1.alloc (.cells (recC (num0 x)).toArray 38) := ⟨_, rfl⟩
    have hE2 : Ext w1 W := by rw [hW]; exact (Ext.refl _).alloc _
    have sW : W.heap.size = w1.heap.size + 1 := by rw [hW]; simp
    have hE3 := (Ext.refl W).alloc (.cells (recC (num0 x)).toArray 38)
    have hs := Sl.made W (recC (num0 x)) 38 15 1 rfl
    have z1 := hE.size
    have z2 := hE2.size
    have z3 := hE3.size
    have hge := fun hn => own_ge ho hn
    obtain ⟨u', w6, hr6, ho6, hM6, -⟩ := append_own (P := Tryz.prog) (t := 51) (ty := 51) (e := 38) (s := 15) (by simp) (by simp) (by kernel_rfl) (own_ext ho (hE2.trans hE3)) hs (by have := r_one [num0 x]; simpa using this) (by omega) (by omega)
    have hX6 : Ext w w6 := (((hE.trans (hE2.trans hE3)).mod (S := fun k => w.heap.size ≤ k)).trans (hM6.weaken fun k hk => by have := hge hk.1; omega)).ext fun _ h => h
    rw [hW] at hr6
    simp [recC, num0] at hr6
    simp [hr6, e0, e4]
    refine ⟨l.length - (i + 1), by omega, i + 1, rfl, by omega, by rw [wrap64 _ (by omega) (by omega)]; rfl, ?_, hX6⟩
    have e : ((l.take (i + 1)).map num0).flatMap recC = ((l.take i).map num0).flatMap recC ++ recC (num0 x) := by
      rw [List.take_add_one, hq]
      simp
    rw [e]; exact ho6
  · obtain rfl : i = l.length := by omega
    simp [e0, e3, e4, hlen]
    rw [List.take_length] at ho
    exact ⟨sl_of_own ho, hE⟩
def anyE (m : List Rec) (x : Rec) : Bool := m.any fun y => decide (x = y)
def recsB (l m : List Rec) : Bool := (l.all fun x => anyE m x) && decide (l.length = m.length)
def AllI (l m : List Rec) (i : Nat) : Prop := ∀ x ∈ l.take i, anyE m x = true
set_option maxHeartbeats 2000000 in
theorem records_c {w : World} {v v' : Value} {l m : List Rec} (h : Sl w 15 v l.length (l.flatMap recC)) (h' : Sl w 15 v' m.length (m.flatMap recC)) (hb : l.length ≤ 1000) (hb' : m.length ≤ 1000) :
    FN Tryz.prog 58 [v, v'] w fun e w' => e = .returned (.bool (recsB l m)) ∧ Ext w w' := by
  refine FN_enter Tryz.func58 rfl rfl (by kernel_rfl) ?_
  have hlen := fun ty W => h.isLen (P := Tryz.prog) (t := 51) (by simp) ty W
  have hlen' := fun ty W => h'.isLen (P := Tryz.prog) (t := 51) (by simp) ty W
  simp
  refine WC_loop (fun k ρ ds w' => ∃ (i : Nat), k = l.length - i ∧ i ≤ l.length ∧ ρ 0 = v ∧ ρ 1 = v' ∧ ρ 5 = i64 i ∧ ds = [] ∧ Ext w w' ∧ AllI l m i) l.length ⟨0, by simp, by simp, by simp, by simp, by simp, rfl, Ext.refl _, fun _ h => by cases h⟩ ?_
  rintro k ρ ds w1 ⟨i, rfl, hi, e0, e1, e5, rfl, hE, hall⟩
  by_cases hlt : i < l.length
  · have hq := List.getElem?_eq_getElem hlt
    have ix := fun W => rec_ix h i hlt W
    obtain ⟨x, hx⟩ : ∃ x, x = l[i] := ⟨_, rfl⟩
    rw [← hx] at hq
    simp [e0, e5, hlen, hlt]
    refine WC_loop (fun k ρ ds w' => ∃ (j : Nat), k = m.length - j ∧ j ≤ m.length ∧ ρ 0 = v ∧ ρ 1 = v' ∧ ρ 5 = i64 i ∧ ρ 6 = .bool (anyE (m.take j) x) ∧ ρ 7 = i64 j ∧ ds = [] ∧ Ext w w') m.length ⟨0, by simp, by simp, by simp [e0], by simp [e1], by simp [e5], by simp [anyE], by simp, rfl, hE⟩ ?_
    rintro k ρ ds w2 ⟨j, rfl, hj, f0, f1, f5, f6, f7, rfl, hE2⟩
    by_cases hjt : j < m.length
    · have hq' := List.getElem?_eq_getElem hjt
      have ix' := fun W => rec_ix h' j hjt W
      obtain ⟨y, hy⟩ : ∃ y, y = m[j] := ⟨_, rfl⟩
      rw [← hy] at hq'
      have etk : anyE (m.take (j + 1)) x = ((anyE (m.take j) x) || decide (x = y)) := by
        unfold anyE
        rw [List.take_add_one, hq', Option.toList_some, List.any_append]
        simp
      obtain ⟨B, hB⟩ : ∃ B, B = anyE (m.take j) x := ⟨_, rfl⟩
      rw [← hB] at f6 etk
      simp [f1, f7, hlen', hjt]
      refine WC_drawC 10 (.F 0 <| .F 1 <| .F 2 <| .F 3 <| .F 4 <| .F 5 <| .F 6 <| .F 7 <| .F 8 <| .F 9 <| .Z) (fun _ => false) rfl (by kernel_rfl) fun W hW => ?_
      have hWE : Ext w2 W := hW ▸ Ext.drew w2
      have r := rec_at (h.ext (hE2.trans hWE)) hq
      have r' := rec_at (h'.ext (hE2.trans hWE)) hq'
      have r0 := r 0 _ (by omega) rfl
      have r0' := r' 0 _ (by omega) rfl
      rw [Nat.add_zero] at r0 r0'
      have heq := eqRec x y W
      have hw1 : IntKind.i64.wrap ((j : Int) + 1) = j + 1 := wrap64 _ (by omega) (by omega)
      cases B with
      | true =>
        simp [f0, f1, f5, f6, f7, hw1]
        exact ⟨m.length - (j + 1), by omega, j + 1, rfl, by omega, by rw [etk]; rfl, by push_cast; rfl, hE2.trans hWE⟩
      | false =>
        simp [f0, f1, f5, f6, f7, ix, ix', r0, r0', r 1 _ (by omega) rfl, r 2 _ (by omega) rfl, r 3 _ (by omega) rfl, r 4 _ (by omega) rfl, r 5 _ (by omega) rfl, r 6 _ (by omega) rfl, r 7 _ (by omega) rfl, r 8 _ (by omega) rfl, r 9 _ (by omega) rfl, r 10 _ (by omega) rfl, r 11 _ (by omega) rfl, r 12 _ (by omega) rfl, r 13 _ (by omega) rfl, r 14 _ (by omega) rfl, r' 1 _ (by omega) rfl, r' 2 _ (by omega) rfl, r' 3 _ (by omega) rfl, r' 4 _ (by omega) rfl, r' 5 _ (by omega) rfl, r' 6 _ (by omega) rfl, r' 7 _ (by omega) rfl, r' 8 _ (by omega) rfl, r' 9 _ (by omega) rfl, r' 10 _ (by omega) rfl, r' 11 _ (by omega) rfl, r' 12 _ (by omega) rfl, r' 13 _ (by omega) rfl, r' 14 _ (by omega) rfl, heq, hw1]
        exact ⟨m.length - (j + 1), by omega, j + 1, rfl, by omega, by rw [etk]; simp, by push_cast; rfl, hE2.trans hWE⟩
    · obtain rfl : j = m.length := by omega
      rw [List.take_length] at f6
      have hw1 : IntKind.i64.wrap ((i : Int) + 1) = i + 1 := wrap64 _ (by omega) (by omega)
      cases hB : anyE m x with
      | true =>
        rw [hB] at f6
        simp [f0, f1, f5, f6, f7, hlen', hw1]
        refine ⟨l.length - (i + 1), by omega, i + 1, rfl, by omega, by push_cast; rfl, hE2, fun z hz => ?_⟩
        rw [List.take_add_one, hq, Option.toList_some] at hz
        rcases List.mem_append.1 hz with hz | hz
        · exact hall z hz
        · obtain rfl := List.mem_singleton.1 hz
          exact hB
      | false =>
        rw [hB] at f6
        simp [f1, f6, f7, hlen']
        refine ⟨?_, hE2⟩
        unfold recsB
        have : (l.all fun x => anyE m x) = false := by
          rw [List.all_eq_false]
          exact ⟨x, List.mem_of_getElem? hq, by rw [hB]; simp⟩
        rw [this]; rfl
  · obtain rfl : i = l.length := by omega
    simp [e0, e1, e5, hlen, hlen']
    refine ⟨?_, hE⟩
    unfold recsB
    have : (l.all fun x => anyE m x) = true := List.all_eq_true.2 fun x hx => hall x (by rw [List.take_length]; exact hx)
    rw [this]
    simp [beq_dec]
    omega
end Go.Proofs
namespace Go.Proofs
open Pk
set_option maxRecDepth 10000
instance : DecidableEq Qt := fun a b => decidable_of_iff (a.n = b.n ∧ a.g = b.g ∧ a.r = b.r ∧ a.a = b.a) (by
  obtain ⟨a1, a2, a3, a4⟩ := a
  obtain ⟨b1, b2, b3, b4⟩ := b
  simp)
theorem fQt : flatA Tryz.prog 109 = some [.int .u32, .int .u32, .int .u32, .int .u64] := by kernel_rfl
theorem qt_eq (a b : Qt) : eqcs (qC a) (qC b) = decide (a = b) := by
  obtain ⟨a1, a2, a3, a4⟩ := a
  obtain ⟨b1, b2, b3, b4⟩ := b
  rw [Bool.eq_iff_iff]
  simp [eqcs, eqc]
theorem neqQt (a b : Qt) (w : World) : (binOp .neq 109 (.agg (qC a).toArray) (.agg (qC b).toArray)).run Tryz.prog w = .ok (.bool !(decide (a = b))) w := by
  rw [← qt_eq]
  exact run_neq_flat w fQt _ _ rfl rfl
def rSame (b b' : RB) (R R' : List Qt) : Bool := (decide (R = R') && (decide (b.p = b'.p) && decide (b.n = b'.n))) && (recsB (b.A.map num0) (b'.A.map num0) && recsB b.F b'.F)
def SameI (R R' : List Qt) (i : Nat) : Prop := R.take i = R'.take i
set_option maxHeartbeats 4000000 in
theorem rsame_c {w : World} {V V' : RV} {b b' : RB} (h : RbAt w V b) (h' : RbAt w V' b') (hq : b.Q.length ≤ 1000) (hq' : b'.Q.length ≤ 1000) (ha : b.A.length ≤ 1000) (ha' : b'.A.length ≤ 1000) (hf : b.F.length ≤ 1000) (hf' : b'.F.length ≤ 1000) :
    FN Tryz.prog 21 [rbV V b, rbV V' b'] w fun e w' => ∃ R R', e = .returned (.bool (rSame b b' R R')) ∧ isOpen b.Q R ∧ isOpen b'.Q R' ∧ Ext w w' := by
  refine FN_enter Tryz.func21 rfl rfl (by kernel_rfl) ?_
  have rop := fun w (h : RbAt w V b) => ropen_c h hq
  have rop' := fun w (h : RbAt w V' b') => ropen_c h hq'
  have bar := fun w (h : RbAt w V b) => rbare2_c h.a ha
  have bar' := fun w (h : RbAt w V' b') => rbare2_c h.a ha'
  have hrf := fun w (h : RbAt w V b) (h' : RbAt w V' b') => records_c h.f h'.f hf hf'
  obtain ⟨qa, qc, aa, ac, fa, fc, rfl⟩ := h.open
  obtain ⟨qa', qc', aa', ac', fa', fc', rfl⟩ := h'.open
  simp
  have hE1 : Ext w ((w.alloc (.cells #[.slice qa b.Q.length qc, .slice aa b.A.length ac, .slice fa b.F.length fc, u64 b.p, u32 b.n] 53)).alloc (.cells #[.slice qa' b'.Q.length qc', .slice aa' b'.A.length ac', .slice fa' b'.F.length fc', u64 b'.p, u32 b'.n] 53)) := ((Ext.refl _).alloc _).alloc _
  have o1 : Blk ((w.alloc (.cells #[.slice qa b.Q.length qc, .slice aa b.A.length ac, .slice fa b.F.length fc, u64 b.p, u32 b.n] 53)).alloc (.cells #[.slice qa' b'.Q.length qc', .slice aa' b'.A.length ac', .slice fa' b'.F.length fc', u64 b'.p, u32 b'.n] 53)) w.heap.size [.slice qa b.Q.length qc, .slice aa b.A.length ac, .slice fa b.F.length fc, u64 b.p, u32 b.n] := (Blk.new w _ _).ext ((Ext.refl _).alloc _)
  have o2 : Blk ((w.alloc (.cells #[.slice qa b.Q.length qc, .slice aa b.A.length ac, .slice fa b.F.length fc, u64 b.p, u32 b.n] 53)).alloc (.cells #[.slice qa' b'.Q.length qc', .slice aa' b'.A.length ac', .slice fa' b'.F.length fc', u64 b'.p, u32 b'.n] 53)) (w.heap.size + 1) [.slice qa' b'.Q.length qc', .slice aa' b'.A.length ac', .slice fa' b'.F.length fc', u64 b'.p, u32 b'.n] := by
    have := Blk.new (w.alloc (.cells #[.slice qa b.Q.length qc, .slice aa b.A.length ac, .slice fa b.F.length fc, u64 b.p, u32 b.n] 53)) [.slice qa' b'.Q.length qc', .slice aa' b'.A.length ac', .slice fa' b'.F.length fc', u64 b'.p, u32 b'.n] 53
    simpa using this
  generalize ((w.alloc (.cells #[.slice qa b.Q.length qc, .slice aa b.A.length ac, .slice fa b.F.length fc, u64 b.p, u32 b.n] 53)).alloc (.cells #[.slice qa' b'.Q.length qc', .slice aa' b'.A.length ac', .slice fa' b'.F.length fc', u64 b'.p, u32 b'.n] 53)) = w1 at *
  refine WC_drawC 3 (.F 0 <| .F 2 <| .C 1 <| .Z) (fun _ => false) rfl (by kernel_rfl) fun W hW => ?_
  have hWE : Ext w1 W := hW ▸ Ext.drew w1
  have p1 := o1.ext hWE
  have p2 := o2.ext hWE
  simp [p1.cell 0 _ rfl, p1.cell 1 _ rfl, p1.cell 2 _ rfl, p1.cell 3 _ rfl, p1.cell 4 _ rfl, p2.cell 0 _ rfl, p2.cell 1 _ rfl, p2.cell 2 _ rfl, p2.cell 3 _ rfl, p2.cell 4 _ rfl]
  refine FN.mono (rop W (h.ext (hE1.trans hWE))) ?_
  rintro _ w3 ⟨u, R, rfl, hR, hu, hE3⟩
  simp
  refine KR_ext hE3 ?_
  simp
  refine FN.mono (rop' w3 (h'.ext ((hE1.trans hWE).trans hE3))) ?_
  rintro _ w4 ⟨u', R', rfl, hR', hu', hE4⟩
  have hX := ((hE1.trans hWE).trans hE3).trans hE4
  have hS := (sl_of_own hu).ext hE4
  have hS' := sl_of_own hu'
  have len := fun ty W => hS.isLen (P := Tryz.prog) (t := 50) (by simp) ty W
  have len' := fun ty W => hS'.isLen (P := Tryz.prog) (t := 50) (by simp) ty W
  have lR : R.length ≤ 1000 := by have := hR.2.length_eq; omega
  have lR' : R'.length ≤ 1000 := by have := hR'.2.length_eq; omega
  have q1 := (p1.ext hE3).ext hE4
  have q2 := (p2.ext hE3).ext hE4
  by_cases e1 : R.length = R'.length
  · have hb1 : ((R.length : Int) != (R'.length : Int)) = false := by simp; omega
    by_cases e2 : b.p = b'.p
    · by_cases e3 : b.n = b'.n
      · simp [len, len', hb1, q1.cell 3 _ rfl, q1.cell 4 _ rfl, q2.cell 3 _ rfl, q2.cell 4 _ rfl, e2, e3]
        refine WC_loop (fun k ρ ds w' => ∃ (i : Nat), k = R.length - i ∧ i ≤ R.length ∧ ρ 2 = ptr w.heap.size ∧ ρ 3 = ptr (w.heap.size + 1) ∧ ρ 5 = u ∧ ρ 6 = u' ∧ ρ 7 = i64 i ∧ ds = [] ∧ Ext w4 w' ∧ SameI R R' i) R.length ⟨0, by simp, by simp, by simp, by simp, by simp, by simp, by simp, rfl, Ext.refl _, rfl⟩ ?_
        rintro k ρ ds w5 ⟨i, rfl, hi, f2, f3, f5, f6, f7, rfl, hE5, hI⟩
        by_cases hlt : i < R.length
        · have hlt' : i < R'.length := by omega
          have hg := List.getElem?_eq_getElem hlt
          have hg' := List.getElem?_eq_getElem hlt'
          have ix := fun W => ques_ix hS i hlt W
          have ix' := fun W => ques_ix hS' i hlt' W
          obtain ⟨x, hx⟩ : ∃ x, x = R[i] := ⟨_, rfl⟩
          obtain ⟨y, hy⟩ : ∃ y, y = R'[i] := ⟨_, rfl⟩
          rw [← hx] at hg
          rw [← hy] at hg'
          simp [f5, f7, len, hlt]
          refine WC_drawC 8 (.F 0 <| .F 1 <| .F 2 <| .F 3 <| .F 4 <| .F 5 <| .F 6 <| .F 7 <| .Z) (fun _ => false) rfl (by kernel_rfl) fun W5 hW5 => ?_
          have hW5E : Ext w5 W5 := hW5 ▸ Ext.drew w5
          have r := ques_at (hS.ext (hE5.trans hW5E)) hg
          have r' := ques_at (hS'.ext (hE5.trans hW5E)) hg'
          have r0 := r 0 _ (by omega) rfl
          have r0' := r' 0 _ (by omega) rfl
          rw [Nat.add_zero] at r0 r0'
          have hneq := neqQt x y W5
          simp only [qC] at hneq
          by_cases hxy : x = y
          · rw [decide_eq_true hxy] at hneq
            have hw1 : IntKind.i64.wrap ((i : Int) + 1) = i + 1 := wrap64 _ (by omega) (by omega)
            simp [f2, f3, f5, f6, f7, ix, ix', r0, r0', r 1 _ (by omega) rfl, r 2 _ (by omega) rfl, r 3 _ (by omega) rfl, r' 1 _ (by omega) rfl, r' 2 _ (by omega) rfl, r' 3 _ (by omega) rfl, hneq, hw1]
            refine ⟨R.length - (i + 1), by omega, i + 1, rfl, by omega, by push_cast; rfl, hE5.trans hW5E, ?_⟩
            unfold SameI at hI ⊢
            rw [List.take_add_one, List.take_add_one, hI, hg, hg', hxy]
          · rw [decide_eq_false hxy] at hneq
            have hne : ¬ R = R' := fun e => hxy (by rw [hx, hy]; simp [e])
            have hd : rSame b b' R R' = false := by unfold rSame; rw [decide_eq_false hne]; rfl
            simp [f5, f6, f7, ix, ix', r0, r0', r 1 _ (by omega) rfl, r 2 _ (by omega) rfl, r 3 _ (by omega) rfl, r' 1 _ (by omega) rfl, r' 2 _ (by omega) rfl, r' 3 _ (by omega) rfl, hneq]
            exact ⟨R, R', hd, hR, hR', hX.trans (hE5.trans hW5E)⟩
        · have hRR : R = R' := by
            obtain rfl : i = R.length := by omega
            unfold SameI at hI
            rw [List.take_length, e1, List.take_length] at hI
            exact hI
          simp [f5, f7, len, hlt]
          refine WC_drawC 12 (.F 0 <| .F 1 <| .F 3 <| .F 4 <| .C 2 <| .C 5 <| .C 6 <| .F 7 <| .F 8 <| .F 9 <| .F 10 <| .F 11 <| .Z) (fun _ => false) rfl (by kernel_rfl) fun W5 hW5 => ?_
          have hW5E : Ext w5 W5 := hW5 ▸ Ext.drew w5
          have hX5 := hX.trans (hE5.trans hW5E)
          have t1 := (q1.ext hE5).ext hW5E
          have t2 := (q2.ext hE5).ext hW5E
          simp [f2, f3, t1.cell 1 _ rfl, t2.cell 1 _ rfl]
          refine FN.mono (bar W5 (h.ext hX5)) ?_
          rintro _ w6 ⟨v1, rfl, hv1, hE6⟩
          simp
          refine KR_ext hE6 ?_
          simp
          refine FN.mono (bar' w6 (h'.ext (hX5.trans hE6))) ?_
          rintro _ w7 ⟨v2, rfl, hv2, hE7⟩
          simp
          refine KR_ext hE7 ?_
          simp
          have hv1' := hv1.ext hE7
          have hr := records_c (l := b.A.map num0) (m := b'.A.map num0) (by simpa using hv1') (by simpa using hv2) (by simpa using ha) (by simpa using ha')
          refine FN.mono (hr) ?_
          rintro _ w8 ⟨rfl, hE8⟩
          simp
          refine KR_ext hE8 ?_
          have hX8 := (hX5.trans hE6).trans (hE7.trans hE8)
          have z1 := (t1.ext hE6).ext (hE7.trans hE8)
          have z2 := (t2.ext hE6).ext (hE7.trans hE8)
          cases hA : recsB (b.A.map num0) (b'.A.map num0) with
          | false =>
            have hd : rSame b b' R R' = false := by unfold rSame; rw [hA]; simp
            simp
            exact ⟨R, R', hd, hR, hR', hX8⟩
          | true =>
            simp [f2, f3, z1.cell 2 _ rfl, z2.cell 2 _ rfl]
            refine FN.mono (hrf w8 (h.ext hX8) (h'.ext hX8)) ?_
            rintro _ w9 ⟨rfl, hE9⟩
            have hd : rSame b b' R R' = recsB b.F b'.F := by unfold rSame; rw [hA, decide_eq_true hRR, decide_eq_true e2, decide_eq_true e3]; rfl
            simp
            exact ⟨R, R', hd.symm, hR, hR', hX8.trans hE9⟩
      · have hd : rSame b b' R R' = false := by unfold rSame; rw [decide_eq_false e3]; simp
        simp [bne_dec, len, len', hb1, q1.cell 3 _ rfl, q1.cell 4 _ rfl, q2.cell 3 _ rfl, q2.cell 4 _ rfl, e2, e3]
        exact ⟨R, R', hd, hR, hR', hX⟩
    · have hd : rSame b b' R R' = false := by unfold rSame; rw [decide_eq_false e2]; simp
      simp [bne_dec, len, len', hb1, q1.cell 3 _ rfl, q2.cell 3 _ rfl, e2]
      exact ⟨R, R', hd, hR, hR', hX⟩
  · have hne : ¬ R = R' := fun e => e1 (by rw [e])
    have hd : rSame b b' R R' = false := by unfold rSame; rw [decide_eq_false hne]; rfl
    have hb1 : ((R.length : Int) != (R'.length : Int)) = true := by simp; omega
    simp [len, len', hb1]
    exact ⟨R, R', hd, hR, hR', hX⟩
end Go.Proofs
namespace Go.Proofs
open Pk
set_option maxRecDepth 10000
theorem eqv_mem {κ ν : Type} [DecidableEq κ] {m m' : List (κ × ν)} (hn : (m'.map (·.1)).Nodup) : eqv m m' ↔ m.length = m'.length ∧ ∀ p ∈ m, p ∈ m' := by
  constructor
  · rintro ⟨h1, h2⟩
    exact ⟨h1, fun p hp => mget_mem (h2 p hp)⟩
  · rintro ⟨h1, h2⟩
    exact ⟨h1, fun p hp => mget_of_mem hn (h2 p hp)⟩
/-- Maps that are rows' entries are the same where the rows' parts are. -/
theorem eqv_rows {κ ν α : Type} [DecidableEq κ] {m m' : List (κ × ν)} {l l' : List α} {f : α → κ × ν} (hn : (m'.map (·.1)).Nodup) (h : m.Perm (l.map f)) (h' : m'.Perm (l'.map f)) :
    eqv m m' ↔ l.length = l'.length ∧ ∀ x ∈ l, ∃ y ∈ l', f y = f x := by
  rw [eqv_mem hn, h.length_eq, h'.length_eq, List.length_map, List.length_map]
  refine and_congr_right fun _ => ?_
  constructor
  · intro hh x hx
    have := h'.mem_iff.1 (hh (f x) (h.mem_iff.2 (List.mem_map.2 ⟨x, hx, rfl⟩)))
    obtain ⟨y, hy, e⟩ := List.mem_map.1 this
    exact ⟨y, hy, e⟩
  · intro hh p hp
    obtain ⟨x, hx, rfl⟩ := List.mem_map.1 (h.mem_iff.1 hp)
    obtain ⟨y, hy, e⟩ := hh x hx
    exact h'.mem_iff.2 (List.mem_map.2 ⟨y, hy, e⟩)
theorem recsB_iff (l m : List Rec) : recsB l m = true ↔ l.length = m.length ∧ ∀ x ∈ l, x ∈ m := by
  unfold recsB anyE
  rw [Bool.and_eq_true, List.all_eq_true, decide_eq_true_iff, and_comm]
  refine and_congr_right fun _ => forall_congr' fun x => imp_congr_right fun _ => ?_
  rw [List.any_eq_true]
  constructor
  · rintro ⟨y, hy, e⟩
    have e := of_decide_eq_true e
    rw [e]; exact hy
  · intro h
    exact ⟨x, h, decide_eq_true rfl⟩
theorem tell_det {r r' : Rec} (h : r.kind = 3 ∧ tellB r = r) (h' : r'.kind = 3 ∧ tellB r' = r') (e : aE r = aE r') : num0 r = num0 r' := by
  obtain ⟨h1, h2⟩ := h
  obtain ⟨h3, h4⟩ := h'
  rw [← h2, ← h4]
  simp only [aE, Prod.mk.injEq] at e
  obtain ⟨⟨e1, e2⟩, e3, e4⟩ := e
  simp [num0, tellB, h1, h3, e1, e2, e3, e4]
theorem fore_det {r r' : Rec} (h : r.kind = 4 ∧ foreB r = r) (h' : r'.kind = 4 ∧ foreB r' = r') (e : fE r = fE r') : r = r' := by
  obtain ⟨h1, h2⟩ := h
  obtain ⟨h3, h4⟩ := h'
  rw [← h2, ← h4]
  simp only [fE, Prod.mk.injEq] at e
  obtain ⟨⟨e1, e2⟩, e3, e4⟩ := e
  simp [foreB, h1, h3, e1, e2, e3, e4]
theorem perm_of_sub {α : Type} : ∀ (l l' : List α), l.Nodup → (∀ x ∈ l, x ∈ l') → l'.length ≤ l.length → l.Perm l'
  | [], l', _, _, h => by
    have : l' = [] := List.eq_nil_of_length_eq_zero (by simpa using h)
    rw [this]
  | x :: t, l', hn, hs, hl => by
    obtain ⟨hx, hn⟩ := List.nodup_cons.1 hn
    obtain ⟨s, u, rfl⟩ := List.append_of_mem (hs x List.mem_cons_self)
    have ht := perm_of_sub t (s ++ u) hn (fun y hy => by
      have h1 := hs y (List.mem_cons_of_mem _ hy)
      rcases List.mem_append.1 h1 with h1 | h1
      · exact List.mem_append_left _ h1
      · rcases List.mem_cons.1 h1 with rfl | h1
        · exact absurd hy hx
        · exact List.mem_append_right _ h1) (by simp at hl ⊢; omega)
    exact (ht.cons x).trans List.perm_middle.symm
theorem num_inj {b : RB} (hn : (b.Q.map (·.n)).Nodup) {x y : Qt} (hx : x ∈ b.Q) (hy : y ∈ b.Q) (e : x.n = y.n) : x = y := by
  obtain ⟨i, hi⟩ := List.mem_iff_getElem?.1 hx
  obtain ⟨j, hj⟩ := List.mem_iff_getElem?.1 hy
  have h1 : (b.Q.map (·.n))[i]? = some x.n := by rw [List.getElem?_map, hi]; rfl
  have h2 : (b.Q.map (·.n))[j]? = some x.n := by rw [List.getElem?_map, hj, e]; rfl
  have hl : i < (b.Q.map (·.n)).length := (List.getElem?_eq_some_iff.1 h1).1
  have hij := (List.getElem?_inj hl hn).1 (h1.trans h2.symm)
  rw [hij, hj] at hi
  cases hi; rfl
theorem open_same {b b' : RB} {i i' : Nat} (hb : NumOk b i) (hb' : NumOk b' i') {R R' : List Qt} (hR : isOpen b.Q R) (hR' : isOpen b'.Q R') : R = R' ↔ b.Q.length = b'.Q.length ∧ ∀ x ∈ b.Q, x ∈ b'.Q := by
  constructor
  · rintro rfl
    have hp := hR.2.symm.trans hR'.2
    exact ⟨hp.length_eq, fun x hx => hp.mem_iff.1 hx⟩
  · rintro ⟨hl, hm⟩
    have nd : b.Q.Nodup := List.Pairwise.of_map (·.n) (fun a b h e => h (by rw [e])) hb.nd
    have hp : b.Q.Perm b'.Q := perm_of_sub _ _ nd hm (by omega)
    have hRR : R.Perm R' := hR.2.trans (hp.trans hR'.2.symm)
    exact List.Perm.eq_of_pairwise (fun x y hx hy h1 h2 => num_inj hb'.nd ((hR.2.trans hp).mem_iff.1 hx) (hR'.2.mem_iff.1 hy) (by omega)) hR.1 hR'.1 hRR
theorem qE_inj {x y : Qt} (e : qE x = qE y) : x = y := by
  obtain ⟨a1, a2, a3, a4⟩ := x
  obtain ⟨b1, b2, b3, b4⟩ := y
  simp only [qE, Prod.mk.injEq] at e
  obtain ⟨⟨rfl, rfl⟩, rfl, rfl⟩ := e
  rfl
/-- The board and the document tell alike whether two are the same. -/
theorem Tie.same {B B' : Bd} {b b' : RB} {i i' : Nat} (h : Tie B b) (h' : Tie B' b') (ho' : Own B') (hb : NumOk b i) (hb' : NumOk b' i') {R R' : List Qt} (hR : isOpen b.Q R) (hR' : isOpen b'.Q R') : bSame B B' = rSame b b' R R' := by
  have hQ : eqv B.Q B'.Q ↔ R = R' := by
    rw [eqv_rows ho'.q h.q h'.q, open_same hb hb' hR hR']
    refine and_congr_right fun _ => forall_congr' fun x => imp_congr_right fun _ => ?_
    constructor
    · rintro ⟨y, hy, e⟩
      rw [← qE_inj e]; exact hy
    · intro hx
      exact ⟨x, hx, rfl⟩
  have hA : eqv B.A B'.A ↔ recsB (b.A.map num0) (b'.A.map num0) = true := by
    rw [eqv_rows ho'.a h.a h'.a, recsB_iff, List.length_map, List.length_map]
    refine and_congr_right fun _ => ?_
    constructor
    · intro hh z hz
      obtain ⟨x, hx, rfl⟩ := List.mem_map.1 hz
      obtain ⟨y, hy, e⟩ := hh x hx
      exact List.mem_map.2 ⟨y, hy, tell_det (h'.ans y hy) (h.ans x hx) e⟩
    · intro hh x hx
      obtain ⟨y, hy, e⟩ := List.mem_map.1 (hh (num0 x) (List.mem_map.2 ⟨x, hx, rfl⟩))
      refine ⟨y, hy, ?_⟩
      have e1 : y.node = x.node := by have := congrArg Rec.node e; exact this
      have e2 : y.reg = x.reg := by have := congrArg Rec.reg e; exact this
      have e3 : y.yes = x.yes := by have := congrArg Rec.yes e; exact this
      have e4 : y.til = x.til := by have := congrArg Rec.til e; exact this
      simp only [aE, e1, e2, e3, e4]
  have hF : eqv B.F B'.F ↔ recsB b.F b'.F = true := by
    rw [eqv_rows ho'.f h.f h'.f, recsB_iff]
    refine and_congr_right fun _ => forall_congr' fun x => imp_congr_right fun hx => ?_
    constructor
    · rintro ⟨y, hy, e⟩
      have hd := fore_det ⟨(h'.fine y hy).2.1, (h'.fine y hy).2.2⟩ ⟨(h.fine x hx).2.1, (h.fine x hx).2.2⟩ e
      rw [← hd]; exact hy
    · intro hx
      exact ⟨x, hx, rfl⟩
  unfold bSame rSame
  rw [h.p, h'.p, h.n, h'.n, Bool.eq_iff_iff]
  simp only [Bool.and_eq_true, decide_eq_true_eq]
  rw [hQ, hA, hF]
  constructor
  · rintro ⟨e1, e2, e3, e4, e5⟩
    exact ⟨⟨e3, e1, e2⟩, e4, e5⟩
  · rintro ⟨⟨e3, e1, e2⟩, e4, e5⟩
    exact ⟨e1, e2, e3, e4, e5⟩
end Go.Proofs
