/-
  Contracts of the functions that the law reaches, step by step.
-/
import Derived.Test.YtjagbfaklckagaaGreatBdA
namespace Go.Proofs
open Pk
set_option maxRecDepth 10000
theorem neqQ (a b : PK) (w : World) : (binOp .neq 77 (ewQ a) (ewQ b)).run Tryz.prog w = .ok (.bool !(decide (a = b))) w := by
  rw [← two_eq .u32 .u64 a b]
  exact run_neq_flat w fQues _ _ rfl rfl
theorem neqA (a b : Bool × Int) (w : World) : (binOp .neq 82 (ewA a) (ewA b)).run Tryz.prog w = .ok (.bool !(decide (a = b))) w := by
  rw [← ans_eq a b]
  exact run_neq_flat w fAns _ _ rfl rfl
theorem neqF (a b : PK) (w : World) : (binOp .neq 87 (ewF a) (ewF b)).run Tryz.prog w = .ok (.bool !(decide (a = b))) w := by
  rw [← two_eq .u64 .u8 a b]
  exact run_neq_flat w fFore _ _ rfl rfl
theorem Fclone_c {w : World} {r : Nat} {m : List (PK × PK)} (h : MapAt ekK ewF w r m) : FN Tryz.prog 55 [.map (some r)] w fun e w' => ∃ r', e = .returned (.map (some r')) ∧ MapAt ekK ewF w' r' m ∧ Ext w w' ∧ w.heap.size ≤ r' ∧ r' < w'.heap.size := by
  refine FN_enter Tryz.func55 rfl rfl (by kernel_rfl) ?_
  obtain ⟨o, h1, h2, h3⟩ := h.clone (P := Tryz.prog)
  simp
  refine FN_extern (e := Extern.MapsClone.clone) Tryz.func86 rfl (by kernel_rfl) (by kernel_rfl) (by kernel_rfl) (h2 66) ?_
  simp [Instr.typeAssert]
  exact ⟨h3, (Ext.refl w).alloc _⟩
theorem Qclone_c {w : World} {r : Nat} {m : List (PK × PK)} (h : MapAt ekP ewQ w r m) : FN Tryz.prog 56 [.map (some r)] w fun e w' => ∃ r', e = .returned (.map (some r')) ∧ MapAt ekP ewQ w' r' m ∧ Ext w w' ∧ w.heap.size ≤ r' ∧ r' < w'.heap.size := by
  refine FN_enter Tryz.func56 rfl rfl (by kernel_rfl) ?_
  obtain ⟨o, h1, h2, h3⟩ := h.clone (P := Tryz.prog)
  simp
  refine FN_extern (e := Extern.MapsClone.clone) Tryz.func86 rfl (by kernel_rfl) (by kernel_rfl) (by kernel_rfl) (h2 67) ?_
  simp [Instr.typeAssert]
  exact ⟨h3, (Ext.refl w).alloc _⟩
theorem Aclone_c {w : World} {r : Nat} {m : List (PK × (Bool × Int))} (h : MapAt ekP ewA w r m) : FN Tryz.prog 57 [.map (some r)] w fun e w' => ∃ r', e = .returned (.map (some r')) ∧ MapAt ekP ewA w' r' m ∧ Ext w w' ∧ w.heap.size ≤ r' ∧ r' < w'.heap.size := by
  refine FN_enter Tryz.func57 rfl rfl (by kernel_rfl) ?_
  obtain ⟨o, h1, h2, h3⟩ := h.clone (P := Tryz.prog)
  simp
  refine FN_extern (e := Extern.MapsClone.clone) Tryz.func86 rfl (by kernel_rfl) (by kernel_rfl) (by kernel_rfl) (h2 68) ?_
  simp [Instr.typeAssert]
  exact ⟨h3, (Ext.refl w).alloc _⟩
/-! ### maps.Equal, of keys and values of two cells each -/
def FAll (m m' : List (PK × PK)) (idxs : List Nat) : Prop := ∀ i ∈ idxs, ∀ p, m[i]? = some p → mget m' p.1 = some p.2
set_option maxHeartbeats 2000000 in
theorem Fequal_c {w : World} {r r' : Nat} {m m' : List (PK × PK)} (h : MapAt ekK ewF w r m) (h' : MapAt ekK ewF w r' m') :
    FN Tryz.prog 62 [.map (some r), .map (some r')] w fun e w' => e = .returned (.bool (decide (eqv m m'))) ∧ Ext w w' := by
  refine FN_enter Tryz.func62 rfl rfl (by kernel_rfl) ?_
  have l1 := fun ty W (hW : MapAt ekK ewF W r m) => hW.len (P := Tryz.prog) (T := 66) (by simp) ty
  have l2 := fun ty W (hW : MapAt ekK ewF W r' m') => hW.len (P := Tryz.prog) (T := 66) (by simp) ty
  simp [l1 _ w h, l2 _ w h']
  by_cases hl : m.length = m'.length
  · have hlb : ((m.length : Int) != (m'.length : Int)) = false := by simp; omega
    simp [hlb]
    obtain ⟨o, hr, hi⟩ := h.range (P := Tryz.prog) tmFs
    simp [hr]
    have he := (Ext.refl w).alloc o
    have h2' := h'.ext he
    have hlt := h.lt
    have hlt' := h'.lt
    obtain ⟨b, hb⟩ : ∃ b, b = w.heap.size := ⟨_, rfl⟩
    rw [← hb] at hi ⊢
    generalize (w.alloc o) = w2 at *
    refine WC_loop (fun k ρ ds w' => ∃ idxs, k + idxs.length = m.length ∧ ρ 1 = .map (some r') ∧ ρ 15 = ptr b ∧ ds = [] ∧ MIter ekK ewF w' b r m idxs ∧ MapAt ekK ewF w' r' m' ∧ Ext w w' ∧ FAll m m' idxs) m.length ⟨[], by simp, by simp, by simp, rfl, hi, h2', he, fun _ h => by cases h⟩ ?_
    rintro k ρ ds w3 ⟨idxs, hk, e1, e15, rfl, hI, hm', hE, hall⟩
    rcases hI.next (P := Tryz.prog) 0 with ⟨hp, hrun⟩ | ⟨i, p, w4, hpi, hni, hrun, hI4, hM4, hent, hs4⟩
    · simp [e15, hrun]
      exact ⟨eqv_of hl idxs hp hall, hE⟩
    · have hm4 := hm'.mod hM4 (by omega)
      have hE4 : Ext w w4 := ((hE.mod (S := fun k => w.heap.size ≤ k)).trans (hM4.weaken fun i hi => by omega)).ext fun _ h => h
      have hb4 := hI4.bound
      simp only [List.length_append, List.length_singleton] at hb4
      have hmem : p ∈ m := List.mem_of_getElem? hpi
      obtain ⟨⟨k1, k2⟩, x1, x2⟩ := p
      simp [ekK, ewF, keyC, foreVC] at hent
      have hE5 : Ext w4 ((w4.alloc (.cells #[u32 k1, u64 k2] 84)).alloc (.cells #[u64 x1, u8 x2] 87)) := ((Ext.refl _).alloc _).alloc _
      have bk : Blk ((w4.alloc (.cells #[u32 k1, u64 k2] 84)).alloc (.cells #[u64 x1, u8 x2] 87)) w4.heap.size [u32 k1, u64 k2] := (Blk.new w4 _ _).ext ((Ext.refl _).alloc _)
      have bv : Blk ((w4.alloc (.cells #[u32 k1, u64 k2] 84)).alloc (.cells #[u64 x1, u8 x2] 87)) (w4.heap.size + 1) [u64 x1, u8 x2] := by
        have := Blk.new (w4.alloc (.cells #[u32 k1, u64 k2] 84)) [u64 x1, u8 x2] 87
        simpa using this
      have hm5 := hm4.ext hE5
      have hI5 := hI4.mod (S := fun _ => False) hE5.mod _root_.id _root_.id
      have hX := hE4.trans hE5
      simp [e15, hrun, hent]
      generalize ((w4.alloc (.cells #[u32 k1, u64 k2] 84)).alloc (.cells #[u64 x1, u8 x2] 87)) = w5 at *
      have hlk := hm5.lookup (P := Tryz.prog) kKey tmFs (zF w5) (k1, k2) true
      rw [if_pos rfl, show ekK (k1, k2) = .agg #[u32 k1, u64 k2] from rfl] at hlk
      have hgd : ∀ u : PK, ((some u).map ewF).getD (ewF (0, 0)) = .agg #[u64 u.1, u8 u.2] := fun u => rfl
      have hgn : ((none : Option PK).map ewF).getD (ewF (0, 0)) = .agg #[u64 ((0, 0) : PK).1, u8 ((0, 0) : PK).2] := rfl
      cases hg : mget m' (k1, k2) with
      | none =>
        rw [hg, hgn] at hlk
        simp [e1, hlk]
        have hE6 : ∀ z, Ext w5 (w5.alloc z) := fun z => (Ext.refl _).alloc z
        refine ⟨fun hq => ?_, hX.trans (hE6 _)⟩
        have := hq.2 _ hmem
        rw [hg] at this; cases this
      | some u =>
        rw [hg, hgd] at hlk
        have hE6 : Ext w5 (w5.alloc (.cells #[u64 u.1, u8 u.2] 87)) := (Ext.refl _).alloc _
        have hI6 := hI5.mod (S := fun _ => False) hE6.mod _root_.id _root_.id
        have hm6 := hm5.ext hE6
        have hne := neqF (x1, x2) u (w5.alloc (.cells #[u64 u.1, u8 u.2] 87))
        rw [show ewF (x1, x2) = .agg #[u64 x1, u8 x2] from rfl, show ewF u = .agg #[u64 u.1, u8 u.2] from rfl] at hne
        by_cases hv : (x1, x2) = u
        · rw [decide_eq_true hv] at hne
          simp [e1, e15, bv.cell 0 _ rfl, bv.cell 1 _ rfl, hlk, hne]
          refine ⟨k - 1, by omega, idxs ++ [i], by simp; omega, hI6, hm6, hX.trans hE6, ?_⟩
          intro j hj q hq
          simp at hj
          rcases hj with hj | rfl
          · exact hall j hj q hq
          · rw [hpi] at hq; cases hq
            rw [hg, ← hv]
        · rw [decide_eq_false hv] at hne
          simp [e1, bv.cell 0 _ rfl, bv.cell 1 _ rfl, hlk, hne]
          refine ⟨fun hq => ?_, hX.trans hE6⟩
          have := hq.2 _ hmem
          rw [hg] at this; cases this
          exact hv rfl
  · have hlb : ((m.length : Int) != (m'.length : Int)) = true := by simp; omega
    simp [hlb]
    exact ⟨fun h => hl h.1, Ext.refl _⟩
/-! ### maps.Equal, of keys and values of two cells each -/
def QAll (m m' : List (PK × PK)) (idxs : List Nat) : Prop := ∀ i ∈ idxs, ∀ p, m[i]? = some p → mget m' p.1 = some p.2
set_option maxHeartbeats 2000000 in
theorem Qequal_c {w : World} {r r' : Nat} {m m' : List (PK × PK)} (h : MapAt ekP ewQ w r m) (h' : MapAt ekP ewQ w r' m') :
    FN Tryz.prog 60 [.map (some r), .map (some r')] w fun e w' => e = .returned (.bool (decide (eqv m m'))) ∧ Ext w w' := by
  refine FN_enter Tryz.func60 rfl rfl (by kernel_rfl) ?_
  have l1 := fun ty W (hW : MapAt ekP ewQ W r m) => hW.len (P := Tryz.prog) (T := 67) (by simp) ty
  have l2 := fun ty W (hW : MapAt ekP ewQ W r' m') => hW.len (P := Tryz.prog) (T := 67) (by simp) ty
  simp [l1 _ w h, l2 _ w h']
  by_cases hl : m.length = m'.length
  · have hlb : ((m.length : Int) != (m'.length : Int)) = false := by simp; omega
    simp [hlb]
    obtain ⟨o, hr, hi⟩ := h.range (P := Tryz.prog) tmQ
    simp [hr]
    have he := (Ext.refl w).alloc o
    have h2' := h'.ext he
    have hlt := h.lt
    have hlt' := h'.lt
    obtain ⟨b, hb⟩ : ∃ b, b = w.heap.size := ⟨_, rfl⟩
    rw [← hb] at hi ⊢
    generalize (w.alloc o) = w2 at *
    refine WC_loop (fun k ρ ds w' => ∃ idxs, k + idxs.length = m.length ∧ ρ 1 = .map (some r') ∧ ρ 15 = ptr b ∧ ds = [] ∧ MIter ekP ewQ w' b r m idxs ∧ MapAt ekP ewQ w' r' m' ∧ Ext w w' ∧ QAll m m' idxs) m.length ⟨[], by simp, by simp, by simp, rfl, hi, h2', he, fun _ h => by cases h⟩ ?_
    rintro k ρ ds w3 ⟨idxs, hk, e1, e15, rfl, hI, hm', hE, hall⟩
    rcases hI.next (P := Tryz.prog) 0 with ⟨hp, hrun⟩ | ⟨i, p, w4, hpi, hni, hrun, hI4, hM4, hent, hs4⟩
    · simp [e15, hrun]
      exact ⟨eqv_of hl idxs hp hall, hE⟩
    · have hm4 := hm'.mod hM4 (by omega)
      have hE4 : Ext w w4 := ((hE.mod (S := fun k => w.heap.size ≤ k)).trans (hM4.weaken fun i hi => by omega)).ext fun _ h => h
      have hb4 := hI4.bound
      simp only [List.length_append, List.length_singleton] at hb4
      have hmem : p ∈ m := List.mem_of_getElem? hpi
      obtain ⟨⟨k1, k2⟩, x1, x2⟩ := p
      simp [ekP, ewQ, pairC, quesC] at hent
      have hE5 : Ext w4 ((w4.alloc (.cells #[u32 k1, u32 k2] 71)).alloc (.cells #[u32 x1, u64 x2] 77)) := ((Ext.refl _).alloc _).alloc _
      have bk : Blk ((w4.alloc (.cells #[u32 k1, u32 k2] 71)).alloc (.cells #[u32 x1, u64 x2] 77)) w4.heap.size [u32 k1, u32 k2] := (Blk.new w4 _ _).ext ((Ext.refl _).alloc _)
      have bv : Blk ((w4.alloc (.cells #[u32 k1, u32 k2] 71)).alloc (.cells #[u32 x1, u64 x2] 77)) (w4.heap.size + 1) [u32 x1, u64 x2] := by
        have := Blk.new (w4.alloc (.cells #[u32 k1, u32 k2] 71)) [u32 x1, u64 x2] 77
        simpa using this
      have hm5 := hm4.ext hE5
      have hI5 := hI4.mod (S := fun _ => False) hE5.mod _root_.id _root_.id
      have hX := hE4.trans hE5
      simp [e15, hrun, hent]
      generalize ((w4.alloc (.cells #[u32 k1, u32 k2] 71)).alloc (.cells #[u32 x1, u64 x2] 77)) = w5 at *
      have hlk := hm5.lookup (P := Tryz.prog) kPair tmQ (zQ w5) (k1, k2) true
      rw [if_pos rfl, show ekP (k1, k2) = .agg #[u32 k1, u32 k2] from rfl] at hlk
      have hgd : ∀ u : PK, ((some u).map ewQ).getD (ewQ (0, 0)) = .agg #[u32 u.1, u64 u.2] := fun u => rfl
      have hgn : ((none : Option PK).map ewQ).getD (ewQ (0, 0)) = .agg #[u32 ((0, 0) : PK).1, u64 ((0, 0) : PK).2] := rfl
      cases hg : mget m' (k1, k2) with
      | none =>
        rw [hg, hgn] at hlk
        simp [e1, hlk]
        have hE6 : ∀ z, Ext w5 (w5.alloc z) := fun z => (Ext.refl _).alloc z
        refine ⟨fun hq => ?_, hX.trans (hE6 _)⟩
        have := hq.2 _ hmem
        rw [hg] at this; cases this
      | some u =>
        rw [hg, hgd] at hlk
        have hE6 : Ext w5 (w5.alloc (.cells #[u32 u.1, u64 u.2] 77)) := (Ext.refl _).alloc _
        have hI6 := hI5.mod (S := fun _ => False) hE6.mod _root_.id _root_.id
        have hm6 := hm5.ext hE6
        have hne := neqQ (x1, x2) u (w5.alloc (.cells #[u32 u.1, u64 u.2] 77))
        rw [show ewQ (x1, x2) = .agg #[u32 x1, u64 x2] from rfl, show ewQ u = .agg #[u32 u.1, u64 u.2] from rfl] at hne
        by_cases hv : (x1, x2) = u
        · rw [decide_eq_true hv] at hne
          simp [e1, e15, bv.cell 0 _ rfl, bv.cell 1 _ rfl, hlk, hne]
          refine ⟨k - 1, by omega, idxs ++ [i], by simp; omega, hI6, hm6, hX.trans hE6, ?_⟩
          intro j hj q hq
          simp at hj
          rcases hj with hj | rfl
          · exact hall j hj q hq
          · rw [hpi] at hq; cases hq
            rw [hg, ← hv]
        · rw [decide_eq_false hv] at hne
          simp [e1, bv.cell 0 _ rfl, bv.cell 1 _ rfl, hlk, hne]
          refine ⟨fun hq => ?_, hX.trans hE6⟩
          have := hq.2 _ hmem
          rw [hg] at this; cases this
          exact hv rfl
  · have hlb : ((m.length : Int) != (m'.length : Int)) = true := by simp; omega
    simp [hlb]
    exact ⟨fun h => hl h.1, Ext.refl _⟩
/-! ### maps.Equal, of keys and values of two cells each -/
def AAll (m m' : List (PK × (Bool × Int))) (idxs : List Nat) : Prop := ∀ i ∈ idxs, ∀ p, m[i]? = some p → mget m' p.1 = some p.2
set_option maxHeartbeats 2000000 in
theorem Aequal_c {w : World} {r r' : Nat} {m m' : List (PK × (Bool × Int))} (h : MapAt ekP ewA w r m) (h' : MapAt ekP ewA w r' m') :
    FN Tryz.prog 61 [.map (some r), .map (some r')] w fun e w' => e = .returned (.bool (decide (eqv m m'))) ∧ Ext w w' := by
  refine FN_enter Tryz.func61 rfl rfl (by kernel_rfl) ?_
  have l1 := fun ty W (hW : MapAt ekP ewA W r m) => hW.len (P := Tryz.prog) (T := 68) (by simp) ty
  have l2 := fun ty W (hW : MapAt ekP ewA W r' m') => hW.len (P := Tryz.prog) (T := 68) (by simp) ty
  simp [l1 _ w h, l2 _ w h']
  by_cases hl : m.length = m'.length
  · have hlb : ((m.length : Int) != (m'.length : Int)) = false := by simp; omega
    simp [hlb]
    obtain ⟨o, hr, hi⟩ := h.range (P := Tryz.prog) tmA
    simp [hr]
    have he := (Ext.refl w).alloc o
    have h2' := h'.ext he
    have hlt := h.lt
    have hlt' := h'.lt
    obtain ⟨b, hb⟩ : ∃ b, b = w.heap.size := ⟨_, rfl⟩
    rw [← hb] at hi ⊢
    generalize (w.alloc o) = w2 at *
    refine WC_loop (fun k ρ ds w' => ∃ idxs, k + idxs.length = m.length ∧ ρ 1 = .map (some r') ∧ ρ 15 = ptr b ∧ ds = [] ∧ MIter ekP ewA w' b r m idxs ∧ MapAt ekP ewA w' r' m' ∧ Ext w w' ∧ AAll m m' idxs) m.length ⟨[], by simp, by simp, by simp, rfl, hi, h2', he, fun _ h => by cases h⟩ ?_
    rintro k ρ ds w3 ⟨idxs, hk, e1, e15, rfl, hI, hm', hE, hall⟩
    rcases hI.next (P := Tryz.prog) 0 with ⟨hp, hrun⟩ | ⟨i, p, w4, hpi, hni, hrun, hI4, hM4, hent, hs4⟩
    · simp [e15, hrun]
      exact ⟨eqv_of hl idxs hp hall, hE⟩
    · have hm4 := hm'.mod hM4 (by omega)
      have hE4 : Ext w w4 := ((hE.mod (S := fun k => w.heap.size ≤ k)).trans (hM4.weaken fun i hi => by omega)).ext fun _ h => h
      have hb4 := hI4.bound
      simp only [List.length_append, List.length_singleton] at hb4
      have hmem : p ∈ m := List.mem_of_getElem? hpi
      obtain ⟨⟨k1, k2⟩, x1, x2⟩ := p
      simp [ekP, ewA, pairC, ansC] at hent
      have hE5 : Ext w4 ((w4.alloc (.cells #[u32 k1, u32 k2] 71)).alloc (.cells #[.bool x1, u64 x2] 82)) := ((Ext.refl _).alloc _).alloc _
      have bk : Blk ((w4.alloc (.cells #[u32 k1, u32 k2] 71)).alloc (.cells #[.bool x1, u64 x2] 82)) w4.heap.size [u32 k1, u32 k2] := (Blk.new w4 _ _).ext ((Ext.refl _).alloc _)
      have bv : Blk ((w4.alloc (.cells #[u32 k1, u32 k2] 71)).alloc (.cells #[.bool x1, u64 x2] 82)) (w4.heap.size + 1) [.bool x1, u64 x2] := by
        have := Blk.new (w4.alloc (.cells #[u32 k1, u32 k2] 71)) [.bool x1, u64 x2] 82
        simpa using this
      have hm5 := hm4.ext hE5
      have hI5 := hI4.mod (S := fun _ => False) hE5.mod _root_.id _root_.id
      have hX := hE4.trans hE5
      simp [e15, hrun, hent]
      generalize ((w4.alloc (.cells #[u32 k1, u32 k2] 71)).alloc (.cells #[.bool x1, u64 x2] 82)) = w5 at *
      have hlk := hm5.lookup (P := Tryz.prog) kPair tmA (zA w5) (k1, k2) true
      rw [if_pos rfl, show ekP (k1, k2) = .agg #[u32 k1, u32 k2] from rfl] at hlk
      have hgd : ∀ u : (Bool × Int), ((some u).map ewA).getD (ewA (false, 0)) = .agg #[.bool u.1, u64 u.2] := fun u => rfl
      have hgn : ((none : Option (Bool × Int)).map ewA).getD (ewA (false, 0)) = .agg #[.bool ((false, 0) : (Bool × Int)).1, u64 ((false, 0) : (Bool × Int)).2] := rfl
      cases hg : mget m' (k1, k2) with
      | none =>
        rw [hg, hgn] at hlk
        simp [e1, hlk]
        have hE6 : ∀ z, Ext w5 (w5.alloc z) := fun z => (Ext.refl _).alloc z
        refine ⟨fun hq => ?_, hX.trans (hE6 _)⟩
        have := hq.2 _ hmem
        rw [hg] at this; cases this
      | some u =>
        rw [hg, hgd] at hlk
        have hE6 : Ext w5 (w5.alloc (.cells #[.bool u.1, u64 u.2] 82)) := (Ext.refl _).alloc _
        have hI6 := hI5.mod (S := fun _ => False) hE6.mod _root_.id _root_.id
        have hm6 := hm5.ext hE6
        have hne := neqA (x1, x2) u (w5.alloc (.cells #[.bool u.1, u64 u.2] 82))
        rw [show ewA (x1, x2) = .agg #[.bool x1, u64 x2] from rfl, show ewA u = .agg #[.bool u.1, u64 u.2] from rfl] at hne
        by_cases hv : (x1, x2) = u
        · rw [decide_eq_true hv] at hne
          simp [e1, e15, bv.cell 0 _ rfl, bv.cell 1 _ rfl, hlk, hne]
          refine ⟨k - 1, by omega, idxs ++ [i], by simp; omega, hI6, hm6, hX.trans hE6, ?_⟩
          intro j hj q hq
          simp at hj
          rcases hj with hj | rfl
          · exact hall j hj q hq
          · rw [hpi] at hq; cases hq
            rw [hg, ← hv]
        · rw [decide_eq_false hv] at hne
          simp [e1, bv.cell 0 _ rfl, bv.cell 1 _ rfl, hlk, hne]
          refine ⟨fun hq => ?_, hX.trans hE6⟩
          have := hq.2 _ hmem
          rw [hg] at this; cases this
          exact hv rfl
  · have hlb : ((m.length : Int) != (m'.length : Int)) = true := by simp; omega
    simp [hlb]
    exact ⟨fun h => hl h.1, Ext.refl _⟩
end Go.Proofs
namespace Go.Proofs
open Pk
set_option maxRecDepth 10000
set_option maxHeartbeats 2000000 in
theorem copy_c {w : World} {t rF rQ rA : Nat} {b : Bd} (h : BdAt w t rF rQ rA b) : FN Tryz.prog 20 [ptr t] w fun e w' => ∃ t' rF' rQ' rA', e = .returned (ptr t') ∧ BdAt w' t' rF' rQ' rA' b ∧ Ext w w' ∧ ∀ k, Foot t' rF' rQ' rA' k → w.heap.size ≤ k := by
  refine FN_enter Tryz.func20 rfl rfl (by kernel_rfl) ?_
  simp
  refine FN.mono (none_c h) ?_
  rintro _ w1 ⟨rfl, rfl⟩
  simp
  refine WC_drawC 23 (.F 0 <| .F 1 <| .F 2 <| .F 3 <| .F 5 <| .F 6 <| .F 7 <| .F 8 <| .F 10 <| .F 11 <| .F 12 <| .F 13 <| .F 15 <| .F 16 <| .F 17 <| .F 18 <| .F 19 <| .F 20 <| .F 21 <| .F 22 <| .C 4 <| .C 9 <| .C 14 <| .Z) (fun _ => false) rfl (by kernel_rfl) fun W hW => ?_
  have hWE : Ext w1 W := hW ▸ Ext.drew w1
  have h2 := h.ext hWE
  simp [h2.blk.cell 0 _ rfl, h2.blk.cell 1 _ rfl, h2.blk.cell 2 _ rfl, h2.blk.cell 3 _ rfl, h2.blk.cell 4 _ rfl]
  refine FN.mono (Fclone_c h2.mF) ?_
  rintro _ w3 ⟨r1, rfl, m1, hE3, n1, l1⟩
  simp
  refine KR_ext hE3 ?_
  have h3 := h2.ext hE3
  simp
  refine FN.mono (Qclone_c h3.mQ) ?_
  rintro _ w4 ⟨r2, rfl, m2, hE4, n2, l2⟩
  simp
  refine KR_ext hE4 ?_
  have h4 := h3.ext hE4
  simp
  refine FN.mono (Aclone_c h4.mA) ?_
  rintro _ w5 ⟨r3, rfl, m3, hE5, n3, l3⟩
  simp
  refine KR_ext hE5 ?_
  simp
  have s2 := hWE.size
  have s3 := hE3.size
  have s4 := hE4.size
  have s5 := hE5.size
  have hE6 : Ext w5 (w5.alloc (.cells #[.map (some r1), .map (some r2), .map (some r3), u64 b.p, u32 b.n] 70)) := (Ext.refl _).alloc _
  refine ⟨r1, r2, r3, ⟨Blk.new w5 _ _, ((m1.ext hE4).ext hE5).ext hE6, (m2.ext hE5).ext hE6, m3.ext hE6, by omega, by omega, by omega⟩, (hWE.trans (hE3.trans hE4)).trans (hE5.trans hE6), ?_⟩
  rintro k (rfl | rfl | rfl | rfl) <;> omega
def bSame (b b' : Bd) : Bool := decide (b.p = b'.p) && (decide (b.n = b'.n) && (decide (eqv b.Q b'.Q) && (decide (eqv b.A b'.A) && decide (eqv b.F b'.F))))
set_option maxHeartbeats 4000000 in
theorem bsame_c {w : World} {t rF rQ rA t' rF' rQ' rA' : Nat} {b b' : Bd} (h : BdAt w t rF rQ rA b) (h' : BdAt w t' rF' rQ' rA' b') : FN Tryz.prog 22 [ptr t, ptr t'] w fun e w' => e = .returned (.bool (bSame b b')) ∧ Ext w w' := by
  refine FN_enter Tryz.func22 rfl rfl (by kernel_rfl) ?_
  simp
  refine FN.mono (none_c h) ?_
  rintro _ w1 ⟨rfl, rfl⟩
  simp
  refine FN.mono (none_c h') ?_
  rintro _ w1 ⟨rfl, rfl⟩
  simp
  refine WC_drawB 51 (.F 0 <| .F 1 <| .F 2 <| .F 3 <| .F 4 <| .F 5 <| .F 6 <| .F 7 <| .F 8 <| .F 9 <| .F 10 <| .F 11 <| .F 12 <| .F 13 <| .F 14 <| .F 15 <| .F 16 <| .F 17 <| .F 18 <| .F 19 <| .F 20 <| .F 21 <| .F 22 <| .F 23 <| .F 24 <| .F 25 <| .F 26 <| .F 27 <| .F 28 <| .C 29 <| .F 30 <| .F 31 <| .F 32 <| .F 33 <| .F 34 <| .F 35 <| .F 36 <| .F 37 <| .F 38 <| .F 39 <| .C 40 <| .F 41 <| .F 42 <| .F 43 <| .F 44 <| .F 45 <| .F 46 <| .F 47 <| .F 48 <| .F 49 <| .F 50 <| .Z) (fun _ => false) [[], [0], [0, 1], [0, 1, 2], [], [4], [4, 5], [4, 5, 6], [0, 1, 2, 3, 4, 5, 6, 7], [0, 1, 2, 3, 4, 5, 6, 7, 8], [0, 1, 2, 3, 4, 5, 6, 7, 8, 9], [0, 1, 2, 3, 4, 5, 6, 7, 8, 9, 10], [0, 1, 2, 3, 4, 5, 6, 7, 8, 9, 10, 11], [0, 1, 2, 3, 4, 5, 6, 7, 8, 9, 10, 11, 12], [0, 1, 2, 3, 4, 5, 6, 7, 8, 9], [0, 1, 2, 3, 4, 5, 6, 7, 8, 9, 14], [0, 1, 2, 3, 4, 5, 6, 7, 8, 9, 14, 15], [0, 1, 2, 3, 4, 5, 6, 7, 8, 9, 14, 15, 16], [0, 1, 2, 3, 4, 5, 6, 7, 8, 9, 10, 11, 12, 13, 14, 15, 16, 17], [0, 1, 2, 3, 4, 5, 6, 7, 8, 9, 10, 11, 12, 13, 14, 15, 16, 17, 18], [0, 1, 2, 3, 4, 5, 6, 7, 8, 9, 10, 11, 12, 13, 14, 15, 16, 17, 18, 19], [0, 1, 2, 3, 4, 5, 6, 7, 8, 9, 10, 11, 12, 13, 14, 15, 16, 17, 18, 19, 20], [0, 1, 2, 3, 4, 5, 6, 7, 8, 9, 10, 11, 12, 13, 14, 15, 16, 17, 18, 19, 20, 21], [0, 1, 2, 3, 4, 5, 6, 7, 8, 9, 10, 11, 12, 13, 14, 15, 16, 17, 18, 19, 20, 21, 22], [0, 1, 2, 3, 4, 5, 6, 7, 8, 9, 10, 11, 12, 13, 14, 15, 16, 17, 18, 19, 20, 21, 22, 23], [0, 1, 2, 3, 4, 5, 6, 7, 8, 9, 10, 11, 12, 13, 14, 15, 16, 17, 18, 19, 20], [0, 1, 2, 3, 4, 5, 6, 7, 8, 9, 10, 11, 12, 13, 14, 15, 16, 17, 18, 19, 20, 25], [0, 1, 2, 3, 4, 5, 6, 7, 8, 9, 10, 11, 12, 13, 14, 15, 16, 17, 18, 19, 20, 25, 26], [0, 1, 2, 3, 4, 5, 6, 7, 8, 9, 10, 11, 12, 13, 14, 15, 16, 17, 18, 19, 20, 25, 26, 27], [0, 1, 2, 3, 4, 5, 6, 7, 8, 9, 10, 11, 12, 13, 14, 15, 16, 17, 18, 19, 20, 21, 22, 23, 24, 25, 26, 27, 28], [0, 1, 2, 3, 4, 5, 6, 7, 8, 9, 10, 11, 12, 13, 14, 15, 16, 17, 18, 19, 20, 21, 22, 23, 24, 25, 26, 27, 28, 29], [0, 1, 2, 3, 4, 5, 6, 7, 8, 9, 10, 11, 12, 13, 14, 15, 16, 17, 18, 19, 20, 21, 22, 23, 24, 25, 26, 27, 28, 29, 30], [0, 1, 2, 3, 4, 5, 6, 7, 8, 9, 10, 11, 12, 13, 14, 15, 16, 17, 18, 19, 20, 21, 22, 23, 24, 25, 26, 27, 28, 29, 30, 31], [0, 1, 2, 3, 4, 5, 6, 7, 8, 9, 10, 11, 12, 13, 14, 15, 16, 17, 18, 19, 20, 21, 22, 23, 24, 25, 26, 27, 28, 29, 30, 31, 32], [0, 1, 2, 3, 4, 5, 6, 7, 8, 9, 10, 11, 12, 13, 14, 15, 16, 17, 18, 19, 20, 21, 22, 23, 24, 25, 26, 27, 28, 29, 30, 31, 32, 33], [0, 1, 2, 3, 4, 5, 6, 7, 8, 9, 10, 11, 12, 13, 14, 15, 16, 17, 18, 19, 20, 21, 22, 23, 24, 25, 26, 27, 28, 29, 30, 31, 32, 33, 34], [0, 1, 2, 3, 4, 5, 6, 7, 8, 9, 10, 11, 12, 13, 14, 15, 16, 17, 18, 19, 20, 21, 22, 23, 24, 25, 26, 27, 28, 29, 30, 31], [0, 1, 2, 3, 4, 5, 6, 7, 8, 9, 10, 11, 12, 13, 14, 15, 16, 17, 18, 19, 20, 21, 22, 23, 24, 25, 26, 27, 28, 29, 30, 31, 36], [0, 1, 2, 3, 4, 5, 6, 7, 8, 9, 10, 11, 12, 13, 14, 15, 16, 17, 18, 19, 20, 21, 22, 23, 24, 25, 26, 27, 28, 29, 30, 31, 36, 37], [0, 1, 2, 3, 4, 5, 6, 7, 8, 9, 10, 11, 12, 13, 14, 15, 16, 17, 18, 19, 20, 21, 22, 23, 24, 25, 26, 27, 28, 29, 30, 31, 36, 37, 38], [0, 1, 2, 3, 4, 5, 6, 7, 8, 9, 10, 11, 12, 13, 14, 15, 16, 17, 18, 19, 20, 21, 22, 23, 24, 25, 26, 27, 28, 29, 30, 31, 32, 33, 34, 35, 36, 37, 38, 39], [0, 1, 2, 3, 4, 5, 6, 7, 8, 9, 10, 11, 12, 13, 14, 15, 16, 17, 18, 19, 20, 21, 22, 23, 24, 25, 26, 27, 28, 29, 30, 31, 32, 33, 34, 35, 36, 37, 38, 39, 40], [0, 1, 2, 3, 4, 5, 6, 7, 8, 9, 10, 11, 12, 13, 14, 15, 16, 17, 18, 19, 20, 21, 22, 23, 24, 25, 26, 27, 28, 29, 30, 31, 32, 33, 34, 35, 36, 37, 38, 39, 40, 41], [0, 1, 2, 3, 4, 5, 6, 7, 8, 9, 10, 11, 12, 13, 14, 15, 16, 17, 18, 19, 20, 21, 22, 23, 24, 25, 26, 27, 28, 29, 30, 31, 32, 33, 34, 35, 36, 37, 38, 39, 40, 41, 42], [0, 1, 2, 3, 4, 5, 6, 7, 8, 9, 10, 11, 12, 13, 14, 15, 16, 17, 18, 19, 20, 21, 22, 23, 24, 25, 26, 27, 28, 29, 30, 31, 32, 33, 34, 35, 36, 37, 38, 39, 40, 41, 42, 43], [0, 1, 2, 3, 4, 5, 6, 7, 8, 9, 10, 11, 12, 13, 14, 15, 16, 17, 18, 19, 20, 21, 22, 23, 24, 25, 26, 27, 28, 29, 30, 31, 32, 33, 34, 35, 36, 37, 38, 39, 40, 41, 42, 43, 44], [0, 1, 2, 3, 4, 5, 6, 7, 8, 9, 10, 11, 12, 13, 14, 15, 16, 17, 18, 19, 20, 21, 22, 23, 24, 25, 26, 27, 28, 29, 30, 31, 32, 33, 34, 35, 36, 37, 38, 39, 40, 41, 42, 43, 44, 45], [0, 1, 2, 3, 4, 5, 6, 7, 8, 9, 10, 11, 12, 13, 14, 15, 16, 17, 18, 19, 20, 21, 22, 23, 24, 25, 26, 27, 28, 29, 30, 31, 32, 33, 34, 35, 36, 37, 38, 39, 40, 41, 42], [0, 1, 2, 3, 4, 5, 6, 7, 8, 9, 10, 11, 12, 13, 14, 15, 16, 17, 18, 19, 20, 21, 22, 23, 24, 25, 26, 27, 28, 29, 30, 31, 32, 33, 34, 35, 36, 37, 38, 39, 40, 41, 42, 47], [0, 1, 2, 3, 4, 5, 6, 7, 8, 9, 10, 11, 12, 13, 14, 15, 16, 17, 18, 19, 20, 21, 22, 23, 24, 25, 26, 27, 28, 29, 30, 31, 32, 33, 34, 35, 36, 37, 38, 39, 40, 41, 42, 47, 48], [0, 1, 2, 3, 4, 5, 6, 7, 8, 9, 10, 11, 12, 13, 14, 15, 16, 17, 18, 19, 20, 21, 22, 23, 24, 25, 26, 27, 28, 29, 30, 31, 32, 33, 34, 35, 36, 37, 38, 39, 40, 41, 42, 47, 48, 49]] rfl (by kernel_rfl) fun W hW => ?_
  have hWE : Ext w1 W := hW ▸ Ext.drew w1
  have g := h.ext hWE
  have g' := h'.ext hWE
  unfold bSame
  by_cases e1 : b.p = b'.p
  · by_cases e2 : b.n = b'.n
    · simp [g.blk.cell 1 _ rfl, g.blk.cell 3 _ rfl, g.blk.cell 4 _ rfl, g'.blk.cell 1 _ rfl, g'.blk.cell 3 _ rfl, g'.blk.cell 4 _ rfl, e1, e2]
      refine FN.mono (Qequal_c g.mQ g'.mQ) ?_
      rintro _ w2 ⟨rfl, hE2⟩
      simp
      refine KR_ext hE2 ?_
      have k := g.ext hE2
      have k' := g'.ext hE2
      by_cases e3 : eqv b.Q b'.Q
      · simp [e3, k.blk.cell 2 _ rfl, k'.blk.cell 2 _ rfl]
        refine FN.mono (Aequal_c k.mA k'.mA) ?_
        rintro _ w3 ⟨rfl, hE3⟩
        simp
        refine KR_ext hE3 ?_
        have m := k.ext hE3
        have m' := k'.ext hE3
        by_cases e4 : eqv b.A b'.A
        · simp [e4, m.blk.cell 0 _ rfl, m'.blk.cell 0 _ rfl]
          refine FN.mono (Fequal_c m.mF m'.mF) ?_
          rintro _ w4 ⟨rfl, hE4⟩
          simp
          exact ⟨by simp [e1, e2, e3, e4], (hWE.trans hE2).trans (hE3.trans hE4)⟩
        · simp [e4]
          exact (hWE.trans hE2).trans hE3
      · simp [e3]
        exact hWE.trans hE2
    · simp [beq_dec, g.blk.cell 3 _ rfl, g.blk.cell 4 _ rfl, g'.blk.cell 3 _ rfl, g'.blk.cell 4 _ rfl, e1, e2]
      exact hWE
  · simp [beq_dec, g.blk.cell 3 _ rfl, g'.blk.cell 3 _ rfl, e1]
    exact hWE
end Go.Proofs
