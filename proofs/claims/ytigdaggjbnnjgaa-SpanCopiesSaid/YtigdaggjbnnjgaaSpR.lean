/-
  Contracts of the functions that the law reaches, step by step.
-/
import Derived.Test.YtigdaggjbnnjgaaSpP
import Derived.Test.YtigdaggjbnnjgaaEngAC
import Derived.Test.YtigdaggjbnnjgaaEngAD
import Derived.Test.YtigdaggjbnnjgaaEngV
namespace Go.Proofs
open Pk
set_option maxRecDepth 10000
def ofFG (f g : Int) (s : St) : Bool := decide (s.f = f) && decide (s.t = g)
/-- The steps between two, by time. -/
def isSteps (l : List St) (f g : Int) (R : List St) : Prop := (R.Pairwise fun a b => a.a ≤ b.a) ∧ R.Perm (l.filter (ofFG f g))
theorem isSteps.skip {l R : List St} {f g : Int} {i : Nat} (h : isSteps (l.take i) f g R) (hi : i < l.length) (hn : ofFG f g l[i] = false) : isSteps (l.take (i + 1)) f g R := by
  refine ⟨h.1, ?_⟩
  rw [List.take_add_one, List.getElem?_eq_getElem hi, List.filter_append]
  simpa [hn] using h.2
theorem isSteps.ins {l R : List St} {f g : Int} {i k : Nat} (h : isSteps (l.take i) f g R) (hi : i < l.length) (hn : ofFG f g l[i] = true) (h1 : ∀ y ∈ R.take k, y.a ≤ l[i].a) (h2 : ∀ y ∈ R.drop k, l[i].a ≤ y.a) : isSteps (l.take (i + 1)) f g (insAt R k l[i]) := by
  refine ⟨insAt_sorted h.1 h1 h2, ?_⟩
  rw [List.take_add_one, List.getElem?_eq_getElem hi, List.filter_append]
  refine (insAt_perm _ _ _).trans ?_
  simpa [hn] using h.2.append_right [l[i]]
set_option maxHeartbeats 1000000 in
theorem rsteps_c {w : World} {v : Value} {l : List St} (h : TRw w v l) (f g : Int) (hb : l.length ≤ 1000) :
    FN Try.prog 43 [.agg #[v], u32 f, u32 g] w fun e w' => ∃ u R, e = .returned u ∧ isSteps l f g R ∧ w'.ownsRow w.heap.size 35 4 u R.length (R.flatMap stCells) ∧ Ext w w' := by
  refine FN_enter Try.func43 rfl rfl (by kernel_rfl) ?_
  obtain ⟨va, vc, hv⟩ := h.isSlice
  subst hv
  have hlen := fun ty W => h.isLen (P := Try.prog) (t := 22) (by simp) ty W
  simp
  have hE1 : Ext w (w.alloc (.cells #[.slice va l.length vc] 51)) := (Ext.refl w).alloc _
  have o1 : Var (w.alloc (.cells #[.slice va l.length vc] 51)) w.heap.size (.slice va l.length vc) := Var.new w _ _
  generalize (w.alloc (.cells #[.slice va l.length vc] 51)) = w1 at *
  have z1 := hE1.size
  refine WC_loop (fun k ρ ds w' => ∃ (i : Nat) (R : List St) (v7 : Value), k = l.length - i ∧ i ≤ l.length ∧ ρ 1 = u32 f ∧ ρ 2 = u32 g ∧ ρ 3 = ptr w.heap.size ∧ ρ 8 = i64 i ∧ ρ 7 = v7 ∧ ds = [] ∧ Ext w1 w' ∧ isSteps (l.take i) f g R ∧ w'.ownsRow w1.heap.size 35 4 v7 R.length (R.flatMap stCells)) l.length
    ⟨0, [], .slice none 0 0, by simp, by simp, by simp, by simp, by simp, by simp, by simp, rfl, Ext.refl _, ⟨by simp, by simp⟩, World.ownsRow_nil _ _ _ _⟩ ?_
  rintro k ρ ds w2 ⟨i, R, v7, rfl, hi, e1, e2, e3, e8, e7, rfl, hE, hR, hO⟩
  have o2 := o1.ext hE
  have hE2 := hE1.trans hE
  by_cases hlt : i < l.length
  · have r := TRw.row (h.ext hE2) (List.getElem?_eq_getElem hlt)
    have ix := TRw.index h i hlt w2
    simp [e1, e3, e8, o2.cell, hlen, hlt, ix, r.c0, r.c1, r.c2, r.c3]
    have hE3 : Ext w2 (w2.alloc (.cells #[u32 l[i].f, u32 l[i].t, u64 l[i].a, u64 l[i].k] 35)) := (Ext.refl _).alloc _
    have s2 := StAt.new w2 l[i] 35
    have z3 : (w2.alloc (.cells #[u32 l[i].f, u32 l[i].t, u64 l[i].a, u64 l[i].k] 35)).heap.size = w2.heap.size + 1 := by simp
    generalize (w2.alloc (.cells #[u32 l[i].f, u32 l[i].t, u64 l[i].a, u64 l[i].k] 35)) = w3 at *
    have nx : IntKind.i64.wrap ((i : Int) + 1) = ((i + 1 : Nat) : Int) := by rw [wrap64 _ (by omega) (by omega)]; rfl
    have hO3 := own_ext hO hE3
    have hRl : R.length ≤ l.length := by
      have h1 := hR.2.length_eq
      have h2 := List.length_filter_le (ofFG f g) (l.take i)
      have h3 := List.length_take_le i l
      omega
    have hlen7 := fun ty W => (sl_of_own hO).isLen (P := Try.prog) (t := 22) (by simp) ty W
    by_cases b0 : l[i].f = f
    · by_cases b1 : l[i].t = g
      · have hq : ofFG f g l[i] = true := by simp [ofFG, b0, b1]
        subst b0
        subst b1
        simp [e2, e7, s2.c0, s2.c1, s2.c2, s2.c3, hlen7]
        have hm := Sl.made w3 (stCells l[i]) 35 4 1 rfl
        have hE4 := (Ext.refl w3).alloc (.cells (stCells l[i]).toArray 35)
        have hw4 : (w3.alloc (.cells (stCells l[i]).toArray 35)) = (w3.alloc (.cells #[u32 l[i].f, u32 l[i].t, u64 l[i].a, u64 l[i].k] 35)) := rfl
        rw [hw4] at hm hE4
        have hO4 := own_ext hO3 hE4
        have z4 := hE4.size
        have s4 := s2.ext hE4
        generalize (w3.alloc (.cells #[u32 l[i].f, u32 l[i].t, u64 l[i].a, u64 l[i].k] 35)) = w4 at *
        have hB7 : slN v7 = false → slB v7 < w2.heap.size := fun hn => by
          obtain ⟨c, hc⟩ := own_obj hO hn
          exact (Array.getElem?_eq_some_iff.1 hc).1
        obtain ⟨v8, w5, hr5, hO5, hM5, hnew⟩ := append_own (P := Try.prog) (t := 22) (ty := 22) (e := 35) (s := 4) (by simp) (by simp) (by kernel_rfl) hO4 hm (by intro u hu; simp [stCells] at hu; rcases hu with rfl | rfl | rfl | rfl <;> rfl) (by omega) (by have := hE.size; omega)
        have hB8 : slB v8 ≠ w2.heap.size := fun he => by
          have hn8 := own_nil hO5 (by omega)
          rcases hnew hn8 with ⟨h1, h2⟩ | h1
          · have := hB7 h1; omega
          · omega
        have hge8 := own_ge hO5 (own_nil hO5 (by omega))
        have s5 : StAt w5 w2.heap.size l[i] := by
          have hb : w5.heap[w2.heap.size]? = w4.heap[w2.heap.size]? := hM5.blk _ (by omega) fun hk => by have := hB7 hk.1; omega
          have hc := fun j => World.cell?_of_block (a := ⟨w2.heap.size, j, none⟩) hb
          exact ⟨(hc 0).trans s4.c0, (hc 1).trans s4.c1, (hc 2).trans s4.c2, (hc 3).trans s4.c3⟩
        have hE5 : Ext w1 w5 := (((hE.trans (hE3.trans hE4)).mod (S := fun k => w1.heap.size ≤ k)).trans (hM5.weaken fun k hk => by have := own_ge hO hk.1; omega)).ext fun _ h => h
        have hO5' : w5.ownsRow w1.heap.size 35 4 v8 (insAt R R.length l[i]).length ((insAt R R.length l[i]).flatMap stCells) := by
          rw [insAt_end, List.length_append, List.length_singleton, List.flatMap_append]
          simpa [stCells] using hO5
        simp [hr5]
        refine WC_loop (fun κ ρ ds w' => ∃ (k : Nat) (d : St), κ = k ∧ k ≤ R.length ∧ ρ 1 = u32 l[i].f ∧ ρ 2 = u32 l[i].t ∧ ρ 3 = ptr w.heap.size ∧ ρ 8 = i64 i ∧ ρ 7 = v8 ∧ ρ 9 = ptr w2.heap.size ∧ ρ 10 = i64 k ∧ ds = [] ∧ Mod (fun k => k = slB v8) w5 w' ∧
          w'.ownsRow w1.heap.size 35 4 v8 (insAt R k d).length ((insAt R k d).flatMap stCells) ∧ ∀ y ∈ R.drop k, l[i].a < y.a) R.length
          ⟨R.length, l[i], by simp, by simp, by simp [e1], by simp [e2], by simp [e3], by simp [e8], by simp, by simp, by simp, rfl, Mod.refl _ _, hO5', by simp⟩ ?_
        rintro κ ρ ds w6' ⟨k, d, hκ, hk, f1, f2, f3, f8, f7, f9, f10, rfl, hM', hO6', hgt⟩
        subst κ
        simp
        refine WC_drawC 11 (.F 0 <| .F 1 <| .F 2 <| .F 3 <| .F 4 <| .F 5 <| .F 6 <| .F 7 <| .F 8 <| .F 9 <| .F 10 <| .Z) (fun _ => false) rfl (by kernel_rfl) fun w6 hW => ?_
        have hWE : Ext w6' w6 := hW ▸ Ext.drew _
        have hM := hM'.trans hWE.mod
        have hO6 := own_ext hO6' hWE
        have hlk := insAt_len hk d
        have fin : ∀ W, Mod (fun k => k = slB v8) w6 W → W.ownsRow w1.heap.size 35 4 v8 (insAt R k l[i]).length ((insAt R k l[i]).flatMap stCells) → (∀ y ∈ R.take k, y.a ≤ l[i].a) →
            ∃ m', m' < l.length - i ∧ ∃ i_1, m' = l.length - i_1 ∧ i_1 ≤ l.length ∧ (i : Int) + 1 = (i_1 : Int) ∧ Ext w1 W ∧ ∃ R', isSteps (l.take i_1) l[i].f l[i].t R' ∧ W.ownsRow w1.heap.size 35 4 v8 R'.length (R'.flatMap stCells) :=
          fun W hMW hOW hle => ⟨l.length - (i + 1), by omega, i + 1, rfl, by omega, by simp, ((hE5.mod (S := fun k => w1.heap.size ≤ k)).trans ((hM.trans hMW).weaken fun k hk => by omega)).ext (fun _ h => h), _,
            hR.ins hlt hq hle (fun y hy => Int.le_of_lt (hgt y hy)), hOW⟩
        have hS6 : TRw w6 v8 (insAt R k d) := sl_of_own hO6
        have th := fun j => own_thaw hO6 (by omega) j
        have ixk := TRw.index hS6 k (by omega)
        have rk := TRw.row hS6 (insAt_at hk d)
        have s6 : StAt w6 w2.heap.size l[i] := by
          have hc := fun j u hc => hM.cell (a := ⟨w2.heap.size, j, none⟩) (v := u) hc (fun e => hB8 e.symm)
          exact ⟨hc _ _ s5.c0, hc _ _ s5.c1, hc _ _ s5.c2, hc _ _ s5.c3⟩
        have hput := own_put hO6 k (by omega) l[i]
        have hMp := mod_put w6 (slB v8) (slO v8 + k * 4) l[i]
        rw [insAt_set hk] at hput
        have hput' : (((((w6.setCell ⟨(slB v8), (slO v8 + k * 4), none⟩ (u32 l[i].f)).setCell ⟨(slB v8), (slO v8 + k * 4) + 1, none⟩ (u32 l[i].t)).setCell ⟨(slB v8), (slO v8 + k * 4) + 2, none⟩ (u64 l[i].a)).setCell ⟨(slB v8), (slO v8 + k * 4) + 3, none⟩ (u64 l[i].k))).ownsRow w1.heap.size 35 4 v8 (insAt R k l[i]).length ((insAt R k l[i]).flatMap stCells) := by
          rw [insAt_len hk]; rw [hlk] at hput; exact hput
        cases k with
        | zero =>
          simp [f10]
          rw [f7]
          have k0 := rk.c0
          have k1 := rk.c1
          have k2 := rk.c2
          have k3 := rk.c3
          simp only [Nat.zero_mul, Nat.add_zero, Int.cast_ofNat_Int] at ixk k0 k1 k2 k3 hput' hMp
          simp [f1, f2, f3, f7, f8, f9, nx, ixk, s6.c0, s6.c1, s6.c2, s6.c3, k0, k1, k2, k3, th, cell_setCell]
          exact fin _ hMp hput' (by simp)
        | succ k =>
          have hkl : k < R.length := by omega
          have rk' := TRw.row hS6 ((insAt_lt hk d (Nat.lt_succ_self k)).trans (List.getElem?_eq_getElem hkl))
          have ixk' := TRw.index hS6 k (by omega)
          have nm : IntKind.i64.wrap (k : Int) = (k : Int) := wrap64 _ (by omega) (by omega)
          have hp : (0 : Int) < (k : Int) + 1 := by omega
          push_cast at ixk
          by_cases hx : l[i].a < R[k].a
          · have hp2 := own_put hO6 (k + 1) (by omega) R[k]
            have hM2 := mod_put w6 (slB v8) (slO v8 + (k + 1) * 4) R[k]
            rw [insAt_set hk, insAt_shift hkl, hlk, ← insAt_len (k := k) (by omega) R[k]] at hp2
            simp [f10, f7, f9, hp, nm, ixk', s6.c2, rk'.c0, rk'.c1, rk'.c2, rk'.c3, hx, ixk, rk.c0, rk.c1, rk.c2, rk.c3, th, cell_setCell]
            refine ⟨k, by omega, by omega, f1, f2, f3, f8, rfl, hM.trans hM2, ⟨R[k], hp2⟩, fun y hy => ?_⟩
            rw [List.drop_eq_getElem_cons hkl] at hy
            rcases List.mem_cons.1 hy with rfl | hy
            · exact hx
            · exact hgt y hy
          · simp [f10, f7, f9, hp, nm, ixk', s6.c2, rk'.c2, hx]
            simp [f1, f2, f3, f7, f8, nx, ixk, s6.c0, s6.c1, s6.c2, s6.c3, rk.c0, rk.c1, rk.c2, rk.c3, th, cell_setCell]
            exact fin _ hMp hput' (take_le (key := St.a) hR.1 hkl (by omega))
      · simp [bne_dec, b0, b1, e1, e2, e3, e7, e8, nx, s2.c1]
        exact ⟨l.length - (i + 1), by omega, i + 1, rfl, by omega, by simp, hE.trans hE3, R, hR.skip hlt (by simp [ofFG, b1]), hO3⟩
    · simp [bne_dec, b0, e1, e2, e3, e7, e8, nx]
      exact ⟨l.length - (i + 1), by omega, i + 1, rfl, by omega, by simp, hE.trans hE3, R, hR.skip hlt (by simp [ofFG, b0]), hO3⟩
  · have : i = l.length := by omega
    subst this
    rw [List.take_length] at hR
    simp [e3, e7, e8, o2.cell, hlen]
    exact ⟨R, hR, own_lower hO z1, hE2⟩
end Go.Proofs
namespace Go.Proofs
open Pk
set_option maxRecDepth 10000
/-! ### maps.Equal, of keys and values that are one cell each -/
set_option maxHeartbeats 1000000 in
theorem mequal_c {w : World} {v v' : Value} {m m' : List (Int × Int)} (kk : KeyEq Try.prog 23 (Value.int .u64)) (tm : Try.prog.underlying 72 = some (.map 23 23)) (zz : ∀ w, (zeroValue 23).run Try.prog w = .ok (.int .u64 0) w)
    (hne : ∀ (a b : Int) (w : World), (binOp .neq 23 ((Value.int .u64) a) ((Value.int .u64) b)).run Try.prog w = .ok (.bool !(decide (a = b))) w) (h : MapV (Value.int .u64) (Value.int .u64) w v m) (h' : MapV (Value.int .u64) (Value.int .u64) w v' m') :
    FN Try.prog 46 [v, v'] w fun e w' => e = .returned (.bool (decide (eqv m m'))) ∧ Ext w w' := by
  refine FN_enter Try.func46 rfl rfl (by kernel_rfl) ?_
  have l1 := fun ty W (hW : MapV (Value.int .u64) (Value.int .u64) W v m) => hW.len (P := Try.prog) (T := 72) (by simp) ty
  have l2 := fun ty W (hW : MapV (Value.int .u64) (Value.int .u64) W v' m') => hW.len (P := Try.prog) (T := 72) (by simp) ty
  simp [l1 _ w h, l2 _ w h']
  by_cases hl : m.length = m'.length
  · have hlb : ((m.length : Int) != (m'.length : Int)) = false := by simp; omega
    simp [hlb]
    obtain ⟨o, hr, hi⟩ := h.range (P := Try.prog) tm
    simp [hr]
    have he := (Ext.refl w).alloc o
    have h2' := h'.ext he
    have hlt' := fun r e => h'.lt (r := r) e
    obtain ⟨b, hb⟩ : ∃ b, b = w.heap.size := ⟨_, rfl⟩
    rw [← hb] at hi ⊢
    generalize (w.alloc o) = w2 at *
    refine WC_loop (fun k ρ ds w' => ∃ idxs, k + idxs.length = m.length ∧ ρ 1 = v' ∧ ρ 15 = ptr b ∧ ds = [] ∧ VIter (Value.int .u64) (Value.int .u64) w' b v m idxs ∧ MapV (Value.int .u64) (Value.int .u64) w' v' m' ∧ Ext w w' ∧
      ∀ i ∈ idxs, ∀ p, m[i]? = some p → mget m' p.1 = some p.2) m.length ⟨[], by simp, by simp, by simp, rfl, hi, h2', he, by simp⟩ ?_
    rintro k ρ ds w3 ⟨idxs, hk, e1, e15, rfl, hI, hm', hE, hall⟩
    rcases hI.next (P := Try.prog) 0 with ⟨hp, hrun⟩ | ⟨i, p, w4, hpi, hni, hrun, hI4, hM4, hent, hs4⟩
    · simp [e15, hrun]
      exact ⟨eqv_of hl idxs hp hall, hE⟩
    · have hm4 := hm'.mod hM4 (fun r e => by have := hlt' r e; omega)
      have hE4 : Ext w w4 := ((hE.mod (S := fun k => w.heap.size ≤ k)).trans (hM4.weaken fun i hi => by omega)).ext fun _ h => h
      have hlk := hm4.lookup (P := Try.prog) kk tm (zz w4) p.1 true
      have hb4 := hI4.bound
      simp only [List.length_append, List.length_singleton] at hb4
      simp [e15, hrun, hent, e1, hlk]
      have hmem : p ∈ m := List.mem_of_getElem? hpi
      cases hg : mget m' p.1 with
      | none =>
        simp
        refine ⟨fun hq => ?_, hE4⟩
        have := hq.2 p hmem
        rw [hg] at this; cases this
      | some x =>
        by_cases hv : p.2 = x
        · have hvb := hne p.2 x w4
          simp only [hv, decide_true] at hvb
          simp [hv, hvb, e1, e15]
          refine ⟨k - 1, by omega, idxs ++ [i], by simp; omega, hI4, hm4, hE4, ?_⟩
          intro j hj q1 q2 hq
          simp at hj
          rcases hj with hj | rfl
          · exact hall j hj (q1, q2) hq
          · rw [hpi] at hq; cases hq
            rw [← hv] at hg
            exact hg
        · have hvb := hne p.2 x w4
          simp only [hv, decide_false] at hvb
          simp [hvb]
          refine ⟨fun hq => ?_, hE4⟩
          have := hq.2 p hmem
          rw [hg] at this; cases this
          exact hv rfl
  · have hlb : ((m.length : Int) != (m'.length : Int)) = true := by simp; omega
    simp [hlb]
    exact ⟨fun h => hl h.1, Ext.refl _⟩
theorem neq64 (a b : Int) (w : World) : (binOp .neq 23 (u64 a) (u64 b)).run Try.prog w = .ok (.bool !(decide (a = b))) w := by
  simp [bne_dec]
theorem mEq_c {w : World} {v v' : Value} {m m' : ML} (h : MV w v m) (h' : MV w v' m') : FN Try.prog 45 [v, v'] w fun e w' => e = .returned (.bool (decide (eqv m m'))) ∧ Ext w w' := by
  refine FN_enter Try.func45 rfl rfl (by kernel_rfl) ?_
  simp
  refine FN.mono (mequal_c k23 tm72 z23 neq64 h h') ?_
  rintro _ w1 ⟨rfl, h1⟩
  simp
  exact h1
instance : DecidableEq St := fun a b => decidable_of_iff (a.f = b.f ∧ a.t = b.t ∧ a.a = b.a ∧ a.k = b.k) (by cases a; cases b; simp)
theorem fStep : flatA Try.prog 35 = some [.int .u32, .int .u32, .int .u64, .int .u64] := by kernel_rfl
theorem eqInt (k : IntKind) (a b : Int) : eqc (.int k a) (.int k b) = decide (a = b) := by
  by_cases h : a = b <;> simp [eqc, h]
theorem st_eq (a b : St) : eqcs (stCells a) (stCells b) = decide (a = b) := by
  obtain ⟨a1, a2, a3, a4⟩ := a
  obtain ⟨b1, b2, b3, b4⟩ := b
  rw [Bool.eq_iff_iff]
  simp [stCells, eqcs, eqc]
theorem eqSt (a b : St) (w : World) : (binOp .eql 35 (stV a) (stV b)).run Try.prog w = .ok (.bool (decide (a = b))) w := by
  rw [← st_eq]
  exact run_eql_flat w fStep _ _ rfl rfl
theorem neqSt (a b : St) (w : World) : (binOp .neq 35 (stV a) (stV b)).run Try.prog w = .ok (.bool !(decide (a = b))) w := by
  rw [← st_eq]
  exact run_neq_flat w fStep _ _ rfl rfl
/-- The document's Same. -/
def sameL (l l' : List St) : Prop := l.length = l'.length ∧ ∀ x ∈ l, l'.find? (hitS x.f x.t x.a) = some x
instance (l l' : List St) : Decidable (sameL l l') := inferInstanceAs (Decidable (_ ∧ _))
theorem find_idx {l : List St} {p : St → Bool} {i : Nat} (h : l.findIdx? p = some i) (hi : i < l.length) : l.find? p = some l[i] := by
  rw [List.find?_eq_some_iff_getElem]
  obtain ⟨h0, h1, h2⟩ := List.findIdx?_eq_some_iff_getElem.1 h
  exact ⟨h1, i, hi, rfl, fun j hj => by simpa using h2 j hj⟩
set_option maxHeartbeats 1000000 in
theorem rsame_c {w : World} {v v' : Value} {l l' : List St} (h : TRw w v l) (h' : TRw w v' l') (hb : l.length ≤ 1000) (hb' : l'.length ≤ 1000) :
    FN Try.prog 17 [.agg #[v], .agg #[v']] w fun e w' => e = .returned (.bool (decide (sameL l l'))) ∧ Ext w w' := by
  refine FN_enter Try.func17 rfl rfl (by kernel_rfl) ?_
  obtain ⟨va, vc, hv⟩ := h.isSlice
  obtain ⟨va', vc', hv'⟩ := h'.isSlice
  subst hv hv'
  have hlen := fun ty W => h.isLen (P := Try.prog) (t := 22) (by simp) ty W
  have hlen' := fun ty W => h'.isLen (P := Try.prog) (t := 22) (by simp) ty W
  simp
  have hE1 : Ext w ((w.alloc (.cells #[.slice va l.length vc] 51)).alloc (.cells #[.slice va' l'.length vc'] 51)) := ((Ext.refl w).alloc _).alloc _
  have o1 : Var ((w.alloc (.cells #[.slice va l.length vc] 51)).alloc (.cells #[.slice va' l'.length vc'] 51)) w.heap.size (.slice va l.length vc) := (Var.new w _ _).ext ((Ext.refl _).alloc _)
  have o2 : Var ((w.alloc (.cells #[.slice va l.length vc] 51)).alloc (.cells #[.slice va' l'.length vc'] 51)) (w.heap.size + 1) (.slice va' l'.length vc') := by
    have := Var.new (w.alloc (.cells #[.slice va l.length vc] 51)) (.slice va' l'.length vc') 51
    simpa using this
  generalize ((w.alloc (.cells #[.slice va l.length vc] 51)).alloc (.cells #[.slice va' l'.length vc'] 51)) = w1 at *
  refine WC_loop (fun k ρ ds w' => ∃ i : Nat, k = l.length - i ∧ i ≤ l.length ∧ ρ 2 = ptr w.heap.size ∧ ρ 3 = ptr (w.heap.size + 1) ∧ ρ 5 = i64 i ∧ ds = [] ∧ Ext w1 w' ∧ ∀ j (hj : j < l.length), j < i → l'.find? (hitS l[j].f l[j].t l[j].a) = some l[j]) l.length
    ⟨0, by simp, by simp, by simp, by simp, by simp, rfl, Ext.refl _, fun j _ h => by omega⟩ ?_
  rintro k ρ ds w2 ⟨i, rfl, hi, e2, e3, e5, rfl, hE, hall⟩
  have p1 := o1.ext hE
  have p2 := o2.ext hE
  by_cases hlt : i < l.length
  · simp [e2, e5, p1.cell, hlen, hlt]
    refine WC_drawC 19 (.F 0 <| .F 1 <| .F 2 <| .F 3 <| .F 4 <| .F 5 <| .F 6 <| .F 7 <| .F 8 <| .F 9 <| .F 10 <| .F 11 <| .F 12 <| .F 13 <| .F 14 <| .F 15 <| .F 16 <| .F 17 <| .F 18 <| .Z) (fun _ => false) rfl (by kernel_rfl) fun W hW => ?_
    have hWE : Ext w2 W := hW ▸ Ext.drew _
    have hEW := hE1.trans (hE.trans hWE)
    have q1 := p1.ext hWE
    have q2 := p2.ext hWE
    have rr := TRw.row (h.ext hEW) (List.getElem?_eq_getElem hlt)
    have ix := TRw.index h i hlt
    simp [e2, e3, e5, q1.cell, q2.cell, ix, rr.c0, rr.c1, rr.c2]
    refine FN.mono (rfind_c (h'.ext hEW) l[i].f l[i].t l[i].a (by omega)) ?_
    rintro _ w3 ⟨rfl, hE3⟩
    have x1 := q1.ext hE3
    have x2 := q2.ext hE3
    have hE23 := hE.trans (hWE.trans hE3)
    cases hfi : l'.findIdx? (hitS l[i].f l[i].t l[i].a) with
    | none =>
      have hI : fndI l' l[i].f l[i].t l[i].a = -1 := by simp [fndI, hfi]
      rw [hI]
      simp
      refine WC_drawC 13 (.F 0 <| .F 1 <| .F 2 <| .F 3 <| .F 4 <| .F 5 <| .F 6 <| .F 7 <| .F 8 <| .F 9 <| .F 10 <| .F 11 <| .F 12 <| .Z) (fun _ => false) rfl (by kernel_rfl) fun W2 hW2 => ?_
      have hWE2 : Ext w3 W2 := hW2 ▸ Ext.drew _
      simp
      refine ⟨fun hs => ?_, (hE1.trans hE23).trans hWE2⟩
      have := hs.2 l[i] (by simp)
      rw [List.find?_eq_some_iff_getElem] at this
      obtain ⟨h1, j, hj, h2, -⟩ := this
      have h3 := List.findIdx?_eq_none_iff.1 hfi _ (List.getElem_mem hj)
      rw [h2, h1] at h3
      cases h3
    | some k =>
      have hI : fndI l' l[i].f l[i].t l[i].a = (k : Int) := by simp [fndI, hfi]
      have hkl : k < l'.length := (List.findIdx?_eq_some_iff_getElem.1 hfi).1
      have hnn : ¬ ((k : Int) < 0) := by omega
      have hf := find_idx hfi hkl
      rw [hI]
      simp
      refine WC_drawC 13 (.F 0 <| .F 1 <| .F 2 <| .F 3 <| .F 4 <| .F 5 <| .F 6 <| .F 7 <| .F 8 <| .F 9 <| .F 10 <| .F 11 <| .F 12 <| .Z) (fun _ => false) rfl (by kernel_rfl) fun W2 hW2 => ?_
      have hWE2 : Ext w3 W2 := hW2 ▸ Ext.drew _
      have y1 := x1.ext hWE2
      have y2 := x2.ext hWE2
      have hEW2 := (hE1.trans hE23).trans hWE2
      have rr := TRw.row (h.ext hEW2) (List.getElem?_eq_getElem hlt)
      have rr' := TRw.row (h'.ext hEW2) (List.getElem?_eq_getElem hkl)
      have ix := TRw.index h i hlt
      have ix' := TRw.index h' k hkl
      simp [hnn, e2, e3, e5, y1.cell, y2.cell, ix, ix', rr.c0, rr.c1, rr.c2, rr.c3, rr'.c0, rr'.c1, rr'.c2, rr'.c3]
      by_cases heq : l'[k] = l[i]
      · have hn := neqSt l'[k] l[i] W2
        simp only [heq, decide_true] at hn
        simp [heq, hn, e2, e3, e5]
        refine ⟨l.length - (i + 1), by omega, i + 1, rfl, by omega, by rw [wrap64 _ (by omega) (by omega)]; rfl, hE23.trans hWE2, fun j hj hji => ?_⟩
        rcases Nat.lt_succ_iff_lt_or_eq.1 hji with h1 | rfl
        · exact hall j hj h1
        · rw [hf, heq]
      · have hn := neqSt l'[k] l[i] W2
        simp only [heq, decide_false] at hn
        simp [hn]
        refine ⟨fun hs => ?_, hEW2⟩
        have := hs.2 l[i] (by simp)
        rw [hf] at this
        exact heq (by simpa using this)
  · have : i = l.length := by omega
    subst this
    simp [e2, e3, e5, p1.cell, p2.cell, hlen, hlen']
    refine ⟨?_, hE1.trans hE⟩
    rw [beq_dec]
    refine decide_eq_decide.2 ⟨fun h1 => ⟨by omega, fun x hx => ?_⟩, fun h1 => by have := h1.1; omega⟩
    obtain ⟨j, hj, rfl⟩ := List.getElem_of_mem hx
    exact hall j hj hj
end Go.Proofs
