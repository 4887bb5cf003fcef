/-
  Contracts of the functions that the law reaches, step by step.
-/
import Derived.Test.YtfppepjaopbanaaRkK
namespace Go.Proofs
open Pk
set_option maxRecDepth 10000
/-- The document's line. -/
abbrev rlV (v : Value) (most : Int) : Value := .agg #[v, i64 most]
structure WtOk (x : Wt) : Prop where
  a : 0 ≤ x.1.1
  b : 0 ≤ x.2.1
  t : 0 ≤ x.1.2.2.1
theorem rname_c (n : Nm) (h : 0 ≤ n.1) (w : World) : FN Try.prog 67 [nmV n] w fun e w' => e = .returned (.bool (!badN n)) ∧ Ext w w' := by
  refine FN_enter Try.func67 rfl rfl (by kernel_rfl) ?_
  unfold badN
  by_cases h1 : n.1 = 0
  · have h2 : ¬ 0 < n.1 := by omega
    simp [h1]
    exact (Ext.refl w).alloc _
  · have h2 : 0 < n.1 := by omega
    by_cases h3 : 4611686018427387903 < n.2.2.1
    · have h4 : ¬ n.2.2.1 ≤ 4611686018427387903 := by omega
      simp [h1, h2, h3, h4]
      exact (Ext.refl w).alloc _
    · have h4 : n.2.2.1 ≤ 4611686018427387903 := by omega
      simp [h1, h2, h3, h4]
      exact (Ext.refl w).alloc _
def badW (x : Wt) : Bool := badN x.1 || decide (x.2.1 = 0) || badR x
theorem rwait_c (x : Wt) (h : WtOk x) (w : World) : FN Try.prog 65 [wtV x] w fun e w' => e = .returned (.bool (!badW x)) ∧ Ext w w' := by
  refine FN_enter Try.func65 rfl rfl (by kernel_rfl) ?_
  simp
  have hE1 : Ext w (w.alloc (.cells #[u32 x.1.1, u32 x.1.2.1, u64 x.1.2.2.1, u32 x.1.2.2.2, u32 x.2.1, i64 x.2.2.1, i64 x.2.2.2] 30)) := (Ext.refl w).alloc _
  have hx : WtAt (w.alloc (.cells #[u32 x.1.1, u32 x.1.2.1, u64 x.1.2.2.1, u32 x.1.2.2.2, u32 x.2.1, i64 x.2.2.1, i64 x.2.2.2] 30)) w.heap.size x := WtAt.new w x 30
  generalize (w.alloc (.cells #[u32 x.1.1, u32 x.1.2.1, u64 x.1.2.2.1, u32 x.1.2.2.2, u32 x.2.1, i64 x.2.2.1, i64 x.2.2.2] 30)) = w1 at *
  refine FN.mono (rname_c x.1 h.a w1) ?_
  rintro _ w2 ⟨rfl, hE2⟩
  have hx2 := hx.ext hE2
  have hb := h.b
  unfold badW badR
  cases h0 : badN x.1 with
  | true => simp; exact hE1.trans hE2
  | false =>
    by_cases h1 : x.2.1 = 0
    · have h2 : ¬ 0 < x.2.1 := by omega
      simp [hx2.c4, h1]
      exact hE1.trans hE2
    · have h2 : 0 < x.2.1 := by omega
      by_cases h3 : 0 ≤ x.2.2.1 <;> by_cases h4 : x.2.2.1 ≤ 2 <;> by_cases h5 : x.2.2.2 < 1 <;> by_cases h6 : 65536 < x.2.2.2 <;>
        simp [hx2.c4, hx2.c5, hx2.c6, h1, h2, h3, h4, h5, h6, show (1 ≤ x.2.2.2) ↔ ¬ (x.2.2.2 < 1) by omega, show (x.2.2.2 ≤ 65536) ↔ ¬ (65536 < x.2.2.2) by omega] <;> first | exact hE1.trans hE2 | omega
theorem rnew_c (m : Int) (w : World) : FN Try.prog 13 [i64 m] w fun e w' => e = .returned (.tuple #[rlV (.slice none 0 0) (if 0 ≤ m ∧ m ≤ 4096 then m else 0), .bool (decide (0 ≤ m ∧ m ≤ 4096))]) ∧ Ext w w' := by
  refine FN_enter Try.func13 rfl rfl (by kernel_rfl) ?_
  have fin : Ext w (w.alloc (.cells #[.slice none 0 0, i64 0] 46)) := (Ext.refl w).alloc _
  by_cases h1 : m < 0
  · have h2 : ¬ 0 ≤ m := by omega
    simp [h1, h2]
    exact fin
  · have h2 : 0 ≤ m := by omega
    by_cases h3 : 4096 < m
    · have h4 : ¬ m ≤ 4096 := by omega
      simp [h1, h2, h3, h4]
      exact fin
    · have h4 : m ≤ 4096 := by omega
      simp [h1, h2, h3, h4]
      exact (Ext.refl w).alloc _
theorem at_c {w : World} {v : Value} {s : List Wt} (h : WSl w v s) (most : Int) (n : Nm) (hb : s.length ≤ 1000) :
    FN Try.prog 66 [rlV v most, nmV n] w fun e w' => e = .returned (i64 (match s.findIdx? (fun y => decide (y.1 = n)) with | some i => (i : Int) | none => -1)) ∧ Ext w w' := by
  refine FN_enter Try.func66 rfl rfl (by kernel_rfl) ?_
  simp
  have hE1 : Ext w ((w.alloc (.cells #[v, i64 most] 46)).alloc (.cells #[u32 n.1, u32 n.2.1, u64 n.2.2.1, u32 n.2.2.2] 28)) := ((Ext.refl w).alloc _).alloc _
  have c0 : ((w.alloc (.cells #[v, i64 most] 46)).alloc (.cells #[u32 n.1, u32 n.2.1, u64 n.2.2.1, u32 n.2.2.2] 28)).cell? ⟨w.heap.size, 0, none⟩ = some v := by simp
  have hn : NmAt ((w.alloc (.cells #[v, i64 most] 46)).alloc (.cells #[u32 n.1, u32 n.2.1, u64 n.2.2.1, u32 n.2.2.2] 28)) (w.heap.size + 1) n := by
    have := NmAt.new (w.alloc (.cells #[v, i64 most] 46)) n 28
    simpa using this
  generalize ((w.alloc (.cells #[v, i64 most] 46)).alloc (.cells #[u32 n.1, u32 n.2.1, u64 n.2.2.1, u32 n.2.2.2] 28)) = w1 at *
  have hlen := fun ty W => h.isLen (P := Try.prog) (t := 22) (by simp) ty W
  refine WC_loop (fun k ρ ds w' => ∃ i : Nat, k = s.length - i ∧ i ≤ s.length ∧ ρ 2 = ptr w.heap.size ∧ ρ 3 = ptr (w.heap.size + 1) ∧ ρ 5 = i64 i ∧ ds = [] ∧ Ext w1 w' ∧ ∀ j (hj : j < s.length), j < i → s[j].1 ≠ n) s.length ⟨0, by simp, by simp, by simp, by simp, by simp, rfl, Ext.refl _, fun j hj h => by omega⟩ ?_
  rintro k ρ ds w2 ⟨i, rfl, hi, e2, e3, e5, rfl, hE, hno⟩
  have c02 := hE.cell_eq c0
  by_cases hlt : i < s.length
  · have hd := hE.trans (Ext.drew w2)
    have r := (WSl.row h (List.getElem?_eq_getElem hlt)).ext (hE1.trans hE)
    have ix := WSl.index h i hlt w2
    have hn2 := hn.ext hE
    simp [e2, e5, c02, hlen, hlt]
    have hd := Ext.drew w2
    have rd := r.ext hd
    have nd := hn2.ext hd
    have ixd := WSl.index h i hlt w2.drew
    have cd := hd.cell_eq c02
    refine WC_drawQ 7 rfl (by kernel_rfl) ?_
    simp [e2, e3, e5, cd, ixd, rd.c0, rd.c1, rd.c2, rd.c3, nd.c0, nd.c1, nd.c2, nd.c3]
    by_cases hq : s[i].1 = n
    · have hf : s.findIdx? (fun y => decide (y.1 = n)) = some i := by
        rw [List.findIdx?_eq_some_iff_getElem]
        exact ⟨hlt, by simp [hq], fun j hj => by simpa using hno j (by omega) hj⟩
      simp [nmB_t hq, hf, e5]
      exact (hE1.trans hE).trans hd
    · simp [nmB_f hq, e2, e3, e5]
      exact ⟨s.length - (i + 1), by omega, i + 1, rfl, by omega, by rw [wrap64 _ (by omega) (by omega)]; rfl, hE.trans hd, fun j hj hji => by
        rcases Nat.lt_or_ge j i with h | h
        · exact hno j hj h
        · have : j = i := by omega
          subst this; exact hq⟩
  · have : i = s.length := by omega
    subst this
    have hf : s.findIdx? (fun y => decide (y.1 = n)) = none := by
      rw [List.findIdx?_eq_none_iff]
      intro y hy
      obtain ⟨j, hj, rfl⟩ := List.mem_iff_getElem.1 hy
      simpa using hno j hj hj
    simp [e2, e5, c02, hlen, hf]
    exact hE1.trans hE
end Go.Proofs
namespace Go.Proofs
open Pk
set_option maxRecDepth 10000
theorem acc_step (s : List Wt) (nd : Int) (j : Nat) (hj : j < 3) : accOf s nd j ++ qof s (nd, 2 - (j : Int)) = accOf s nd (j + 1) := by
  match j, hj with
  | 0, _ => simp [accOf]
  | 1, _ => simp [accOf]
  | 2, _ => simp [accOf, allOf]
theorem acc_len (s : List Wt) (nd : Int) (j : Nat) : (accOf s nd j).length ≤ 3 * s.length := by
  have h2 := qof_len s (nd, 2)
  have h1 := qof_len s (nd, 1)
  have h0 := qof_len s (nd, 0)
  unfold accOf
  split
  · simp
  · omega
  · simp; omega
  · simp [allOf]; omega
set_option maxHeartbeats 1000000 in
theorem rall_c {w : World} {v : Value} {s : List Wt} (h : WSl w v s) (most nd : Int) (hb : s.length ≤ 1000) :
    FN Try.prog 44 [rlV v most, u32 nd] w fun e w' => ∃ u, e = .returned u ∧ w'.ownsRow w.heap.size 30 7 u (allOf s nd).length ((allOf s nd).flatMap wtC) ∧ Ext w w' := by
  refine FN_enter Try.func44 rfl rfl (by kernel_rfl) ?_
  simp
  have hE1 : Ext w (w.alloc (.cells #[v, i64 most] 46)) := (Ext.refl w).alloc _
  have c0 : (w.alloc (.cells #[v, i64 most] 46)).cell? ⟨w.heap.size, 0, none⟩ = some v := by simp
  generalize (w.alloc (.cells #[v, i64 most] 46)) = w1 at *
  have hlen := fun ty W => h.isLen (P := Try.prog) (t := 22) (by simp) ty W
  refine WC_loop (fun k ρ ds w' => ∃ (j : Nat) (u : Value), k = 3 - j ∧ j ≤ 3 ∧ ρ 1 = u32 nd ∧ ρ 2 = ptr w.heap.size ∧ ρ 5 = u ∧ ρ 6 = i64 (2 - j) ∧ ds = [] ∧ Ext w1 w' ∧ w'.ownsRow w1.heap.size 30 7 u (accOf s nd j).length ((accOf s nd j).flatMap wtC)) 3
    ⟨0, .slice none 0 0, by simp, by simp, by simp, by simp, by simp, by simp, rfl, Ext.refl _, World.ownsRow_nil _ _ _ _⟩ ?_
  rintro k ρ ds w2 ⟨j, u, rfl, hj, e1, e2, e5, e6, rfl, hE, ho⟩
  by_cases hj3 : j < 3
  · have hj2 : (j : Int) ≤ 2 := by omega
    simp [e6, hj2]
    refine WC_loop (fun k ρ ds w' => ∃ (i : Nat) (u : Value) (a : List Wt), k = s.length - i ∧ i ≤ s.length ∧ ρ 1 = u32 nd ∧ ρ 2 = ptr w.heap.size ∧ ρ 5 = u ∧ ρ 6 = i64 (2 - j) ∧ ρ 7 = i64 i ∧ ds = [] ∧ Ext w1 w' ∧ a = accOf s nd j ++ qof (s.take i) (nd, 2 - (j : Int)) ∧ w'.ownsRow w1.heap.size 30 7 u a.length (a.flatMap wtC)) s.length
      ⟨0, u, accOf s nd j, by simp, by simp, by simp [e1], by simp [e2], by simp [e5], by simp [e6], by simp, rfl, hE, by simp [qof], ho⟩ ?_
    rintro k ρ ds w3 ⟨i, u, a, rfl, hi, e1, e2, e5, e6, e7, rfl, hE3, ha, ho3⟩
    have c03 := hE3.cell_eq c0
    have ho4 := ho3
    rw [ha, List.length_append, List.flatMap_append] at ho4
    by_cases hlt : i < s.length
    · have hq := List.getElem?_eq_getElem hlt
      have r := (WSl.row h hq).ext (hE1.trans hE3)
      have ix := WSl.index h i hlt w3
      have htk : s.take (i + 1) = s.take i ++ [s[i]] := by rw [List.take_add_one, hq]; rfl
      have hqs := qof_snoc (s.take i) s[i] (nd, 2 - (j : Int))
      rw [← htk] at hqs
      by_cases g1 : s[i].2.1 = nd
      · by_cases g2 : s[i].2.2.1 = 2 - (j : Int)
        · obtain ⟨y, hy⟩ : ∃ y, y = s[i] := ⟨_, rfl⟩
          rw [← hy] at g1 g2 r hqs hq
          simp [e1, e2, e5, e6, e7, c03, hlen, hlt, ix, r.c4, r.c5, r.c0, r.c1, r.c2, r.c3, r.c6, g1, g2]
          have a3 : Ext w3 (w3.alloc (.cells #[u32 y.1.1, u32 y.1.2.1, u64 y.1.2.2.1, u32 y.1.2.2.2, u32 nd, i64 (2 - (j : Int)), i64 y.2.2.2] 30)) := (Ext.refl w3).alloc _
          have hsl : WSl (w3.alloc (.cells #[u32 y.1.1, u32 y.1.2.1, u64 y.1.2.2.1, u32 y.1.2.2.2, u32 nd, i64 (2 - (j : Int)), i64 y.2.2.2] 30)) (.slice (some ⟨w3.heap.size, 0, none⟩) 1 1) [y] := by
            have := Sl.made w3 (wtC y) 30 7 1 rfl
            simp only [wtC, g1, g2] at this
            have e : [y].flatMap wtC = [u32 y.1.1, u32 y.1.2.1, u64 y.1.2.2.1, u32 y.1.2.2.2, u32 nd, i64 (2 - (j : Int)), i64 y.2.2.2] := by simp [g1, g2]
            show Sl _ 7 _ _ _
            rw [e]
            exact this
          generalize (w3.alloc (.cells #[u32 y.1.1, u32 y.1.2.1, u64 y.1.2.2.1, u32 y.1.2.2.2, u32 nd, i64 (2 - (j : Int)), i64 y.2.2.2] 30)) = w4 at *
          have hla : a.length ≤ 4 * s.length := by
            have h1 := acc_len s nd j
            have h2 := qof_len (s.take i) (nd, 2 - (j : Int))
            have h3 : (s.take i).length ≤ s.length := by rw [List.length_take]; omega
            rw [ha, List.length_append]; omega
          obtain ⟨u', w5, hr, ho5, hM5, -⟩ := append_own (P := Try.prog) (t := 22) (ty := 22) (e := 30) (s := 7) (by simp) (by simp) (by kernel_rfl) (own_ext ho3 a3) hsl (wone _) (by simp; omega) (Nat.le_trans hE3.size a3.size)
          simp [hr, e1, e2, e6, e7]
          rw [if_pos (by simp [quOf, g1, g2])] at hqs
          refine ⟨s.length - (i + 1), by omega, i + 1, rfl, by omega, by rw [wrap64 _ (by omega) (by omega)]; rfl, (((hE3.trans a3).mod (S := fun k => w1.heap.size ≤ k)).trans (hM5.weaken fun k hk => by have := own_ge ho3 hk.1; omega)).ext fun _ h => h, ?_⟩
          rw [hqs]
          rw [ha] at ho5
          simpa [Nat.add_assoc] using ho5
        · simp [e1, e2, e5, e6, e7, c03, hlen, hlt, ix, r.c4, r.c5, g1, g2]
          rw [if_neg (by simp [quOf, g2]), List.append_nil] at hqs
          exact ⟨s.length - (i + 1), by omega, i + 1, rfl, by omega, by rw [wrap64 _ (by omega) (by omega)]; rfl, hE3, by rw [hqs]; exact ho4⟩
      · simp [e1, e2, e5, e6, e7, c03, hlen, hlt, ix, r.c4, g1]
        rw [if_neg (by simp [quOf, g1]), List.append_nil] at hqs
        exact ⟨s.length - (i + 1), by omega, i + 1, rfl, by omega, by rw [wrap64 _ (by omega) (by omega)]; rfl, hE3, by rw [hqs]; exact ho4⟩
    · have : i = s.length := by omega
      subst this
      simp [e1, e2, e5, e6, e7, c03, hlen]
      rw [List.take_length, acc_step s nd j hj3] at ha
      rw [ha] at ho3
      exact ⟨3 - (j + 1), by omega, j + 1, rfl, by omega, by rw [wrap64 _ (by omega) (by omega)]; omega, hE3, ho3⟩
  · have : j = 3 := by omega
    subst this
    simp [e5, e6]
    exact ⟨own_lower ho hE1.size, hE1.trans hE⟩
end Go.Proofs
namespace Go.Proofs
open Pk
set_option maxRecDepth 10000
/-- A document's line in a block. -/
structure RAt (W : World) (b : Nat) (v : Value) (m : Int) : Prop where
  c0 : W.cell? ⟨b, 0, none⟩ = some v
  c1 : W.cell? ⟨b, 1, none⟩ = some (i64 m)
  f0 : W.frozen? ⟨b, 0, none⟩ = false
  f1 : W.frozen? ⟨b, 1, none⟩ = false
theorem RAt.new (W : World) (v : Value) (m : Int) : RAt (W.alloc (.cells #[v, i64 m] 46)) W.heap.size v m := by
  have ho := World.alloc_heap_new W (.cells #[v, i64 m] 46)
  refine ⟨by simp, by simp, ?_, ?_⟩ <;> simp only [World.frozen?, ho] <;> rfl
theorem RAt.keep {W W' : World} {b : Nat} {v : Value} {m : Int} (h : RAt W b v m) (hb : W'.heap[b]? = W.heap[b]?) : RAt W' b v m := by
  refine ⟨?_, ?_, ?_, ?_⟩
  · rw [← h.c0]; unfold World.cell?; rw [hb]
  · rw [← h.c1]; unfold World.cell?; rw [hb]
  · rw [← h.f0]; unfold World.frozen?; rw [hb]
  · rw [← h.f1]; unfold World.frozen?; rw [hb]
theorem RAt.lt {W : World} {b : Nat} {v : Value} {m : Int} (h : RAt W b v m) : b < W.heap.size := World.block_lt_of_cell? _ _ h.c0
theorem RAt.ext {W W' : World} {b : Nat} {v : Value} {m : Int} (h : RAt W b v m) (hE : Ext W W') : RAt W' b v m := h.keep (hE.blk b h.lt)
theorem RAt.mod {W W' : World} {b : Nat} {v : Value} {m : Int} {S : Nat → Prop} (h : RAt W b v m) (hE : Mod S W W') (hS : ¬ S b) : RAt W' b v m := h.keep (hE.blk b h.lt hS)
/-- What comes back stands in a block of its own, or is what was given. -/
def Fresh (w w' : World) (v v' : Value) : Prop := v' = v ∨ (slN v' = false → w.heap.size ≤ slB v' ∧ slB v' < w'.heap.size)
theorem Fresh.of {w w' : World} {v v' : Value} {base n : Nat} {xs : List Value} (h : w'.ownsRow base 30 7 v' n xs) (hb : w.heap.size ≤ base) : Fresh w w' v v' := by
  refine .inr fun hn => ⟨Nat.le_trans hb (own_ge h hn), ?_⟩
  obtain ⟨c, hc⟩ := own_obj h hn
  exact (Array.getElem?_eq_some_iff.1 hc).1
theorem append_new {w : World} {base : Nat} {b n : Nat} {ys : List Wt} {v2 : Value} (hown : w.ownsRow base 30 7 (.slice (some ⟨b, 0, none⟩) 0 0) 0 []) (h2 : WSl w v2 ys) (hb : ys.length ≤ 1000000) (hbase : base ≤ w.heap.size) (hn : n = ys.length) :
    ∃ v' w', (Builtin.append_ #[22, 22] 22 #[.slice (some ⟨b, 0, none⟩) 0 0, v2]).run Try.prog w = .ok v' w' ∧ w'.ownsRow base 30 7 v' n (ys.flatMap wtC) ∧ Ext w w' := by
  subst hn
  obtain ⟨v', w', hr, ho, -, -⟩ := append_own (P := Try.prog) (t := 22) (ty := 22) (e := 30) (s := 7) (by simp) (by simp) (by kernel_rfl) hown h2 (wone _) (by omega) hbase
  obtain ⟨v2', w2', hr2, -, hE, -⟩ := append_full (P := Try.prog) (t := 22) (ty := 22) (e := 30) (s := 7) (by simp) (by simp) (by kernel_rfl) (sl_of_own hown) rfl h2 (wone _) (by omega)
  rw [hr] at hr2
  cases hr2
  exact ⟨v', w', hr, by simpa using ho, hE⟩
theorem own_empty (W : World) (base : Nat) (h : base ≤ W.heap.size) : (W.alloc (.cells #[] 30)).ownsRow base 30 7 (.slice (some ⟨W.heap.size, 0, none⟩) 0 0) 0 [] :=
  ⟨rfl, .inr ⟨W.heap.size, 0, #[], rfl, h, World.alloc_heap_new W _, Nat.le_refl _, by decide, rfl, rfl⟩⟩
def rputE (s : List Wt) (most : Int) (x : Wt) : Int := if badW x then 2 else if (findN s x.1).isSome then 150 else if most ≤ (s.length : Int) then 220 else 0
theorem rputE_eq (s : List Wt) (most : Int) (x : Wt) : rputE s most x = putE s most x := by
  unfold rputE putE badW
  cases badN x.1 <;> by_cases h : x.2.1 = 0 <;> cases badR x <;> simp [h]
theorem at_none {s : List Wt} {n : Nm} : s.findIdx? (fun y => decide (y.1 = n)) = none ↔ findN s n = none := by
  unfold findN
  rw [List.findIdx?_eq_none_iff, List.find?_eq_none]
  simp
set_option maxHeartbeats 1000000 in
theorem rput_c {w : World} {v : Value} {s : List Wt} (h : WSl w v s) (most : Int) (x : Wt) (hx : WtOk x) (hb : s.length ≤ 1000) :
    FN Try.prog 41 [rlV v most, wtV x] w fun e w' => ∃ v', e = .returned (.tuple #[rlV v' most, i64 (putE s most x)]) ∧ WSl w' v' (if putE s most x = 0 then s ++ [x] else s) ∧ Fresh w w' v v' ∧ Ext w w' := by
  obtain ⟨va, vc, hvs⟩ := h.isSlice
  subst hvs
  obtain ⟨v, hvd⟩ : ∃ v, v = Value.slice va s.length vc := ⟨_, rfl⟩
  have h' : WSl w (.slice va s.length vc) s := h
  rw [← hvd] at h ⊢
  refine FN_enter Try.func41 rfl rfl (by kernel_rfl) ?_
  simp
  rw [← rputE_eq]
  have hE1 : Ext w (((w.alloc (.cells #[v, i64 most] 46)).alloc (.cells #[u32 x.1.1, u32 x.1.2.1, u64 x.1.2.2.1, u32 x.1.2.2.2, u32 x.2.1, i64 x.2.2.1, i64 x.2.2.2] 30)).alloc (.cells #[.slice none 0 0, i64 0] 46)) := (((Ext.refl w).alloc _).alloc _).alloc _
  have hxa : WtAt (((w.alloc (.cells #[v, i64 most] 46)).alloc (.cells #[u32 x.1.1, u32 x.1.2.1, u64 x.1.2.2.1, u32 x.1.2.2.2, u32 x.2.1, i64 x.2.2.1, i64 x.2.2.2] 30)).alloc (.cells #[.slice none 0 0, i64 0] 46)) (w.heap.size + 1) x := by
    have := (WtAt.new (w.alloc (.cells #[v, i64 most] 46)) x 30).ext ((Ext.refl _).alloc (.cells #[.slice none 0 0, i64 0] 46))
    simpa using this
  have hbx : RAt (((w.alloc (.cells #[v, i64 most] 46)).alloc (.cells #[u32 x.1.1, u32 x.1.2.1, u64 x.1.2.2.1, u32 x.1.2.2.2, u32 x.2.1, i64 x.2.2.1, i64 x.2.2.2] 30)).alloc (.cells #[.slice none 0 0, i64 0] 46)) w.heap.size v most := (RAt.new w v most).ext (((Ext.refl _).alloc _).alloc _)
  have hob : RAt (((w.alloc (.cells #[v, i64 most] 46)).alloc (.cells #[u32 x.1.1, u32 x.1.2.1, u64 x.1.2.2.1, u32 x.1.2.2.2, u32 x.2.1, i64 x.2.2.1, i64 x.2.2.2] 30)).alloc (.cells #[.slice none 0 0, i64 0] 46)) (w.heap.size + 1 + 1) (.slice none 0 0) 0 := by
    have := RAt.new ((w.alloc (.cells #[v, i64 most] 46)).alloc (.cells #[u32 x.1.1, u32 x.1.2.1, u64 x.1.2.2.1, u32 x.1.2.2.2, u32 x.2.1, i64 x.2.2.1, i64 x.2.2.2] 30)) (.slice none 0 0) 0
    simpa using this
  have hsz : (((w.alloc (.cells #[v, i64 most] 46)).alloc (.cells #[u32 x.1.1, u32 x.1.2.1, u64 x.1.2.2.1, u32 x.1.2.2.2, u32 x.2.1, i64 x.2.2.1, i64 x.2.2.2] 30)).alloc (.cells #[.slice none 0 0, i64 0] 46)).heap.size = w.heap.size + 1 + 1 + 1 := by simp
  generalize (((w.alloc (.cells #[v, i64 most] 46)).alloc (.cells #[u32 x.1.1, u32 x.1.2.1, u64 x.1.2.2.1, u32 x.1.2.2.2, u32 x.2.1, i64 x.2.2.1, i64 x.2.2.2] 30)).alloc (.cells #[.slice none 0 0, i64 0] 46)) = w1 at *
  refine FN.mono (rwait_c x hx w1) ?_
  rintro _ w2 ⟨rfl, hE2⟩
  have hEa := hE1.trans hE2
  have hx2 := hxa.ext hE2
  have bx2 := hbx.ext hE2
  have ob2 := hob.ext hE2
  have s2 := hE2.size
  have fin : ∀ (W : World) (a b : Value), Ext w W → Ext w ((W.setCell ⟨w.heap.size + 1 + 1, 0, none⟩ a).setCell ⟨w.heap.size + 1 + 1, 1, none⟩ b) := fun W a b hW => (hW.setCell _ _ (by simp only; omega)).setCell _ _ (by simp only; omega)
  unfold rputE
  cases hw : badW x with
  | true =>
    rw [hvd] at bx2
    simp [bx2.c0, bx2.c1, ob2.c0, ob2.c1, ob2.f0, ob2.f1, cell_setCell]
    exact ⟨Sl.ext h' (fin _ _ _ hEa), .inl hvd.symm, fin _ _ _ hEa⟩
  | false =>
    simp [bx2.c0, bx2.c1, hx2.c0, hx2.c1, hx2.c2, hx2.c3]
    refine FN.mono (at_c (h.ext hEa) most x.1 hb) ?_
    rintro _ w3 ⟨rfl, hE3⟩
    have hEb := hEa.trans hE3
    have hx3 := hx2.ext hE3
    have bx3 := bx2.ext hE3
    have ob3 := ob2.ext hE3
    have s3 := hE3.size
    have hlen := fun ty W => h.isLen (P := Try.prog) (t := 22) (by simp) ty W
    cases hf : s.findIdx? (fun y => decide (y.1 = x.1)) with
    | some i =>
      have hs : (findN s x.1).isSome = true := by
        cases hq : findN s x.1 with
        | none => rw [at_none.2 hq] at hf; cases hf
        | some y => rfl
      have bx3' := bx3
      rw [hvd] at bx3
      simp [hs, bx3.c0, bx3.c1, ob3.c0, ob3.c1, ob3.f0, ob3.f1, cell_setCell]
      exact ⟨Sl.ext h' (fin _ _ _ hEb), .inl hvd.symm, fin _ _ _ hEb⟩
    | none =>
      have hs : findN s x.1 = none := at_none.1 hf
      by_cases hm : most ≤ (s.length : Int)
      · have bx3' := bx3
        rw [hvd] at bx3 hlen
        simp [hs, hm, hlen, bx3.c0, bx3.c1, ob3.c0, ob3.c1, ob3.f0, ob3.f1, cell_setCell]
        exact ⟨Sl.ext h' (fin _ _ _ hEb), .inl hvd.symm, fin _ _ _ hEb⟩
      · simp [hs, hm, hlen, bx3.c0, bx3.c1]
        refine WC_drawL 6 (.F 1 <| .F 2 <| .F 4 <| .D 0 <| .D 5 <| .W 0 <| .L 3 <| .W 5 <| .Z) (fun _ => false) (fun _ => false)
          (fun i u W => if i = 0 then (∃ b, u = .slice (some ⟨b, 0, none⟩) 0 0) ∧ W.ownsRow w1.heap.size 30 7 u 0 [] else w1.heap.size ≤ slB u ∧ WSl W u [x]) rfl (by kernel_rfl) (fun _ h => h)
          (fun i u a b h1 h2 => ?_) fun W hW => ?_
        · by_cases hi : i = 0
          · rw [if_pos hi] at h1 ⊢
            exact ⟨h1.1, own_ext h1.2 (agr_ext h2)⟩
          · rw [if_neg hi] at h1 ⊢
            exact ⟨h1.1, h1.2.ext (agr_ext h2)⟩
        have hWE : Ext w3 W := hW ▸ Ext.drew w3
        have bx4 := bx3.ext hWE
        have hx4 := hx3.ext hWE
        simp [bx4.c0, hx4.c0, hx4.c1, hx4.c2, hx4.c3, hx4.c4, hx4.c5, hx4.c6]
        refine RL_float (fun W1 h1 => ?_) ?_
        · simp
          have hs := (hE3.trans (hWE.trans (agr_ext h1))).size
          exact ⟨(Ext.refl _).alloc _, own_empty W1 _ (by omega)⟩
        simp
        refine RL_float (fun W1 h1 => ?_) ?_
        · simp
          have hs := (hE3.trans (hWE.trans (agr_ext h1))).size
          exact ⟨(Ext.refl _).alloc _, by simp only [slB]; omega, Sl.made W1 (wtC x) 30 7 1 rfl⟩
        simp
        refine RL_wait fun v0 W2 h2 ⟨⟨b0, hb0⟩, ho0⟩ => ?_
        subst hb0
        simp
        refine RL_loose fun W3 h3 => ?_
        have hE4 := hEb.trans (hWE.trans (h2.trans h3))
        have hs4 := (hE3.trans (hWE.trans (h2.trans h3))).size
        obtain ⟨v1, W4, hr4, ho4, hE5⟩ := append_new (own_ext ho0 h3) (h.ext hE4) (by omega) (by omega) rfl
        simp [hr4]
        refine KR_ext hE5 ?_
        simp
        refine RL_wait fun v5 W5 h5 ⟨hl5, hs5⟩ => ?_
        obtain ⟨v2, W6, hr6, ho6, hM6, -⟩ := append_own (P := Try.prog) (t := 22) (ty := 22) (e := 30) (s := 7) (by simp) (by simp) (by kernel_rfl) (own_ext ho4 h5) hs5 (wone _) (by simp; omega) (by have := hE5.size; have := h5.size; omega)
        obtain ⟨a2, c2, rfl⟩ := own_val ho6
        have nS : ∀ k, k < w1.heap.size → ¬ (slN v1 = false ∧ k = slB v1) := fun k hk ⟨e1, e2⟩ => by have := own_ge ho4 e1; omega
        have hE6 := (h2.trans h3).trans (hE5.trans h5)
        have bx6 := (bx4.ext hE6).mod hM6 (nS _ (by omega))
        have ob6 := ((ob3.ext hWE).ext hE6).mod hM6 (nS _ (by omega))
        simp [hr6, bx6.c0, bx6.c1, bx6.f0, ob6.c0, ob6.c1, ob6.f0, ob6.f1, cell_setCell]
        have hMf : Mod (fun k => w.heap.size ≤ k ∧ k < w1.heap.size) W6 (((W6.setCell ⟨w.heap.size, 0, none⟩ (.slice a2 (s.length + 1) c2)).setCell ⟨w.heap.size + 1 + 1, 0, none⟩ (.slice a2 (s.length + 1) c2)).setCell ⟨w.heap.size + 1 + 1, 1, none⟩ (i64 most)) :=
          (((Mod.refl (fun k => w.heap.size ≤ k ∧ k < w1.heap.size) W6).setCell ⟨w.heap.size, 0, none⟩ _ (.inl ⟨by simp only; omega, by simp only; omega⟩)).setCell ⟨w.heap.size + 1 + 1, 0, none⟩ _ (.inl ⟨by simp only; omega, by simp only; omega⟩)).setCell ⟨w.heap.size + 1 + 1, 1, none⟩ _ (.inl ⟨by simp only; omega, by simp only; omega⟩)
        refine ⟨?_, ?_, ?_⟩
        · have := sl_of_own (own_keep ho6 fun hn hl => hMf.blk _ hl (by have := own_ge ho6 hn; omega))
          show Sl _ 7 _ _ _
          simpa using this
        · have := Fresh.of (w := w) (v := v) (own_keep ho6 fun hn hl => hMf.blk _ hl (by have := own_ge ho6 hn; omega)) (by omega)
          simpa using this
        · exact (((hE4.trans (hE5.trans h5)).mod (S := fun k => w.heap.size ≤ k)).trans ((hM6.weaken fun k hk => by have := own_ge ho4 hk.1; omega).trans (hMf.weaken fun k hk => hk.1))).ext fun _ h => h
end Go.Proofs
namespace Go.Proofs
open Pk
set_option maxRecDepth 10000
/-- A thing in a block of one's own. -/
structure WAt (W : World) (b : Nat) (x : Wt) : Prop where
  at' : WtAt W b x
  fz : ∀ j, W.frozen? ⟨b, j, none⟩ = false
theorem WAt.new (W : World) (x : Wt) : WAt (W.alloc (.cells #[u32 x.1.1, u32 x.1.2.1, u64 x.1.2.2.1, u32 x.1.2.2.2, u32 x.2.1, i64 x.2.2.1, i64 x.2.2.2] 30)) W.heap.size x := by
  have ho := World.alloc_heap_new W (.cells #[u32 x.1.1, u32 x.1.2.1, u64 x.1.2.2.1, u32 x.1.2.2.2, u32 x.2.1, i64 x.2.2.1, i64 x.2.2.2] 30)
  refine ⟨WtAt.new W x 30, fun j => ?_⟩
  unfold World.frozen?
  rw [ho]
  show (decide (0 ≤ j) && decide (j < 0)) = false
  simp
theorem WAt.keep {W W' : World} {b : Nat} {x : Wt} (h : WAt W b x) (hb : W'.heap[b]? = W.heap[b]?) : WAt W' b x := by
  refine ⟨⟨?_, ?_, ?_, ?_, ?_, ?_, ?_⟩, fun j => ?_⟩
  · rw [← h.1.c0]; unfold World.cell?; rw [hb]
  · rw [← h.1.c1]; unfold World.cell?; rw [hb]
  · rw [← h.1.c2]; unfold World.cell?; rw [hb]
  · rw [← h.1.c3]; unfold World.cell?; rw [hb]
  · rw [← h.1.c4]; unfold World.cell?; rw [hb]
  · rw [← h.1.c5]; unfold World.cell?; rw [hb]
  · rw [← h.1.c6]; unfold World.cell?; rw [hb]
  · rw [← h.fz j]; unfold World.frozen?; rw [hb]
theorem WAt.ext {W W' : World} {b : Nat} {x : Wt} (h : WAt W b x) (hE : Ext W W') : WAt W' b x := h.keep (hE.blk b h.1.lt)
theorem WAt.mod {W W' : World} {b : Nat} {x : Wt} {S : Nat → Prop} (h : WAt W b x) (hE : Mod S W W') (hS : ¬ S b) : WAt W' b x := h.keep (hE.blk b h.1.lt hS)
theorem ext_set9 {w W : World} (hW : Ext w W) (b0 b1 : Nat) (h0 : w.heap.size ≤ b0) (h1 : w.heap.size ≤ b1) (a b c d e f g h i : Value) :
    Ext w (((((((((W.setCell ⟨b0, 0, none⟩ a).setCell ⟨b0, 1, none⟩ b).setCell ⟨b1, 0, none⟩ c).setCell ⟨b1, 1, none⟩ d).setCell ⟨b1, 2, none⟩ e).setCell ⟨b1, 3, none⟩ f).setCell ⟨b1, 4, none⟩ g).setCell ⟨b1, 5, none⟩ h).setCell ⟨b1, 6, none⟩ i) :=
  ((((((((hW.setCell _ _ h0).setCell _ _ h0).setCell _ _ h1).setCell _ _ h1).setCell _ _ h1).setCell _ _ h1).setCell _ _ h1).setCell _ _ h1).setCell _ _ h1
theorem find_at {s : List Wt} {n : Nm} {i : Nat} (h : s.findIdx? (fun y => decide (y.1 = n)) = some i) : ∃ hi : i < s.length, findN s n = some s[i] ∧ s[i].1 = n ∧ ∀ j (hj : j < i), s[j].1 ≠ n := by
  obtain ⟨hi, h1, h2⟩ := List.findIdx?_eq_some_iff_getElem.1 h
  refine ⟨hi, ?_, by simpa using h1, fun j hj => by simpa using h2 j hj⟩
  unfold findN
  rw [List.find?_eq_some_iff_getElem]
  exact ⟨h1, i, hi, rfl, fun j hj => by simpa using h2 j hj⟩
theorem mdel_at {s : List Wt} {n : Nm} {i : Nat} (hn : (s.map (·.1)).Nodup) (h : s.findIdx? (fun y => decide (y.1 = n)) = some i) : mdel s n = s.take i ++ s.drop (i + 1) := by
  obtain ⟨hi, -, h1, -⟩ := find_at h
  have e : s = s.take i ++ s[i] :: s.drop (i + 1) := by rw [← List.drop_eq_getElem_cons hi, List.take_append_drop]
  have hn2 := hn
  rw [e] at hn2
  have := mdel_mid hn2
  rw [← e, h1] at this
  exact this
set_option maxHeartbeats 1000000 in
theorem rdrop_c {w : World} {v : Value} {s : List Wt} (h : WSl w v s) (most : Int) (n : Nm) (hn0 : 0 ≤ n.1) (hb : s.length ≤ 1000) (hnd : (s.map (·.1)).Nodup) :
    FN Try.prog 42 [rlV v most, nmV n] w fun e w' => ∃ v', e = .returned (.tuple #[rlV v' most, wtV (dropV s n), i64 (dropE s n)]) ∧ WSl w' v' (if dropE s n = 0 then mdel s n else s) ∧
      (dropE s n = 0 → w'.ownsRow w.heap.size 30 7 v' (mdel s n).length ((mdel s n).flatMap wtC)) ∧ Fresh w w' v v' ∧ Ext w w' := by
  obtain ⟨va, vc, hvs⟩ := h.isSlice
  subst hvs
  have h' : WSl w (.slice va s.length vc) s := h
  obtain ⟨v, hvd⟩ : ∃ v, v = Value.slice va s.length vc := ⟨_, rfl⟩
  rw [← hvd] at h ⊢
  refine FN_enter Try.func42 rfl rfl (by kernel_rfl) ?_
  simp
  have hE1 : Ext w ((((w.alloc (.cells #[v, i64 most] 46)).alloc (.cells #[u32 n.1, u32 n.2.1, u64 n.2.2.1, u32 n.2.2.2] 28)).alloc (.cells #[.slice none 0 0, i64 0] 46)).alloc (.cells #[u32 0, u32 0, u64 0, u32 0, u32 0, i64 0, i64 0] 30)) := ((((Ext.refl w).alloc _).alloc _).alloc _).alloc _
  have hbx : RAt ((((w.alloc (.cells #[v, i64 most] 46)).alloc (.cells #[u32 n.1, u32 n.2.1, u64 n.2.2.1, u32 n.2.2.2] 28)).alloc (.cells #[.slice none 0 0, i64 0] 46)).alloc (.cells #[u32 0, u32 0, u64 0, u32 0, u32 0, i64 0, i64 0] 30)) w.heap.size v most := (RAt.new w v most).ext ((((Ext.refl _).alloc _).alloc _).alloc _)
  have hna : NmAt ((((w.alloc (.cells #[v, i64 most] 46)).alloc (.cells #[u32 n.1, u32 n.2.1, u64 n.2.2.1, u32 n.2.2.2] 28)).alloc (.cells #[.slice none 0 0, i64 0] 46)).alloc (.cells #[u32 0, u32 0, u64 0, u32 0, u32 0, i64 0, i64 0] 30)) (w.heap.size + 1) n := by
    have := (NmAt.new (w.alloc (.cells #[v, i64 most] 46)) n 28).ext (((Ext.refl _).alloc (.cells #[.slice none 0 0, i64 0] 46)).alloc (.cells #[u32 0, u32 0, u64 0, u32 0, u32 0, i64 0, i64 0] 30))
    simpa using this
  have hob : RAt ((((w.alloc (.cells #[v, i64 most] 46)).alloc (.cells #[u32 n.1, u32 n.2.1, u64 n.2.2.1, u32 n.2.2.2] 28)).alloc (.cells #[.slice none 0 0, i64 0] 46)).alloc (.cells #[u32 0, u32 0, u64 0, u32 0, u32 0, i64 0, i64 0] 30)) (w.heap.size + 1 + 1) (.slice none 0 0) 0 := by
    have := (RAt.new ((w.alloc (.cells #[v, i64 most] 46)).alloc (.cells #[u32 n.1, u32 n.2.1, u64 n.2.2.1, u32 n.2.2.2] 28)) (.slice none 0 0) 0).ext ((Ext.refl _).alloc (.cells #[u32 0, u32 0, u64 0, u32 0, u32 0, i64 0, i64 0] 30))
    simpa using this
  have hox : WAt ((((w.alloc (.cells #[v, i64 most] 46)).alloc (.cells #[u32 n.1, u32 n.2.1, u64 n.2.2.1, u32 n.2.2.2] 28)).alloc (.cells #[.slice none 0 0, i64 0] 46)).alloc (.cells #[u32 0, u32 0, u64 0, u32 0, u32 0, i64 0, i64 0] 30)) (w.heap.size + 1 + 1 + 1) zW := by
    have := WAt.new (((w.alloc (.cells #[v, i64 most] 46)).alloc (.cells #[u32 n.1, u32 n.2.1, u64 n.2.2.1, u32 n.2.2.2] 28)).alloc (.cells #[.slice none 0 0, i64 0] 46)) zW
    simpa [zW] using this
  have hsz : ((((w.alloc (.cells #[v, i64 most] 46)).alloc (.cells #[u32 n.1, u32 n.2.1, u64 n.2.2.1, u32 n.2.2.2] 28)).alloc (.cells #[.slice none 0 0, i64 0] 46)).alloc (.cells #[u32 0, u32 0, u64 0, u32 0, u32 0, i64 0, i64 0] 30)).heap.size = w.heap.size + 1 + 1 + 1 + 1 := by simp
  generalize ((((w.alloc (.cells #[v, i64 most] 46)).alloc (.cells #[u32 n.1, u32 n.2.1, u64 n.2.2.1, u32 n.2.2.2] 28)).alloc (.cells #[.slice none 0 0, i64 0] 46)).alloc (.cells #[u32 0, u32 0, u64 0, u32 0, u32 0, i64 0, i64 0] 30)) = w1 at *
  refine FN.mono (rname_c n hn0 w1) ?_
  rintro _ w2 ⟨rfl, hE2⟩
  have hEa := hE1.trans hE2
  have hn2 := hna.ext hE2
  have bx2 := hbx.ext hE2
  have ob2 := hob.ext hE2
  have ox2 := hox.ext hE2
  have s2 := hE2.size
  unfold dropV dropE
  cases hw : badN n with
  | true =>
    rw [hvd] at bx2
    have oc := ox2.1
    have of := ox2.fz
    simp [bx2.c0, bx2.c1, ob2.c0, ob2.c1, ob2.f0, ob2.f1, cell_setCell, oc.c0, oc.c1, oc.c2, oc.c3, oc.c4, oc.c5, oc.c6, of, zW]
    have hf := ext_set9 hEa (w.heap.size + 1 + 1) (w.heap.size + 1 + 1 + 1) (by omega) (by omega)
    exact ⟨Sl.ext h' (hf _ _ _ _ _ _ _ _ _), .inl hvd.symm, hf _ _ _ _ _ _ _ _ _⟩
  | false =>
    simp [bx2.c0, bx2.c1, hn2.c0, hn2.c1, hn2.c2, hn2.c3]
    refine FN.mono (at_c (h.ext hEa) most n hb) ?_
    rintro _ w3 ⟨rfl, hE3⟩
    have hEb := hEa.trans hE3
    have bx3 := bx2.ext hE3
    have ob3 := ob2.ext hE3
    have ox3 := ox2.ext hE3
    have s3 := hE3.size
    cases hf : s.findIdx? (fun y => decide (y.1 = n)) with
    | none =>
      have hs : findN s n = none := at_none.1 hf
      rw [hvd] at bx3
      have oc := ox3.1
      have of := ox3.fz
      simp [hs, bx3.c0, bx3.c1, ob3.c0, ob3.c1, ob3.f0, ob3.f1, cell_setCell, oc.c0, oc.c1, oc.c2, oc.c3, oc.c4, oc.c5, oc.c6, of, zW]
      have hf := ext_set9 hEb (w.heap.size + 1 + 1) (w.heap.size + 1 + 1 + 1) (by omega) (by omega)
      exact ⟨Sl.ext h' (hf _ _ _ _ _ _ _ _ _), .inl hvd.symm, hf _ _ _ _ _ _ _ _ _⟩
    | some i =>
      obtain ⟨hi, hs, hyn, -⟩ := find_at hf
      have hq := List.getElem?_eq_getElem hi
      have hmd := mdel_at hnd hf
      rw [hmd]
      obtain ⟨y, hy⟩ : ∃ y, y = s[i] := ⟨_, rfl⟩
      rw [← hy] at hs hyn hq
      have r := (WSl.row h hq).ext hEb
      have ix := fun W => WSl.index h i hi W
      have nn : ¬ ((i : Int) < 0) := by omega
      simp [hs, nn, bx3.c0, ix, r.c0, r.c1, r.c2, r.c3, r.c4, r.c5, r.c6]
      have a3 : Ext w3 (w3.alloc (.cells #[u32 y.1.1, u32 y.1.2.1, u64 y.1.2.2.1, u32 y.1.2.2.2, u32 y.2.1, i64 y.2.2.1, i64 y.2.2.2] 30)) := (Ext.refl w3).alloc _
      have y3 : WAt (w3.alloc (.cells #[u32 y.1.1, u32 y.1.2.1, u64 y.1.2.2.1, u32 y.1.2.2.2, u32 y.2.1, i64 y.2.2.1, i64 y.2.2.2] 30)) w3.heap.size y := WAt.new w3 y
      have z3 : (w3.alloc (.cells #[u32 y.1.1, u32 y.1.2.1, u64 y.1.2.2.1, u32 y.1.2.2.2, u32 y.2.1, i64 y.2.2.1, i64 y.2.2.2] 30)).heap.size = w3.heap.size + 1 := by simp
      obtain ⟨by8, hb8⟩ : ∃ by8, by8 = w3.heap.size := ⟨_, rfl⟩
      rw [← hb8] at y3 z3 ⊢
      generalize (w3.alloc (.cells #[u32 y.1.1, u32 y.1.2.1, u64 y.1.2.2.1, u32 y.1.2.2.2, u32 y.2.1, i64 y.2.2.1, i64 y.2.2.2] 30)) = w4 at *
      have hEc := hEb.trans a3
      refine WC_drawC 11 (.F 1 <| .F 2 <| .F 3 <| .F 4 <| .F 6 <| .F 7 <| .F 8 <| .F 9 <| .F 10 <| .C 0 <| .C 5 <| .Z) (fun _ => false) rfl (by kernel_rfl) fun W hW => ?_
      have hWE : Ext w4 W := hW ▸ Ext.drew w4
      have bx4 := (bx3.ext a3).ext hWE
      have h4 := h.ext (hEc.trans hWE)
      have sh := fun W => h4.sliceH (P := Try.prog) (t := 22) (by simp) .i64 i (by omega) (by omega) W
      have sl := fun W => h4.sliceL (P := Try.prog) (t := 22) (by simp) .i64 ((i : Int) + 1) (by omega) (by omega) W
      have wi : IntKind.i64.wrap ((i : Int) + 1) = (i : Int) + 1 := wrap64 _ (by omega) (by omega)
      have ht : WSl W (slcH v i) (s.take i) := by
        have := h4.takeH i (by omega)
        rw [flat_take] at this
        show Sl _ 7 _ _ _
        rw [List.length_take, Nat.min_eq_left (by omega)]
        exact this
      have hd : WSl W (slcL v (i + 1) 7) (s.drop (i + 1)) := by
        have := h4.dropL (i + 1) (by omega)
        rw [flat_drop] at this
        show Sl _ 7 _ _ _
        rw [List.length_drop]
        exact this
      have hti : ((i : Int) + 1).toNat = i + 1 := by omega
      have hs4 := hEc.size
      simp [bx4.c0, wi, sh, sl, hti]
      have a5 : Ext W (W.alloc (.cells #[] 30)) := (Ext.refl W).alloc _
      have o5 := own_empty W w4.heap.size hWE.size
      refine KR_ext a5 ?_
      simp
      have hW5 := hWE.size
      have h34 := a3.size
      generalize (W.alloc (.cells #[] 30)) = W5 at *
      obtain ⟨v1, W6, hr6, ho6, hE6⟩ := append_new o5 (ht.ext a5) (by simp; omega) (by have := a5.size; omega) rfl
      simp [hr6]
      refine KR_ext hE6 ?_
      simp
      obtain ⟨v2, W7, hr7, ho7, hM7, -⟩ := append_own (P := Try.prog) (t := 22) (ty := 22) (e := 30) (s := 7) (by simp) (by simp) (by kernel_rfl) ho6 (hd.ext (a5.trans hE6)) (wone _) (by simp; omega) (by have := a5.size; have := hE6.size; omega)
      obtain ⟨a2, c2, rfl⟩ := own_val ho7
      have nS : ∀ k, k < w4.heap.size → ¬ (slN v1 = false ∧ k = slB v1) := fun k hk ⟨e1, e2⟩ => by have := own_ge ho6 e1; omega
      have hE47 := (hWE.trans a5).trans hE6
      have bx7 := ((bx3.ext a3).ext hE47).mod hM7 (nS _ (by omega))
      have ob7 := ((ob3.ext a3).ext hE47).mod hM7 (nS _ (by omega))
      have ox7 := ((ox3.ext a3).ext hE47).mod hM7 (nS _ (by omega))
      have y7 := (y3.ext hE47).mod hM7 (nS _ (by omega))
      simp [hr7, bx7.c0, bx7.f0]
      obtain ⟨W8, hW8⟩ : ∃ W8, W8 = W7.setCell ⟨w.heap.size, 0, none⟩ (.slice a2 ((s.take i).length + (s.drop (i + 1)).length) c2) := ⟨_, rfl⟩
      have m8 : Mod (fun k => k = w.heap.size) W7 W8 := hW8 ▸ (Mod.refl _ W7).setC 0 _
      have b80 : W8.cell? ⟨w.heap.size, 0, none⟩ = some (.slice a2 ((s.take i).length + (s.drop (i + 1)).length) c2) := by rw [hW8]; simp [bx7.c0, cell_setCell]
      have b81 : W8.cell? ⟨w.heap.size, 1, none⟩ = some (i64 most) := by rw [hW8]; simp [bx7.c1, cell_setCell]
      simp at hW8 b80
      rw [← hW8]
      refine WC_drawC 3 (.F 0 <| .F 1 <| .C 2 <| .Z) (fun k => decide (k = w.heap.size + 1 + 1)) rfl (by kernel_rfl) fun W9 hW9 => ?_
      have hE9 : Ext W8 W9 := hW9 ▸ Ext.drew W8
      have b90 := hE9.cell_eq b80
      have b91 := hE9.cell_eq b81
      have ob9 := (ob7.mod m8 (by omega)).ext hE9
      have ox9 := (ox7.mod m8 (by omega)).ext hE9
      have y9 := (y7.mod m8 (by omega)).ext hE9
      have X0 : decide (by8 = w.heap.size + 1 + 1) = false := by simp; omega
      have yc := y9.1
      simp [b90, b91, yc.c0, yc.c1, yc.c2, yc.c3, yc.c4, yc.c5, yc.c6, X0, ob9.c0, ob9.c1, ob9.f0, ob9.f1, cell_setCell]
      obtain ⟨V, hV⟩ : ∃ V, V = (W9.setCell ⟨w.heap.size + 1 + 1, 0, none⟩ (.slice a2 (min i s.length + (s.length - (i + 1))) c2)).setCell ⟨w.heap.size + 1 + 1, 1, none⟩ (i64 most) := ⟨_, rfl⟩
      have m9 : Mod (fun k => k = w.heap.size + 1 + 1) W9 V := hV ▸ ((Mod.refl _ W9).setC 0 _).setC 1 _
      have v0 : V.cell? ⟨w.heap.size + 1 + 1, 0, none⟩ = some (.slice a2 (min i s.length + (s.length - (i + 1))) c2) := by rw [hV]; simp [ob9.c0, cell_setCell]
      have v1' : V.cell? ⟨w.heap.size + 1 + 1, 1, none⟩ = some (i64 most) := by rw [hV]; simp [ob9.c1, cell_setCell]
      rw [← hV]
      refine KR_mk (m9.agr fun k hk e => by simp [e] at hk) ?_
      have oxV := ox9.mod m9 (by omega)
      have oc := oxV.1
      have of := oxV.fz
      simp [oc.c0, oc.c1, oc.c2, oc.c3, oc.c4, oc.c5, oc.c6, of, v0, v1', cell_setCell]
      have m7 := mod7 V (w.heap.size + 1 + 1 + 1) (u32 y.1.1) (u32 y.1.2.1) (u64 y.1.2.2.1) (u32 y.1.2.2.2) (u32 y.2.1) (i64 y.2.2.1) (i64 y.2.2.2)
      have mAll : Mod (fun k => w.heap.size ≤ k ∧ k < w4.heap.size) W7 _ := (m8.weaken fun k hk => ⟨by omega, by omega⟩).trans ((hE9.mod.trans (m9.weaken fun k hk => ⟨by omega, by omega⟩)).trans (m7.weaken fun k hk => ⟨by omega, by omega⟩))
      have hown := own_keep ho7 fun hn hl => mAll.blk _ hl (by have := own_ge ho7 hn; omega)
      refine ⟨?_, ?_, ?_, ?_⟩
      · have := sl_of_own hown
        show Sl _ 7 _ _ _
        simpa using this
      · have := own_lower hown (show w.heap.size ≤ w4.heap.size by omega)
        simpa using this
      · have := Fresh.of (w := w) (v := v) hown (by omega)
        simpa using this
      · exact (((hEc.trans hE47).mod (S := fun k => w.heap.size ≤ k)).trans ((hM7.weaken fun k hk => by have := own_ge ho6 hk.1; omega).trans (mAll.weaken fun k hk => hk.1))).ext fun _ h => h
end Go.Proofs
