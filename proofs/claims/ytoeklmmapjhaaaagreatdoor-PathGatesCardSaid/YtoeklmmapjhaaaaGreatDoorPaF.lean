/-
  Contracts of the functions that the law reaches, step by step.
-/
import Derived.Test.YtoeklmmapjhaaaaGreatDoorPaA
import Derived.Laws.RangeString
namespace Go.Proofs
open Pk
set_option maxRecDepth 10000
def It.k : It → Int | .mk k _ _ _ _ => k
def It.n : It → Int | .mk _ n _ _ _ => n
def It.s : It → ByteArray | .mk _ _ _ s _ => s
def It.l : It → List It | .mk _ _ _ _ l => l
theorem itC_kn {W : World} {t : It} {k n : Int} {bv : Value} {s : ByteArray} {lv : Value} (h : ItC W t [i64 k, u64 n, bv, .string s, lv]) : t.k = k ∧ t.n = n ∧ t.s = s := by
  obtain ⟨k', n', b', s', l'⟩ := t
  obtain ⟨bv', lv', css, hcs, -⟩ := itC_mk.1 h
  simp at hcs
  obtain ⟨rfl, rfl, rfl, rfl, rfl⟩ := hcs
  exact ⟨rfl, rfl, rfl⟩
theorem itC_form {W : World} {t : It} {cs : List Value} (h : ItC W t cs) : ∃ a m c a' m' c', cs = [i64 t.k, u64 t.n, .slice a m c, .string t.s, .slice a' m' c'] := by
  obtain ⟨k, n, b, s, l⟩ := t
  obtain ⟨bv, lv, css, rfl, -⟩ := itC_mk.1 h
  obtain ⟨⟨a, m, c, rfl⟩, ⟨a', m', c', rfl⟩⟩ := itC_slices h
  exact ⟨_, _, _, _, _, _, rfl⟩
/-- What a row's i-th item has in its cells. -/
theorem itRow' {W : World} {v : Value} {l : List It} {css : List (List Value)} (h : SlB W 5 v l.length css.flatten) (hc : ItCs W l css) {i : Nat} (hi : i < l.length) :
    ∃ bv lv, css[i]? = some [i64 l[i].k, u64 l[i].n, bv, .string l[i].s, lv] ∧ ItC W l[i] [i64 l[i].k, u64 l[i].n, bv, .string l[i].s, lv] ∧ ItAt W v i l[i].k l[i].n bv l[i].s lv := by
  obtain ⟨k, n, bv, s, lv, h1, h2, h3⟩ := itRow h hc hi
  obtain ⟨rfl, rfl, rfl⟩ := itC_kn h2
  exact ⟨bv, lv, h1, h2, h3⟩
def crossOf (t : It) : Cr := match t.l with
  | a :: b :: _ => if a.k = 1 ∧ b.k = 5 ∧ a.n ≤ 4294967295 then (IntKind.u32.wrap a.n, decide (b.n = 1)) else (0, false)
  | _ => (0, false)
def kOf (l : List It) (j i : Nat) : Int := if j < i then ((l[j]?).map It.k).getD 0 else 0
theorem fShape : flatA Tryz.prog 101 = some [.int .i64, .int .i64] := by kernel_rfl
@[simp] theorem eqShape (a1 a2 b1 b2 : Int) (w : World) : (binOp .eql 101 (.agg #[.int .i64 a1, .int .i64 a2]) (.agg #[.int .i64 b1, .int .i64 b2])).run Tryz.prog w = .ok (.bool (decide (a1 = b1) && decide (a2 = b2))) w := by
  have := run_eql_flat w fShape #[.int .i64 a1, .int .i64 a2] #[.int .i64 b1, .int .i64 b2] rfl rfl
  rw [this]
  simp [eqcs, eqInt]
theorem crossing_c {w : World} {t : It} {cs : List Value} (ht : ItC w t cs) : FN Tryz.prog 38 [.agg cs.toArray] w fun e w' => e = .returned (crV (crossOf t)) ∧ Ext w w' := by
  obtain ⟨k, n, b, s, l⟩ := t
  obtain ⟨bv, lv, css, rfl, hb, hl, hc, hb1, hl1⟩ := itC_mk.1 ht
  obtain ⟨ba, bc, rfl⟩ := hb.isSlice
  obtain ⟨la, lc, rfl⟩ := hl.isSlice
  obtain ⟨bm, hbm⟩ : ∃ bm, bm = b.length := ⟨_, rfl⟩
  rw [← hbm]
  refine FN_enter Tryz.func38 rfl rfl (by kernel_rfl) ?_
  have hlen := fun ty W => hl.isLen (P := Tryz.prog) (t := 44) (by simp) ty W
  simp [hlen]
  have hE1 : Ext w (((w.alloc (.cells #[i64 k, u64 n, .slice ba bm bc, .string s, .slice la l.length lc] 46)).alloc (.cells #[u32 0, .bool false] 37)).alloc (.cells #[i64 0, i64 0] 101)) := (((Ext.refl w).alloc _).alloc _).alloc _
  have b0 : ItBx (((w.alloc (.cells #[i64 k, u64 n, .slice ba bm bc, .string s, .slice la l.length lc] 46)).alloc (.cells #[u32 0, .bool false] 37)).alloc (.cells #[i64 0, i64 0] 101)) w.heap.size k n (.slice ba bm bc) s (.slice la l.length lc) := (ItBx.new w _ _ _ _ _ 46).ext (((Ext.refl _).alloc _).alloc _)
  have c1 : (((w.alloc (.cells #[i64 k, u64 n, .slice ba bm bc, .string s, .slice la l.length lc] 46)).alloc (.cells #[u32 0, .bool false] 37)).alloc (.cells #[i64 0, i64 0] 101)).cell? ⟨w.heap.size + 1, 0, none⟩ = some (u32 0) ∧ (((w.alloc (.cells #[i64 k, u64 n, .slice ba bm bc, .string s, .slice la l.length lc] 46)).alloc (.cells #[u32 0, .bool false] 37)).alloc (.cells #[i64 0, i64 0] 101)).cell? ⟨w.heap.size + 1, 1, none⟩ = some (.bool false) := by
    constructor <;> simp
  have f1 : ∀ j, (((w.alloc (.cells #[i64 k, u64 n, .slice ba bm bc, .string s, .slice la l.length lc] 46)).alloc (.cells #[u32 0, .bool false] 37)).alloc (.cells #[i64 0, i64 0] 101)).frozen? ⟨w.heap.size + 1, j, none⟩ = false := fun j => by
    have ho := World.alloc_heap_new (w.alloc (.cells #[i64 k, u64 n, .slice ba bm bc, .string s, .slice la l.length lc] 46)) (.cells #[u32 0, .bool false] 37)
    have ho2 := ((Ext.refl _).alloc (.cells #[i64 0, i64 0] 101)).obj ho
    simp at ho2
    simp [World.frozen?, ho2]
  have s2 : (((w.alloc (.cells #[i64 k, u64 n, .slice ba bm bc, .string s, .slice la l.length lc] 46)).alloc (.cells #[u32 0, .bool false] 37)).alloc (.cells #[i64 0, i64 0] 101)).heap[w.heap.size + 1 + 1]? = some (.cells #[i64 0, i64 0] 101 (0, 0)) := by
    have := World.alloc_heap_new ((w.alloc (.cells #[i64 k, u64 n, .slice ba bm bc, .string s, .slice la l.length lc] 46)).alloc (.cells #[u32 0, .bool false] 37)) (.cells #[i64 0, i64 0] 101)
    simpa using this
  have z1 : (((w.alloc (.cells #[i64 k, u64 n, .slice ba bm bc, .string s, .slice la l.length lc] 46)).alloc (.cells #[u32 0, .bool false] 37)).alloc (.cells #[i64 0, i64 0] 101)).heap.size = w.heap.size + 1 + 1 + 1 := by simp
  generalize (((w.alloc (.cells #[i64 k, u64 n, .slice ba bm bc, .string s, .slice la l.length lc] 46)).alloc (.cells #[u32 0, .bool false] 37)).alloc (.cells #[i64 0, i64 0] 101)) = w1 at *
  refine WC_loop (fun k ρ ds w' => ∃ i : Nat, k = min 2 l.length - i ∧ i ≤ min 2 l.length ∧ ρ 1 = ptr w.heap.size ∧ ρ 2 = ptr (w.heap.size + 1) ∧ ρ 3 = ptr (w.heap.size + 1 + 1) ∧ ρ 9 = i64 (min 2 (l.length : Int)) ∧ ρ 10 = i64 i ∧ ds = [] ∧ Mod (fun k => k = w.heap.size + 1 + 1) w1 w' ∧
    w'.heap[w.heap.size + 1 + 1]? = some (.cells #[i64 (kOf l 0 i), i64 (kOf l 1 i)] 101 (0, 0))) (min 2 l.length) ⟨0, by simp, by simp, by simp, by simp, by simp, by simp, by simp, rfl, Mod.refl _ _, by simpa [kOf] using s2⟩ ?_
  rintro m ρ ds w2 ⟨i, rfl, hi, e1, e2, e3, e9, e10, rfl, hM, hs⟩
  have hEw : Ext w w2 := ((hE1.mod (S := fun k => w.heap.size ≤ k)).trans (hM.weaken fun k hk => by omega)).ext fun _ h => h
  have b2 := b0.mod hM (by omega)
  by_cases hlt : i < min 2 l.length
  · have hil : i < l.length := by omega
    obtain ⟨bv, lv, g1, g2, g3⟩ := itRow' (hl.ext hEw) (ItPs.ext hc hEw) hil
    have ix := fun W => hl.index (P := Tryz.prog) (t := 44) (by simp) .i64 i (by omega) (by omega) W
    simp at ix
    have hd : (i : Int) < min 2 (l.length : Int) := by omega
    have hi2 : (i : Int) < 2 := by omega
    have q0 : w2.cell? ⟨w.heap.size + 1 + 1, i, none⟩ = some (i64 0) := by
      rcases (show i = 0 ∨ i = 1 by omega) with rfl | rfl <;> simp [World.cell?, hs, kOf]
    have q1 : w2.frozen? ⟨w.heap.size + 1 + 1, i, none⟩ = false := by simp [World.frozen?, hs]
    simp [e1, e2, e3, e9, e10, hd, b2.c4, ix, g3.c0, hi2, q0, q1]
    have mS := (Mod.refl (fun k => k = w.heap.size + 1 + 1) w2).setC i (i64 l[i].k)
    have hset : (w2.setCell ⟨w.heap.size + 1 + 1, i, none⟩ (i64 l[i].k)).heap[w.heap.size + 1 + 1]? = some (.cells #[i64 (kOf l 0 (i + 1)), i64 (kOf l 1 (i + 1))] 101 (0, 0)) := by
      have := heap_setCell_same w2 (w.heap.size + 1 + 1) i _ 101 (i64 l[i].k) hs
      rw [this]
      rcases (show i = 0 ∨ i = 1 by omega) with rfl | rfl <;> simp [kOf, hil]
    exact ⟨min 2 l.length - (i + 1), by omega, i + 1, rfl, by omega, by rw [wrap64 _ (by omega) (by omega)]; rfl, hM.trans mS, hset⟩
  · have : i = min 2 l.length := by omega
    subst this
    have hd : ¬ ((min 2 l.length : Nat) : Int) < min 2 (l.length : Int) := by omega
    have q0 : w2.cell? ⟨w.heap.size + 1 + 1, 0, none⟩ = some (i64 (kOf l 0 (min 2 l.length))) := by simp [World.cell?, hs]
    have q1 : w2.cell? ⟨w.heap.size + 1 + 1, 1, none⟩ = some (i64 (kOf l 1 (min 2 l.length))) := by simp [World.cell?, hs]
    have d0 := hM.cell c1.1 (by simp only; omega)
    have d1 := hM.cell c1.2 (by simp only; omega)
    have df : ∀ j, w2.frozen? ⟨w.heap.size + 1, j, none⟩ = false := fun j => by
      have hb : w2.heap[w.heap.size + 1]? = w1.heap[w.heap.size + 1]? := hM.blk _ (by omega) (by omega)
      rw [← f1 j]; unfold World.frozen?; rw [hb]
    simp [e3, e9, e10, hd, q0, q1]
    have fin : ∀ (W : World) (u : Value) (z : Value), Ext w W → Ext w ((W.setCell ⟨w.heap.size + 1, 0, none⟩ u).setCell ⟨w.heap.size + 1, 1, none⟩ z) := fun W u z hW => (hW.setCell _ _ (by simp only; omega)).setCell _ _ (by simp only; omega)
    rcases l with _ | ⟨x, _ | ⟨y, l⟩⟩
    · simp [kOf, e2, d0, d1, df, cell_setCell]
      exact ⟨⟨rfl, rfl⟩, fin _ _ _ hEw⟩
    · simp [kOf]
      by_cases hk : x.k = 1
      · simp [hk, e2, d0, d1, df, cell_setCell]
        exact ⟨⟨rfl, rfl⟩, fin _ _ _ hEw⟩
      · simp [e2, d0, d1, df, cell_setCell]
        exact ⟨⟨rfl, rfl⟩, fin _ _ _ hEw⟩
    · obtain ⟨bv, lv, g1, g2, g3⟩ := itRow' (hl.ext hEw) (ItPs.ext hc hEw) (i := 0) (by simp)
      have ix := fun W => hl.index (P := Tryz.prog) (t := 44) (by simp) .i64 0 (by omega) (by simp; omega) W
      have ix1 := fun W => hl.index (P := Tryz.prog) (t := 44) (by simp) .i64 1 (by omega) (by simp; omega) W
      simp at ix ix1
      have g4 := g3.c1
      simp at g4
      simp [kOf]
      by_cases hk : x.k = 1
      · by_cases hk2 : y.k = 5
        · by_cases hn : x.n ≤ 4294967295
          · simp [hk, hk2, hn, e1, b2.c4, ix, g4]
            refine WC_drawC 12 (.F 0 <| .F 1 <| .F 2 <| .F 3 <| .F 4 <| .F 5 <| .F 6 <| .F 7 <| .F 8 <| .F 9 <| .F 10 <| .F 11 <| .Z) (fun _ => false) rfl (by kernel_rfl) fun W hW => ?_
            have hWE : Ext w2 W := hW ▸ Ext.drew _
            obtain ⟨bv', lv', g1', g2', g3'⟩ := itRow' (hl.ext hEw) (ItPs.ext hc hEw) (i := 1) (by simp)
            have g5 := (g3'.ext hWE).c1
            have g4' := (g3.ext hWE).c1
            simp at g5 g4'
            have b3 := b2.ext hWE
            have d0' := hWE.cell_eq d0
            have d1' := hWE.cell_eq d1
            have df' : ∀ j, W.frozen? ⟨w.heap.size + 1, j, none⟩ = false := fun j => by
              have hb : W.heap[w.heap.size + 1]? = w2.heap[w.heap.size + 1]? := hWE.blk _ (World.block_lt_of_cell? _ _ d0)
              rw [← df j]; unfold World.frozen?; rw [hb]
            have hcr : crossOf (.mk k n b s (x :: y :: l)) = (IntKind.u32.wrap x.n, decide (y.n = 1)) := by simp [crossOf, It.l, hk, hk2, hn]
            simp [e1, e2, b3.c4, ix, ix1, g4', g5, d0', d1', df', cell_setCell, hcr]
            exact fin _ _ _ (fin _ _ _ (hEw.trans hWE))
          · have hcr : crossOf (.mk k n b s (x :: y :: l)) = (0, false) := by simp [crossOf, It.l, hn]
            simp [hk, hk2, hn, e1, e2, b2.c4, ix, g4, d0, d1, df, cell_setCell, hcr]
            exact fin _ _ _ hEw
        · have hcr : crossOf (.mk k n b s (x :: y :: l)) = (0, false) := by simp [crossOf, It.l, hk2]
          simp [hk, hk2, e2, d0, d1, df, cell_setCell, hcr]
          exact fin _ _ _ hEw
      · have hcr : crossOf (.mk k n b s (x :: y :: l)) = (0, false) := by simp [crossOf, It.l, hk]
        simp [hk, e2, d0, d1, df, cell_setCell, hcr]
        exact fin _ _ _ hEw
theorem madec_c {w : World} {v : Value} {l : List It} {css : List (List Value)} (h : SlB w 5 v l.length css.flatten) (hc : ItCs w l css) (hb : l.length ≤ 1000000) :
    FN Tryz.prog 37 [v, .func (.func 38) #[] #[]] w fun e w' => ∃ v', e = .returned v' ∧ w'.ownsRow w.heap.size 37 2 v' l.length ((l.map crossOf).flatMap crC) ∧ Ext w w' := by
  refine FN_enter Tryz.func37 rfl rfl (by kernel_rfl) ?_
  have hlen := fun ty W => h.isLen (P := Tryz.prog) (t := 44) (by simp) ty W
  simp [hlen]
  refine WC_loop (fun k ρ ds w' => ∃ (i : Nat) (u : Value), k = l.length - i ∧ i ≤ l.length ∧ ρ 1 = .func (.func 38) #[] #[] ∧ ρ 4 = u ∧ ρ 7 = v ∧ ρ 8 = i64 l.length ∧ ρ 9 = i64 i ∧ ds = [] ∧ Ext w w' ∧ w'.ownsRow w.heap.size 37 2 u i (((l.take i).map crossOf).flatMap crC)) l.length
    ⟨0, .slice none 0 0, by simp, by simp, by simp, by simp, by simp, by simp, by simp, rfl, Ext.refl _, World.ownsRow_nil _ _ _ _⟩ ?_
  rintro k ρ ds w1 ⟨i, u, rfl, hi, e1, e4, e7, e8, e9, rfl, hE, ho⟩
  by_cases hlt : i < l.length
  · have hq := List.getElem?_eq_getElem hlt
    obtain ⟨bv, lv, g1, g2, g3⟩ := itRow' (h.ext hE) (ItPs.ext hc hE) hlt
    obtain ⟨⟨ba, bm, bc, rfl⟩, ⟨la, lm, lc, rfl⟩⟩ := itC_slices g2
    have ix := fun W => h.index (P := Tryz.prog) (t := 44) (by simp) .i64 i (by omega) (by omega) W
    simp at ix
    simp [e1, e4, e7, e8, e9, hlt, ix, g3.c0, g3.c1, g3.c2, g3.c3, g3.c4]
    have hE2 : Ext w1 (w1.alloc (.cells #[i64 l[i].k, u64 l[i].n, .slice ba bm bc, .string l[i].s, .slice la lm lc] 46)) := (Ext.refl w1).alloc _
    generalize (w1.alloc (.cells #[i64 l[i].k, u64 l[i].n, .slice ba bm bc, .string l[i].s, .slice la lm lc] 46)) = w2 at *
    refine FN.mono (crossing_c (g2.ext hE2)) ?_
    rintro _ w3 ⟨rfl, hE3⟩
    simp
    have hE4 : Ext w3 (w3.alloc (.cells (crC (crossOf l[i])).toArray 37)) := (Ext.refl w3).alloc _
    have h1 : Sl (w3.alloc (.cells (crC (crossOf l[i])).toArray 37)) 2 (.slice (some ⟨w3.heap.size, 0, none⟩) 1 1) 1 (crC (crossOf l[i])) := Sl.made w3 _ 37 2 1 rfl
    have s0 := hE.size
    have s4 := (hE2.trans (hE3.trans hE4)).size
    have ho4 := own_ext ho (hE2.trans (hE3.trans hE4))
    obtain ⟨v', w5, hr, ho5, hM5, hnew⟩ := append_own (P := Tryz.prog) (t := 22) (ty := 22) (e := 37) (s := 2) (by simp) (by simp) (by kernel_rfl) ho4 h1 (fun u hu => crone [crossOf l[i]] u (by simpa using hu)) (by omega) (by omega)
    simp [hr, e1, e7, e8, e9]
    refine ⟨l.length - (i + 1), by omega, i + 1, rfl, by omega, by rw [wrap64 _ (by omega) (by omega)]; rfl, ?_, ?_⟩
    · exact (((hE.trans (hE2.trans (hE3.trans hE4))).mod (S := fun k => w.heap.size ≤ k)).trans (hM5.weaken fun k hk => by have := own_ge ho hk.1; omega)).ext fun _ h => h
    · have htk : (l.take (i + 1)).map crossOf = (l.take i).map crossOf ++ [crossOf l[i]] := by rw [List.take_add_one, hq, List.map_append]; rfl
      rw [← List.map_take, htk, List.flatMap_append]
      simpa using ho5
  · have : i = l.length := by omega
    subst this
    simp [e4, e8, e9]
    rw [List.take_length] at ho
    exact ⟨ho, hE⟩
def ofB (t : It) : Bool := match t.l with | [] => false | a :: _ => decide (a.n = 1)
def ofL (t : It) : List Cr := t.l.tail.map crossOf
def ofOk (t : It) : Prop := t.l ≠ [] ∧ rightP (ofL t) = true ∧ t = ptI (ofB t) (ofL t)
noncomputable def ofD (t : It) : Bool := @decide (ofOk t) (Classical.propDecidable _)
theorem crossOf_ok (t : It) : 0 ≤ (crossOf t).1 ∧ (crossOf t).1 < 4294967296 := by
  have hw : ∀ n : Int, 0 ≤ IntKind.u32.wrap n ∧ IntKind.u32.wrap n < 4294967296 := fun n => by
    simp [IntKind.wrap, IntKind.signed, IntKind.bits]
    omega
  unfold crossOf
  split
  · split
    · exact hw _
    · simp
  · simp
set_option maxHeartbeats 1000000 in
theorem of_c {w : World} {t : It} {cs : List Value} (ht : ItC w t cs) (hb : t.l.length ≤ 1000000) : FN Tryz.prog 12 [.agg cs.toArray] w fun e w' => ∃ v', e = .returned (.tuple #[ptV (ofD t && ofB t) v', i64 (if ofD t then 0 else 152)]) ∧ Ext w w' ∧ CSl w' v' (if ofD t then ofL t else []) := by
  obtain ⟨k, n, b, s, l⟩ := t
  obtain ⟨bv, lv, css, rfl, hbs, hl, hc, hb1, hl1⟩ := itC_mk.1 ht
  obtain ⟨ba, bc, rfl⟩ := hbs.isSlice
  obtain ⟨la, lc, rfl⟩ := hl.isSlice
  obtain ⟨bm, hbm⟩ : ∃ bm, bm = b.length := ⟨_, rfl⟩
  rw [← hbm]
  refine FN_enter Tryz.func12 rfl rfl (by kernel_rfl) ?_
  have hlen := fun ty W => hl.isLen (P := Tryz.prog) (t := 44) (by simp) ty W
  simp [hlen]
  have hE1 : Ext w ((w.alloc (.cells #[i64 k, u64 n, .slice ba bm bc, .string s, .slice la l.length lc] 46)).alloc (.cells #[.bool false, .slice none 0 0] 24)) := ((Ext.refl w).alloc _).alloc _
  have b0 : ItBx ((w.alloc (.cells #[i64 k, u64 n, .slice ba bm bc, .string s, .slice la l.length lc] 46)).alloc (.cells #[.bool false, .slice none 0 0] 24)) w.heap.size k n (.slice ba bm bc) s (.slice la l.length lc) := (ItBx.new w _ _ _ _ _ 46).ext ((Ext.refl _).alloc _)
  have p1 : PtAt ((w.alloc (.cells #[i64 k, u64 n, .slice ba bm bc, .string s, .slice la l.length lc] 46)).alloc (.cells #[.bool false, .slice none 0 0] 24)) (w.heap.size + 1) false (.slice none 0 0) := by
    have := PtAt.new (w.alloc (.cells #[i64 k, u64 n, .slice ba bm bc, .string s, .slice la l.length lc] 46)) false (.slice none 0 0) 24
    simpa using this
  have z1 : ((w.alloc (.cells #[i64 k, u64 n, .slice ba bm bc, .string s, .slice la l.length lc] 46)).alloc (.cells #[.bool false, .slice none 0 0] 24)).heap.size = w.heap.size + 1 + 1 := by simp
  have fin : ∀ (W : World) (u : Value) (z : Value), Ext w W → Ext w ((W.setCell ⟨w.heap.size + 1, 0, none⟩ u).setCell ⟨w.heap.size + 1, 1, none⟩ z) := fun W u z hW => (hW.setCell _ _ (by simp only; omega)).setCell _ _ (by simp only; omega)
  rcases l with _ | ⟨x, r⟩
  · have hf : ofD (.mk k n b s []) = false := by simp [ofD, ofOk, It.l]
    generalize ((w.alloc (.cells #[i64 k, u64 n, .slice ba bm bc, .string s, .slice la ([] : List It).length lc] 46)).alloc (.cells #[.bool false, .slice none 0 0] 24)) = w1 at *
    simp [p1.c0, p1.c1, p1.f0, p1.f1, cell_setCell, hf]
    exact ⟨fin _ _ _ hE1, SlB.nil _ 2 0⟩
  · simp
    generalize ((w.alloc (.cells #[i64 k, u64 n, .slice ba bm bc, .string s, .slice la (x :: r).length lc] 46)).alloc (.cells #[.bool false, .slice none 0 0] 24)) = w1 at *
    refine WC_drawL 12 (.F 0 <| .F 1 <| .F 2 <| .F 3 <| .F 4 <| .F 5 <| .F 6 <| .F 7 <| .F 8 <| .D 11 <| .L 9 <| .F 10 <| .W 11 <| .Z) (fun _ => false) (fun _ => false) (fun _ u W => ∃ c, u = ptr c ∧ PtAt W c false (.slice none 0 0) ∧ w1.heap.size ≤ c) rfl (by kernel_rfl) (fun _ h => h) ?_ fun W hW => ?_
    · rintro - u a b' ⟨c, h1, h2, h3⟩ hag
      exact ⟨c, h1, h2.ext (agr_ext hag), h3⟩
    have hWE : Ext w1 W := hW ▸ Ext.drew _
    have hEW := hE1.trans hWE
    have b2 := b0.ext hWE
    obtain ⟨c, css', rfl, hx, hc'⟩ := (by rw [ItCs, ItPs] at hc; exact hc : ∃ c r', css = c :: r' ∧ ItC w x c ∧ ItCs w r r')
    obtain ⟨bv0, lv0, g1, g2, g3⟩ := itRow' hl hc (i := 0) (by simp)
    have g3 := (g3.ext hEW).c1
    have ix := fun W => hl.index (P := Tryz.prog) (t := 44) (by simp) .i64 0 (by omega) (by simp) W
    have sl := fun W => hl.sliceL (by simp) (P := Tryz.prog) (t := 44) (by simp) .i64 1 (by omega) (by simp; omega) W
    simp at ix g3 sl
    simp [b2.c4, ix, g3, sl]
    refine RL_float (fun W1 h1 => ?_) ?_
    · simp
      have h1' := agr_ext h1
      exact ⟨(Ext.refl _).alloc _, PtAt.new W1 _ _ _, (hWE.trans h1').size⟩
    simp
    refine RL_loose fun W3 h3 => ?_
    have hEW3 := hEW.trans h3
    have hlx : c.length = 5 := itC_len hx
    have hdr : SlB W3 5 (slcL (.slice la (r.length + 1) lc) 1 5) r.length css'.flatten := by
      have := ((SlB.ext hl hEW3).dropL (by simp) 1 (by simp)).toB
      have e : (c :: css').flatten.drop (1 * 5) = css'.flatten := by rw [List.flatten_cons, List.drop_left' (by omega)]
      rw [e] at this
      simpa using this
    simp
    refine FN.mono (madec_c hdr (ItPs.ext hc' hEW3) (by simp [It.l] at hb; omega)) ?_
    rintro _ W4 ⟨u, rfl, ho4, hE4⟩
    obtain ⟨ua, uc, rfl⟩ := own_val ho4
    simp
    refine KR_ext hE4 ?_
    simp
    refine RL_wait fun vc W5 h5 ⟨c5, hc5, hp5, hc5w⟩ => ?_
    subst hc5
    simp [hp5.c0, hp5.c1, hp5.f0, hp5.f1, cell_setCell]
    have mC := ((Mod.refl (fun k => k = c5) W5).setC 0 (.bool (decide (x.n = 1)))).setC 1 (.slice ua r.length uc)
    have p6 : PtAt ((W5.setCell ⟨c5, 0, none⟩ (.bool (decide (x.n = 1)))).setCell ⟨c5, 1, none⟩ (.slice ua r.length uc)) c5 (decide (x.n = 1)) (.slice ua r.length uc) := by
      refine ⟨?_, ?_, ?_, ?_⟩ <;> simp [hp5.c0, hp5.c1, hp5.f0, hp5.f1, cell_setCell]
    have hrow5 : CSl W5 (.slice ua r.length uc) (r.map crossOf) := by
      have := (sl_of_own (own_ext ho4 h5)).toB
      show SlB _ 2 _ _ _
      simpa using this
    have hrow6 : CSl ((W5.setCell ⟨c5, 0, none⟩ (.bool (decide (x.n = 1)))).setCell ⟨c5, 1, none⟩ (.slice ua r.length uc)) (.slice ua r.length uc) (r.map crossOf) := by
      refine hrow5.mod mC fun hx e => ?_
      have hr : r ≠ [] := fun e => hx (by rw [e]; rfl)
      have hlr : 0 < (r.map crossOf).length := by simpa using List.length_pos_iff.2 hr
      have h0 := (CSl.row hrow5 (List.getElem?_eq_getElem hlr)).c0
      have ho : slO (.slice ua r.length uc) = 0 := own_off ho4
      rw [e, ho] at h0
      have := hp5.c0
      simp at h0
      rw [h0] at this
      cases this
    have hE6 : Ext w ((W5.setCell ⟨c5, 0, none⟩ (.bool (decide (x.n = 1)))).setCell ⟨c5, 1, none⟩ (.slice ua r.length uc)) :=
      ((((hEW3.trans hE4).trans h5).mod (S := fun k => w.heap.size ≤ k)).trans (mC.weaken fun k hk => by omega)).ext fun _ h => h
    have b6 : ItBx ((W5.setCell ⟨c5, 0, none⟩ (.bool (decide (x.n = 1)))).setCell ⟨c5, 1, none⟩ (.slice ua r.length uc)) w.heap.size k n (.slice ba bm bc) s (.slice la (x :: r).length lc) := ((b2.ext (h3.trans (hE4.trans h5))).mod mC (by omega))
    have q6 : PtAt ((W5.setCell ⟨c5, 0, none⟩ (.bool (decide (x.n = 1)))).setCell ⟨c5, 1, none⟩ (.slice ua r.length uc)) (w.heap.size + 1) false (.slice none 0 0) := ((p1.ext (hWE.trans (h3.trans (hE4.trans h5)))).mod mC (by omega))
    generalize ((W5.setCell ⟨c5, 0, none⟩ (.bool (decide (x.n = 1)))).setCell ⟨c5, 1, none⟩ (.slice ua r.length uc)) = W6 at *
    have hlr : (r.map crossOf).length ≤ 1000000 := by simp [It.l] at hb; simp; omega
    refine FN.mono (item_c hrow6 (decide (x.n = 1)) (fun c hc => by obtain ⟨y, -, rfl⟩ := List.mem_map.1 hc; exact crossOf_ok y) hlr) ?_
    rintro _ W7 ⟨cs7, rfl, hi7, hE7⟩
    have hB : ofB (.mk k n b s (x :: r)) = decide (x.n = 1) := rfl
    have hL : ofL (.mk k n b s (x :: r)) = r.map crossOf := rfl
    have b7 := b6.ext hE7
    have q7 := q6.ext hE7
    have p7 := p6.ext hE7
    have hE07 := hE6.trans hE7
    cases hr : rightP (r.map crossOf) with
    | false =>
      have hf : ofD (.mk k n b s (x :: r)) = false := by
        unfold ofD
        rw [decide_eq_false_iff_not]
        rintro ⟨-, h, -⟩
        rw [hL, hr] at h
        cases h
      rw [hr] at hi7
      obtain ⟨a7, m7, c7, a8, m8, c8, hcs7⟩ := itC_form hi7.any
      have hcs7 : cs7 = [i64 0, u64 0, .slice a7 m7 c7, .string ⟨#[]⟩, .slice a8 m8 c8] := hcs7
      subst hcs7
      have hE8 : Ext W7 (W7.alloc (.cells #[i64 0, u64 0, .slice a7 m7 c7, .string ⟨#[]⟩, .slice a8 m8 c8] 46)) := (Ext.refl W7).alloc _
      have q8 := q7.ext hE8
      simp [q7.c0, q7.c1, q7.f0, q7.f1, cell_setCell, hf]
      exact ⟨fin _ _ _ (hE07.trans hE8), SlB.nil _ 2 0⟩
    | true =>
      rw [hr] at hi7
      obtain ⟨a7, m7, c7, a8, m8, c8, hcs7⟩ := itC_form hi7.any
      have hcs7 : cs7 = [i64 4, u64 0, .slice a7 m7 c7, .string ⟨#[]⟩, .slice a8 m8 c8] := hcs7
      subst hcs7
      rw [if_pos rfl] at hi7
      have hE8 : Ext W7 (W7.alloc (.cells #[i64 4, u64 0, .slice a7 m7 c7, .string ⟨#[]⟩, .slice a8 m8 c8] 46)) := (Ext.refl W7).alloc _
      have x8 : ItBx (W7.alloc (.cells #[i64 4, u64 0, .slice a7 m7 c7, .string ⟨#[]⟩, .slice a8 m8 c8] 46)) W7.heap.size 4 0 (.slice a7 m7 c7) ⟨#[]⟩ (.slice a8 m8 c8) := ItBx.new W7 _ _ _ _ _ 46
      have q8 := q7.ext hE8
      have b8 := b7.ext hE8
      have p8 := p7.ext hE8
      have hi8 := (hi7.any).ext hE8
      simp [b7.c0, b7.c1, b7.c2, b7.c3, b7.c4]
      have ht8 : ItC (W7.alloc (.cells #[i64 4, u64 0, .slice a7 m7 c7, .string ⟨#[]⟩, .slice a8 m8 c8] 46)) (.mk k n b s (x :: r)) [i64 k, u64 n, .slice ba bm bc, .string s, .slice la (r.length + 1) lc] := by
        rw [hbm]; exact ItC.ext ht (hE07.trans hE8)
      refine FN.mono (same_c ht8 hi8) ?_
      rintro _ W9 ⟨rfl, hE9⟩
      have q9 := q8.ext hE9
      have p9 := p8.ext hE9
      have hE09 := (hE07.trans hE8).trans hE9
      generalize hz : decide ((.mk k n b s (x :: r) : It) = ptI (decide (x.n = 1)) (r.map crossOf)) = z
      cases z with
      | true =>
        have he : (.mk k n b s (x :: r) : It) = ptI (decide (x.n = 1)) (r.map crossOf) := of_decide_eq_true hz
        have hf : ofD (.mk k n b s (x :: r)) = true := @decide_eq_true _ (Classical.propDecidable _) ⟨by simp [It.l], by rw [hL]; exact hr, by rw [hL, hB]; exact he⟩
        simp [p9.c0, p9.c1, q9.c0, q9.c1, q9.f0, q9.f1, cell_setCell, hf]
        have m9 : Mod (fun k => k = w.heap.size + 1) W9 ((W9.setCell ⟨w.heap.size + 1, 0, none⟩ (.bool (decide (x.n = 1)))).setCell ⟨w.heap.size + 1, 1, none⟩ (.slice ua r.length uc)) := ((Mod.refl _ W9).setC 0 _).setC 1 _
        refine ⟨_, ⟨hB.symm, rfl⟩, fin _ _ _ hE09, ?_⟩
        rw [hL]
        refine (SlB.ext hrow6 ((hE7.trans hE8).trans hE9)).mod m9 fun hx e => ?_
        have hr : r ≠ [] := fun e => hx (by rw [e]; rfl)
        have := own_ge ho4 (own_nil ho4 (List.length_pos_iff.2 hr))
        have := hEW3.size
        have := (hWE.trans h3).size
        omega
      | false =>
        have he : ¬ (.mk k n b s (x :: r) : It) = ptI (decide (x.n = 1)) (r.map crossOf) := of_decide_eq_false hz
        have hf : ofD (.mk k n b s (x :: r)) = false := by
          unfold ofD
          rw [decide_eq_false_iff_not]
          rintro ⟨-, -, h⟩
          rw [hL, hB] at h
          exact he h
        simp [q9.c0, q9.c1, q9.f0, q9.f1, cell_setCell, hf]
        exact ⟨fin _ _ _ hE09, SlB.nil _ 2 0⟩
end Go.Proofs
namespace Go.Proofs
open Pk
set_option maxRecDepth 10000
abbrev fnV (f : Nat) : Value := .func (.func f) #[] #[]
def wrM : List (Int × Nat) := [(1, 61), (2, 63), (3, 65), (4, 66), (5, 68), (6, 69)]
theorem kKind : KeyEq Tryz.prog 41 (Value.int .i64) := keyEq_int (by simp)
theorem twm : Tryz.prog.underlying 92 = some (.map 41 79) := by simp
theorem writes_c (w : World) : FN Tryz.prog 49 [] w fun e w' => ∃ r, e = .returned (.map (some r)) ∧ MapAt (Value.int .i64) fnV w' r wrM ∧ Ext w w' := by
  refine FN_enter Tryz.func49 rfl rfl (by kernel_rfl) ?_
  have ht := twm
  have m0 := MapAt.alloc0 (Value.int .i64) fnV w
  have hE0 : Ext w (w.alloc (.map #[] 0)) := (Ext.refl w).alloc _
  obtain ⟨a1, r1, m1, M1, -⟩ := m0.update (P := Tryz.prog) kKind ht 1 61
  obtain ⟨a2, r2, m2, M2, -⟩ := m1.update (P := Tryz.prog) kKind ht 2 63
  obtain ⟨a3, r3, m3, M3, -⟩ := m2.update (P := Tryz.prog) kKind ht 3 65
  obtain ⟨a4, r4, m4, M4, -⟩ := m3.update (P := Tryz.prog) kKind ht 4 66
  obtain ⟨a5, r5, m5, M5, -⟩ := m4.update (P := Tryz.prog) kKind ht 5 68
  obtain ⟨a6, r6, m6, M6, -⟩ := m5.update (P := Tryz.prog) kKind ht 6 69
  simp [r1, r2, r3, r4, r5, r6]
  refine ⟨m6, ?_⟩
  have hM := M1.trans (M2.trans (M3.trans (M4.trans (M5.trans M6))))
  exact ((hE0.mod (S := fun k => w.heap.size ≤ k)).trans (hM.weaken fun k hk => by omega)).ext fun _ h => h
theorem must_c (e : Int) (w : World) : FN Tryz.prog 34 [.bool true, i64 e] w fun e w' => (∃ u, e = .returned u) ∧ w' = w := by
  refine FN_enter Tryz.func34 rfl rfl (by kernel_rfl) ?_
  simp
theorem runes_c (w : World) : FN Tryz.prog 50 [.string ⟨#[]⟩] w fun e w' => e = .returned (.tuple #[i64 0, .bool true]) ∧ Ext w w' := by
  refine FN_enter Tryz.func50 rfl rfl (by kernel_rfl) ?_
  have hr := run_range_string (P := Tryz.prog) w 9 ⟨#[]⟩ (by simp)
  have hn := run_next_end (P := Tryz.prog) w ⟨#[]⟩ 0 0 (by decide)
  simp [hr]
  refine WC_loop (fun k ρ ds w' => ρ 2 = i64 0 ∧ ρ 3 = .bool true ∧ ρ 9 = ptr w.heap.size ∧ ds = [] ∧ w' = w.iter ⟨#[]⟩ 0) 0 ⟨by simp, by simp, by simp, rfl, rfl⟩ ?_
  rintro k ρ ds w1 ⟨e2, e3, e9, rfl, rfl⟩
  simp [e2, e3, e9, hn]
  exact (Ext.refl w).alloc _
/-! ### Rows of items, one by one -/
theorem vals_c {w : World} {a : Option Addr} {n c : Nat} : FN Tryz.prog 51 [.slice a n c] w fun e w' => ∃ b, e = .returned (.func (.func 71) #[] #[ptr b]) ∧ Var w' b (.slice a n c) ∧ Ext w w' ∧ w.heap.size ≤ b := by
  refine FN_enter Tryz.func51 rfl rfl (by kernel_rfl) ?_
  simp
  exact ⟨Var.new w _ _, (Ext.refl w).alloc _⟩
/-- The cells of an item, as they lie. -/
structure IC where
  k : Int
  n : Int
  a : Option Addr
  m : Nat
  c : Nat
  s : ByteArray
  a' : Option Addr
  m' : Nat
  c' : Nat
abbrev IC.cs (x : IC) : List Value := [i64 x.k, u64 x.n, .slice x.a x.m x.c, .string x.s, .slice x.a' x.m' x.c']
theorem itPs_ic {Pd : Nat → Prop} {W : World} : ∀ {l : List It} {css : List (List Value)}, ItPs Pd W l css → ∃ xs : List IC, css = xs.map IC.cs ∧ xs.length = l.length
  | [], css, h => by rw [ItPs] at h; subst h; exact ⟨[], rfl, rfl⟩
  | x :: l, css, h => by
    rw [ItPs] at h
    obtain ⟨c, r, rfl, h1, h2⟩ := h
    obtain ⟨xs, rfl, h3⟩ := itPs_ic h2
    obtain ⟨a, m, c', a', m', c'', rfl⟩ := itC_form h1.any
    exact ⟨⟨x.k, x.n, a, m, c', x.s, a', m', c''⟩ :: xs, rfl, by simp [h3]⟩
theorem vals_it {w : World} {b : Nat} {v : Value} {xs : List IC} (v1 : Var w b v) (hm : SlB w 5 v xs.length (xs.flatMap IC.cs)) (hbd : xs.length ≤ 9223372036854775807) :
    Iter Tryz.prog (.func (.func 71) #[] #[ptr b]) (fun x : IC => [.agg x.cs.toArray]) (· = xs) (fun pre => pre ≠ [] ∧ ∃ suf, xs = pre ++ suf) (fun k => k = b ∨ (xs ≠ [] ∧ k = slB v)) w := by
  intro y C0 J Jx W hA hcap hC0 hJ hJx hyl h0
  have k1 := hcap b (.inl rfl)
  have v1W := v1.agr hA k1.1
  have hmW : SlB W 5 v xs.length (xs.flatMap IC.cs) := by
    by_cases hx : xs = []
    · subst hx
      exact ⟨hm.len, hm.val, fun _ _ h => by simp at h⟩
    · exact hm.agr hA fun _ => (hcap _ (.inr ⟨hx, rfl⟩)).1
  refine FN_enter Tryz.func71 rfl rfl (by kernel_rfl) ?_
  obtain ⟨a, c, hvs⟩ := hm.isSlice
  have hlen := fun ty W => hm.isLen (P := Tryz.prog) (t := 44) (by simp) ty W
  simp [v1W.cell, hlen]
  refine WC_loop (fun k ρ ds w' => ∃ (i : Nat) (C : Nat → Prop), k = xs.length - i ∧ i ≤ xs.length ∧ ρ 0 = y ∧ ρ 5 = v ∧ ρ 6 = i64 xs.length ∧ ρ 7 = i64 i ∧ ds = [] ∧ J C (xs.take i) w' ∧
    (∀ k, C k → C0 k ∨ W.heap.size ≤ k) ∧ Agr (fun k => k < W.heap.size ∧ ¬ C0 k) W w') xs.length ⟨0, C0, by simp, by simp, by simp, by simp, by simp, by simp, rfl, h0, fun k h => .inl h, Agr.refl _ _⟩ ?_
  rintro k ρ ds w3 ⟨i, C, rfl, hi, e0, e5, e6, e7, rfl, hj, hC, hAg⟩
  by_cases hlt : i < xs.length
  · have hs3 : SlB w3 5 v xs.length (xs.flatMap IC.cs) := hmW.agr hAg (fun _ => by
      have := hcap _ (.inr ⟨(fun e => by rw [e] at hlt; simp at hlt), rfl⟩)
      exact ⟨by have := hA.size; omega, this.2⟩)
    have hq := List.getElem?_eq_getElem hlt
    have d := fun (j : Nat) (u : Value) (hj : j < 5) (e : (xs[i].cs)[j]? = some u) => hs3.at_ (i * 5 + j) u ((flat_at IC.cs (fun _ => rfl) xs i j xs[i] hq hj).trans e)
    simp only [← Nat.add_assoc] at d
    have d0 := d 0 _ (by omega) rfl
    have d1 := d 1 _ (by omega) rfl
    have d2 := d 2 _ (by omega) rfl
    have d3 := d 3 _ (by omega) rfl
    have d4 := d 4 _ (by omega) rfl
    simp only [Nat.add_zero] at d0
    have ix := hs3.index (P := Tryz.prog) (t := 44) (by simp) .i64 i (by omega) (by omega) w3
    simp at ix
    have hsp : (xs.take i ++ [xs[i]]) ≠ [] ∧ ∃ suf, xs = (xs.take i ++ [xs[i]]) ++ suf := ⟨List.append_ne_nil_of_right_ne_nil _ (by simp), xs.drop (i + 1), by rw [List.append_assoc, List.singleton_append, ← List.drop_eq_getElem_cons hlt, List.take_append_drop]⟩
    have htk : xs.take (i + 1) = xs.take i ++ [xs[i]] := by rw [List.take_add_one, hq]; rfl
    simp [e0, e5, e6, e7, hlt, ix, d0, d1, d2, d3, d4]
    have hE4 := (Ext.refl w3).alloc (.cells xs[i].cs.toArray 46)
    have hj4 := hJ _ _ _ _ hj hE4.agr
    refine CV.mono (hyl C (xs.take i) xs[i] _ hsp hj4) ?_
    rintro _ w4 (⟨rfl, C', hj', hown⟩ | ⟨rfl, C', hj', hown⟩)
    · have hAg' : Agr (fun k => k < W.heap.size ∧ ¬ C0 k) w3 w4 := hE4.agr.trans (hown.mod.agr (S' := fun k => k < W.heap.size ∧ ¬ C0 k) (fun k hk hc => by rcases hC k hc with h | h; exact hk.2 h; omega))
      simp [e0, e5, e6, e7]
      refine ⟨xs.length - (i + 1), by omega, i + 1, rfl, by omega, by rw [wrap64 _ (by omega) (by omega)]; rfl, C', by rw [htk]; exact hj', ?_, hAg.trans hAg'⟩
      intro k hk
      rcases hown.own k hk with h | h
      · exact hC k h
      · exact .inr (Nat.le_trans hAg.size (Nat.le_trans hE4.size h))
    · simp
      exact ⟨C', .inr ⟨_, hsp, hj'⟩⟩
  · simp [e6, e7, hlt]
    have : i = xs.length := by omega
    rw [this, List.take_length] at hj
    exact ⟨C, .inl hj⟩
end Go.Proofs
namespace Go.Proofs
open Pk
set_option maxRecDepth 10000
/-- Items of numbers, truths and lists, with nothing beside what their Kinds name. -/
inductive Fine : It → Prop
  | uint (n : Int) : Fine (uintI n)
  | bool (n : Int) (h : n ≤ 1) : Fine (.mk 5 n [] ⟨#[]⟩ [])
  | list (l : List It) (h : ∀ x ∈ l, Fine x) : Fine (listI l)
def fineK (k n : Int) (l : List It) : Prop := k = 1 ∧ l = [] ∨ k = 5 ∧ n ≤ 1 ∧ l = [] ∨ k = 4 ∧ n = 0
set_option maxHeartbeats 2000000 in
theorem right_n {k n : Int} {l : List It} (hf : fineK k n l) (ih : ∀ x ∈ l, ∀ (w : World) (cs : List Value), ItC w x cs → FN Tryz.prog 33 [.agg cs.toArray] w fun e w' => (∃ u, e = .returned u) ∧ Ext w w')
    {w : World} {cs : List Value} (ht : ItC w (.mk k n [] ⟨#[]⟩ l) cs) : FN Tryz.prog 33 [.agg cs.toArray] w fun e w' => (∃ u, e = .returned u) ∧ Ext w w' := by
  obtain ⟨bv, lv, css, rfl, hb, hl, hc, hb1, hl1⟩ := itC_mk.1 ht
  obtain ⟨⟨ba, bm, bc, rfl⟩, ⟨la, lm, lc, rfl⟩⟩ := itC_slices ht
  refine FN_enter Tryz.func33 rfl rfl (by kernel_rfl) ?_
  simp
  have hE1 : Ext w (w.alloc (.cells #[i64 k, u64 n, .slice ba bm bc, .string ⟨#[]⟩, .slice la lm lc] 46)) := (Ext.refl w).alloc _
  have x1 : ItBx (w.alloc (.cells #[i64 k, u64 n, .slice ba bm bc, .string ⟨#[]⟩, .slice la lm lc] 46)) w.heap.size k n (.slice ba bm bc) ⟨#[]⟩ (.slice la lm lc) := ItBx.new w _ _ _ _ _ 46
  generalize (w.alloc (.cells #[i64 k, u64 n, .slice ba bm bc, .string ⟨#[]⟩, .slice la lm lc] 46)) = w1 at *
  obtain ⟨b1, hb1'⟩ : ∃ b1, b1 = w.heap.size := ⟨_, rfl⟩
  rw [← hb1'] at x1 ⊢
  refine WC_drawC 8 (.F 1 <| .F 2 <| .C 0 <| .C 3 <| .F 4 <| .F 5 <| .F 6 <| .F 7 <| .Z) (fun _ => false) rfl (by kernel_rfl) fun W hW => ?_
  have hWE : Ext w1 W := hW ▸ Ext.drew _
  have x2 := x1.ext hWE
  simp [x2.c0]
  refine FN.mono (writes_c W) ?_
  rintro _ w2 ⟨r, rfl, hm, hE2⟩
  simp
  refine KR_ext hE2 ?_
  have hz : ∃ z, ∀ w, (zeroValue 79).run Tryz.prog w = .ok z w := ⟨_, fun w => by simp; rfl⟩
  obtain ⟨z, hz⟩ := hz
  have hlk := hm.lookup (P := Tryz.prog) kKind twm (hz w2) k true
  obtain ⟨f, hf1⟩ : ∃ f, mget wrM k = some f := by
    rcases hf with ⟨rfl, -⟩ | ⟨rfl, -⟩ | ⟨rfl, -⟩ <;> exact ⟨_, rfl⟩
  rw [hf1] at hlk
  simp at hlk
  simp [hlk]
  refine KR_same ?_
  have x3 := x2.ext hE2
  have hEw2 := hE1.trans (hWE.trans hE2)
  simp [x3.c0]
  refine with_tail (T := ∀ (σ : Env) (W : World) (b4 : Nat) (yl : Option Addr) (ym yc : Nat), (σ 1 = ptr b1 ∧ σ 3 = .bool true ∧ σ 4 = ptr b4) → ItBx W b1 k n (.slice ba bm bc) ⟨#[]⟩ (.slice la lm lc) → ItBx W b4 k n (.slice none 0 0) ⟨#[]⟩ (.slice yl ym yc) →
    SlB W 5 (.slice yl ym yc) l.length css.flatten → Ext w2 W → FNt Tryz.prog 50 [.string ⟨#[]⟩] W (RC ?dA ?KA ?QA σ []) Tok.mk) (fun tail => ?br) ?jn
  case br =>
    by_cases hk : k = 1
    · have hl0 : l = [] := by
        rcases hf with h | h | h
        · exact h.2
        · omega
        · omega
      have hcs : css = [] := List.eq_nil_of_length_eq_zero (by have := (itCs_iff.1 hc).1; rw [hl0] at this; simpa using this)
      rw [show decide (k = 1) = true from by simp [hk]]
      simp [x3.c1, x3.c3]
      refine tail _ _ w2.heap.size none 0 0 ?_ (x3.ext ((Ext.refl _).alloc _)) (ItBx.new w2 k n _ _ _ 46) ?_ ((Ext.refl _).alloc _)
      · simp
      · rw [hl0, hcs]; exact SlB.nil _ 5 0
    by_cases hk5 : k = 5
    · have hl0 : l = [] := by
        rcases hf with h | h | h
        · omega
        · exact h.2.2
        · omega
      have hcs : css = [] := List.eq_nil_of_length_eq_zero (by have := (itCs_iff.1 hc).1; rw [hl0] at this; simpa using this)
      rw [show decide (k = 1) = false from by simp [hk]]
      simp
      rw [show decide (k = 5) = true from by simp [hk5]]
      simp [x3.c1, x3.c3]
      refine tail _ _ w2.heap.size none 0 0 ?_ (x3.ext ((Ext.refl _).alloc _)) (ItBx.new w2 k n _ _ _ 46) ?_ ((Ext.refl _).alloc _)
      · simp
      · rw [hl0, hcs]; exact SlB.nil _ 5 0
    · have hk4 : k = 4 ∧ n = 0 := by
        rcases hf with h | h | h
        · omega
        · omega
        · exact h
      have hn := hk4.2
      rw [show decide (k = 1) = false from by simp [hk]]
      simp
      rw [show decide (k = 5) = false from by simp [hk5]]
      simp
      rw [show decide (k = 2) = false from by simp [hk4.1]]
      simp
      rw [show decide (k = 3) = false from by simp [hk4.1]]
      simp
      rw [show decide (k = 4) = true from by simp [hk4.1]]
      simp [x3.c4, x3.c3]
      refine tail _ _ w2.heap.size la lm lc ?_ (x3.ext ((Ext.refl _).alloc _)) (hn ▸ ItBx.new w2 k 0 _ _ _ 46) (SlB.ext hl (hEw2.trans ((Ext.refl _).alloc _))) ((Ext.refl _).alloc _)
      simp
  case jn =>
    rintro σ w3 b4 yl ym yc ⟨e1, e3, e4⟩ hx hy hyl hE3
    refine FN.mono (runes_c w3) ?_
    rintro _ w4 ⟨rfl, hE4⟩
    have hx4 := hx.ext hE4
    have hy4 := hy.ext hE4
    simp [e1, e3, e4, hx4.c0, hx4.c1, hx4.c2, hx4.c3, hx4.c4, hy4.c0, hy4.c1, hy4.c2, hy4.c3, hy4.c4]
    have hE04 := hEw2.trans (hE3.trans hE4)
    have hyt : ItC w4 (.mk k n [] ⟨#[]⟩ l) [i64 k, u64 n, .slice none 0 0, .string ⟨#[]⟩, .slice yl ym yc] := itC_mk.2 ⟨_, _, css, rfl, SlB.nil w4 1 0, SlB.ext hyl hE4, ItPs.ext hc hE04, by simp, hl1⟩
    refine FN.mono (same_c (ItC.ext ht hE04) hyt) ?_
    rintro _ w5 ⟨rfl, hE5⟩
    have hx5 := hx4.ext hE5
    have hk5 : (k = 5 → n ≤ 1) := fun h => by rcases hf with h' | h' | h' <;> omega
    have hE05 := hE04.trans hE5
    refine with_tail (T := ∀ (σ : Env) (W : World), (σ 1 = ptr b1) → ItBx W b1 k n (.slice ba bm bc) ⟨#[]⟩ (.slice la lm lc) → Ext w5 W → FNt Tryz.prog 34 [.bool true, i64 2] W (RC ?dB ?KB ?QB σ []) Tok.mk) (fun tail => ?br2) ?jn2
    case br2 =>
      by_cases h5 : k = 5
      · have hn1 := hk5 h5
        simp [e1, hx5.c0, hx5.c1, h5, hn1]
        refine tail _ _ ?_ hx5 (Ext.refl _)
        simp [e1]
      · simp [e1, hx5.c0, h5]
        refine tail _ _ ?_ hx5 (Ext.refl _)
        simp [e1]
    case jn2 =>
      rintro σ w6 e1 hx6 hE6
      refine FN.mono (must_c 2 w6) ?_
      rintro _ w7 ⟨⟨u, rfl⟩, hw⟩
      subst hw
      simp [e1, hx6.c4]
      have hE06 := hE05.trans hE6
      have hl6 := SlB.ext hl hE06
      have hc6 := ItPs.ext hc hE06
      refine FN.mono (vals_c (a := la) (n := lm) (c := lc)) ?_
      rintro _ w8 ⟨bv, rfl, vv, hE8, hbv⟩
      simp
      have hE68 := hE06.trans hE8
      obtain ⟨xs, hxs, hxl⟩ := itPs_ic hc
      have hcl : css.length = l.length := (itCs_iff.1 hc).1
      have hsl8 : SlB w8 5 (.slice la lm lc) xs.length (xs.flatMap IC.cs) := by
        have := SlB.ext hl6 hE8
        rw [hxs] at this
        rw [hxl]
        simpa [List.flatMap_def] using this
      have hit := vals_it vv hsl8 (by omega)
      refine WC_rangeFuncA (gf := 71) (first := #[]) (caps := #[ptr bv]) (enc := fun x : IC => [.agg x.cs.toArray]) (by simp) (fun _ _ => callFunc_enter Tryz.func71 rfl rfl _ _) hit (fun x => rfl) (fun _ => False)
        (fun C pre W => (∀ k, ¬ C k) ∧ Ext w8 W) (fun _ _ _ _ => False)
        (fun k hk => ?_) (fun k hk => hk.elim) ?_ (fun _ _ _ _ _ h _ => h.elim) ⟨fun _ h => h, Ext.refl _⟩ (fun x B ρ' W' => ∃ b, ρ' 7 = ptr b ∧ B ≤ b ∧ ItBx W' b x.k x.n (.slice x.a x.m x.c) x.s (.slice x.a' x.m' x.c')) ?_ ?_ ?_ ?_ (fun _ _ _ _ _ h _ => h.elim)
      · rcases hk with rfl | ⟨hne, rfl⟩
        · exact ⟨vv.lt, id⟩
        · have h0 := List.length_pos_iff.2 hne
          exact ⟨hsl8.lt (by have := hsl8.len; omega), id⟩
      · rintro C pre W W' ⟨h1, h2⟩ hag
        exact ⟨h1, ((h2.mod (S := fun _ => False)).agr_old hag).ext fun _ h => h.elim⟩
      · rintro x B ρ' W W' ⟨b, h1, h2, h3⟩ hag
        exact ⟨b, h1, h2, h3.keep (hag.blk b h3.lt h2)⟩
      · intro lp x W
        simp
        exact ⟨(Ext.refl W).alloc _, ItBx.new W _ _ _ _ _ 46⟩
      · rintro lp C pre x B ρ' W hsp ⟨h1, h2⟩ hl1' hl2 - hBW ⟨b, e7, hB, hx⟩
        obtain ⟨_, suf, hsuf⟩ := hsp
        have hql : pre.length < xs.length := by rw [hsuf]; simp
        have hxq : xs[pre.length]? = some x := by rw [hsuf]; simp
        have hcx : css[pre.length]? = some x.cs := by rw [hxs, List.getElem?_map, hxq]; rfl
        have hlq : pre.length < l.length := by omega
        have hix := (itCs_iff.1 hc).2 pre.length l[pre.length] x.cs (List.getElem?_eq_getElem hlq) hcx
        simp [e7, hx.c0, hx.c1, hx.c2, hx.c3, hx.c4]
        refine FN.mono (ih l[pre.length] (List.getElem_mem hlq) W x.cs (ItC.ext hix (hE68.trans h2))) ?_
        rintro _ W2 ⟨⟨u2, rfl⟩, hE⟩
        simp
        exact ⟨C, ⟨h1, h2.trans hE⟩, Own.of_mod (hE.mod (S := C))⟩
      · rintro C ys W rfl ⟨h1, h2⟩ hD
        simp
        refine LV_mark hD (by simp) ?_
        simp
        exact ((hE68.trans h2).mod (S := fun k => w.heap.size ≤ k)).trans ((Mod.putObj w8.heap.size (.deferred none)).weaken fun k hk => by have := hE68.size; omega) |>.ext fun _ h => h
end Go.Proofs
