/-
  Contracts of the functions that the law reaches, step by step.
-/
import Derived.Test.YtigdaggjbnnjgaaSpN
namespace Go.Proofs
open Pk
set_option maxRecDepth 10000
theorem flat_set4 (s : St) : ∀ (l : List St) (i : Nat), i < l.length → ((((l.flatMap stCells).set (i * 4) (u32 s.f)).set (i * 4 + 1) (u32 s.t)).set (i * 4 + 2) (u64 s.a)).set (i * 4 + 3) (u64 s.k) = (l.set i s).flatMap stCells
  | [], i, h => by simp at h
  | x :: l, 0, _ => by simp [stCells]
  | x :: l, i + 1, h => by
    have := flat_set4 s l i (by simpa using h)
    rw [show (i + 1) * 4 = i * 4 + 1 + 1 + 1 + 1 from by omega, show i * 4 + 1 + 1 + 1 + 1 + 1 = (i * 4 + 1) + 1 + 1 + 1 + 1 from rfl, show i * 4 + 1 + 1 + 1 + 1 + 2 = (i * 4 + 2) + 1 + 1 + 1 + 1 from rfl, show i * 4 + 1 + 1 + 1 + 1 + 3 = (i * 4 + 3) + 1 + 1 + 1 + 1 from rfl]
    simp only [List.flatMap_cons, stCells, List.cons_append, List.nil_append, List.set_cons_succ]
    rw [this]
/-- A step is laid in a place of a row of one's own. -/
theorem own_put {w : World} {base e : Nat} {v : Value} {l : List St} (h : w.ownsRow base e 4 v l.length (l.flatMap stCells)) (i : Nat) (hi : i < l.length) (s : St) :
    (((((w.setCell ⟨(slB v), (slO v + i * 4), none⟩ (u32 s.f)).setCell ⟨(slB v), (slO v + i * 4) + 1, none⟩ (u32 s.t)).setCell ⟨(slB v), (slO v + i * 4) + 2, none⟩ (u64 s.a)).setCell ⟨(slB v), (slO v + i * 4) + 3, none⟩ (u64 s.k))).ownsRow base e 4 v l.length ((l.set i s).flatMap stCells) := by
  have hl := flat_len stCells (fun _ => rfl) (s := 4) l
  have h1 := own_set (own_set (own_set (own_set h (i * 4) (by omega) (u32 s.f)) (i * 4 + 1) (by simp only [List.length_set]; omega) (u32 s.t)) (i * 4 + 2) (by simp only [List.length_set]; omega) (u64 s.a)) (i * 4 + 3) (by simp only [List.length_set]; omega) (u64 s.k)
  rw [flat_set4 s l i hi] at h1
  simpa only [Nat.add_assoc] using h1
theorem mod_put (w : World) (b o : Nat) (s : St) : Mod (fun k => k = b) w ((((w.setCell ⟨b, o, none⟩ (u32 s.f)).setCell ⟨b, o + 1, none⟩ (u32 s.t)).setCell ⟨b, o + 2, none⟩ (u64 s.a)).setCell ⟨b, o + 3, none⟩ (u64 s.k)) := ((((Mod.refl _ w).setC _ _).setC _ _).setC _ _).setC _ _
def rsetE (l : List St) (s : St) : Int := if badS s then 2 else if (l.findIdx? (hitS s.f s.t s.a)).isSome then 0 else if 512 ≤ l.length then 280 else 0
def rsetW (l : List St) (s : St) : Bool := !badS s && (l.findIdx? (hitS s.f s.t s.a)).isSome
def rsetL (l : List St) (s : St) : List St := if badS s then l else match l.findIdx? (hitS s.f s.t s.a) with | some i => l.set i s | none => if 512 ≤ l.length then l else l ++ [s]
set_option maxHeartbeats 1000000 in
theorem rset_c {w : World} {v : Value} {l : List St} (h : TRw w v l) (s : St) (hs : StOk s) (hb : l.length ≤ 1000) :
    FN Try.prog 37 [.agg #[v], stV s] w fun e w' => ∃ v', e = .returned (.tuple #[.agg #[v'], .bool (rsetW l s), i64 (rsetE l s)]) ∧ Ext w w' ∧ TRw w' v' (rsetL l s) ∧ (rsetL l s ≠ [] → v' = v ∨ w.heap.size ≤ slB v') := by
  refine FN_enter Try.func37 rfl rfl (by kernel_rfl) ?_
  obtain ⟨va, vc, hv⟩ := h.isSlice
  subst hv
  have hlen := fun ty W => h.isLen (P := Try.prog) (t := 22) (by simp) ty W
  simp
  have hE1 : Ext w (((w.alloc (.cells #[.slice va l.length vc] 51)).alloc (.cells #[u32 s.f, u32 s.t, u64 s.a, u64 s.k] 35)).alloc (.cells #[.slice none 0 0] 51)) := (((Ext.refl w).alloc _).alloc _).alloc _
  have o0 : Var (((w.alloc (.cells #[.slice va l.length vc] 51)).alloc (.cells #[u32 s.f, u32 s.t, u64 s.a, u64 s.k] 35)).alloc (.cells #[.slice none 0 0] 51)) w.heap.size (.slice va l.length vc) := (Var.new w _ _).ext (((Ext.refl _).alloc _).alloc _)
  have s1 : StAt (((w.alloc (.cells #[.slice va l.length vc] 51)).alloc (.cells #[u32 s.f, u32 s.t, u64 s.a, u64 s.k] 35)).alloc (.cells #[.slice none 0 0] 51)) (w.heap.size + 1) s := by
    have := (StAt.new (w.alloc (.cells #[.slice va l.length vc] 51)) s 35).ext ((Ext.refl _).alloc (.cells #[.slice none 0 0] 51))
    simpa using this
  have o2 : Var (((w.alloc (.cells #[.slice va l.length vc] 51)).alloc (.cells #[u32 s.f, u32 s.t, u64 s.a, u64 s.k] 35)).alloc (.cells #[.slice none 0 0] 51)) (w.heap.size + 1 + 1) (.slice none 0 0) := by
    have := Var.new ((w.alloc (.cells #[.slice va l.length vc] 51)).alloc (.cells #[u32 s.f, u32 s.t, u64 s.a, u64 s.k] 35)) (.slice none 0 0) 51
    simpa using this
  have z1 : (((w.alloc (.cells #[.slice va l.length vc] 51)).alloc (.cells #[u32 s.f, u32 s.t, u64 s.a, u64 s.k] 35)).alloc (.cells #[.slice none 0 0] 51)).heap.size = w.heap.size + 1 + 1 + 1 := by simp
  generalize (((w.alloc (.cells #[.slice va l.length vc] 51)).alloc (.cells #[u32 s.f, u32 s.t, u64 s.a, u64 s.k] 35)).alloc (.cells #[.slice none 0 0] 51)) = w1 at *
  refine FN.mono (rright_c s hs w1) ?_
  rintro _ w2 ⟨rfl, hE2⟩
  have p0 := o0.ext hE2
  have p1 := s1.ext hE2
  have p2 := o2.ext hE2
  have fin : ∀ (W : World) (a : Value), Ext w W → Ext w (W.setCell ⟨w.heap.size + 1 + 1, 0, none⟩ a) := fun W a hW => hW.setCell _ _ (by simp only; omega)
  cases hbad : badS s with
  | true =>
    simp [rsetE, rsetW, rsetL, hbad, p0.cell, p2.cell, p2.thaw, cell_setCell]
    exact ⟨fin _ _ (hE1.trans hE2), h.ext (fin _ _ (hE1.trans hE2))⟩
  | false =>
    simp [p0.cell, p1.c0, p1.c1, p1.c2]
    refine FN.mono (rfind_c (h.ext (hE1.trans hE2)) s.f s.t s.a (by omega)) ?_
    rintro _ w3 ⟨rfl, hE3⟩
    have hE13 := hE1.trans (hE2.trans hE3)
    have q0 := p0.ext hE3
    have q1 := p1.ext hE3
    have q2 := p2.ext hE3
    have zz := (hE2.trans hE3).size
    have ho := own_empty (e := 35) (s := 4) w3 w1.heap.size zz
    have hE4 := (Ext.refl w3).alloc (.cells #[] 35)
    simp [q0.cell]
    generalize hw4 : (w3.alloc (.cells #[] 35)) = w4 at *
    have r0 := q0.ext hE4
    have r1 := q1.ext hE4
    have r2 := q2.ext hE4
    obtain ⟨v5, w5, hr5, ho5, hE5⟩ := append_newB (P := Try.prog) (t := 22) (ty := 22) (e := 35) (s := 4) (by simp) (by simp) (by kernel_rfl) ho (SlB.ext h.toB (hE13.trans hE4)) (st_one l) (by omega) (by have := hE4.size; omega)
    have t0 := r0.ext hE5
    have t1 := r1.ext hE5
    have t2 := r2.ext hE5
    have hE15 := hE13.trans (hE4.trans hE5)
    have hsl5 : TRw w5 v5 l := sl_of_own ho5
    obtain ⟨a5, c5, hv5⟩ := own_val ho5
    have hge := fun hn => own_ge ho5 hn
    have zz5 := (hE4.trans hE5).size
    cases hfi : l.findIdx? (hitS s.f s.t s.a) with
    | some i =>
      have hI : fndI l s.f s.t s.a = (i : Int) := by simp [fndI, hfi]
      have hil : i < l.length := (List.findIdx?_eq_some_iff_getElem.1 hfi).1
      have ix := TRw.index hsl5 i hil
      have rr := TRw.row hsl5 (List.getElem?_eq_getElem hil)
      have th := fun j => own_thaw ho5 (by omega) j
      have hn5 := own_nil ho5 (by omega)
      have hge5 := hge hn5
      have hput := own_put ho5 i hil s
      have hM := mod_put w5 (slB v5) (slO v5 + i * 4) s
      rw [hI]
      simp [hr5, ix, t1.c0, t1.c1, t1.c2, t1.c3, rr.c0, rr.c1, rr.c2, rr.c3, th, cell_setCell]
      have u2 := t2.mod hM (by omega)
      generalize ((((w5.setCell ⟨(slB v5), (slO v5 + i * 4), none⟩ (u32 s.f)).setCell ⟨(slB v5), (slO v5 + i * 4) + 1, none⟩ (u32 s.t)).setCell ⟨(slB v5), (slO v5 + i * 4) + 2, none⟩ (u64 s.a)).setCell ⟨(slB v5), (slO v5 + i * 4) + 3, none⟩ (u64 s.k)) = w6 at *
      subst hv5
      simp [rsetE, rsetW, rsetL, hbad, hfi, u2.cell, u2.thaw, cell_setCell]
      have hE6 : Ext w w6 := ((hE15.mod (S := fun k => w.heap.size ≤ k)).trans (hM.weaken fun k hk => by subst hk; omega)).ext fun _ h => h
      refine ⟨fin _ _ hE6, ?_, fun _ => .inr (by omega)⟩
      have hM7 : Mod (fun k => k = w.heap.size + 1 + 1) w6 (w6.setCell ⟨w.heap.size + 1 + 1, 0, none⟩ (.slice a5 l.length c5)) := (Mod.refl _ _).setC _ _
      have := (sl_of_own hput).mod hM7 (by omega)
      show Sl _ 4 _ (l.set i s).length _
      simpa using this
    | none =>
      have hI : fndI l s.f s.t s.a = -1 := by simp [fndI, hfi]
      have hlen5 := fun ty W => hsl5.isLen (P := Try.prog) (t := 22) (by simp) ty W
      rw [hI]
      by_cases h512 : 512 ≤ l.length
      · have h512' : (512 : Int) ≤ l.length := by omega
        simp [hr5, hlen5, h512', t0.cell]
        simp [rsetE, rsetW, rsetL, hbad, hfi, h512, t2.cell, t2.thaw, cell_setCell]
        exact ⟨fin _ _ hE15, h.ext (fin _ _ hE15)⟩
      · have h512' : ¬ ((512 : Int) ≤ l.length) := by omega
        simp [hr5, hlen5, h512', t1.c0, t1.c1, t1.c2, t1.c3]
        have hm := Sl.made w5 (stCells s) 35 4 1 rfl
        have hE6 := (Ext.refl w5).alloc (.cells (stCells s).toArray 35)
        simp only [stCells] at hm hE6
        have ho6 := own_ext ho5 hE6
        have u2 := t2.ext hE6
        have zz6 := hE6.size
        have hw6 : (w5.alloc (.cells [u32 s.f, u32 s.t, u64 s.a, u64 s.k].toArray 35)) = (w5.alloc (.cells #[u32 s.f, u32 s.t, u64 s.a, u64 s.k] 35)) := rfl
        rw [hw6] at hm hE6 ho6 u2 zz6
        generalize (w5.alloc (.cells #[u32 s.f, u32 s.t, u64 s.a, u64 s.k] 35)) = w6 at *
        obtain ⟨v7, w7, hr7, ho7, hM7, hnew⟩ := append_own (P := Try.prog) (t := 22) (ty := 22) (e := 35) (s := 4) (by simp) (by simp) (by kernel_rfl) ho6 hm (by intro u hu; simp at hu; rcases hu with rfl | rfl | rfl | rfl <;> rfl) (by omega) (by omega)
        obtain ⟨a7, c7, hv7⟩ := own_val ho7
        have x2 := u2.mod hM7 (fun hk => by have := hge hk.1; omega)
        subst hv7
        simp [hr7]
        simp [rsetE, rsetW, rsetL, hbad, hfi, h512, x2.cell, x2.thaw, cell_setCell]
        have hn7 := own_nil ho7 (by omega)
        have hge7 := own_ge ho7 hn7
        have hE7 : Ext w w7 := (((hE15.trans hE6).mod (S := fun k => w.heap.size ≤ k)).trans (hM7.weaken fun k hk => by have := hge hk.1; omega)).ext fun _ h => h
        refine ⟨fin _ _ hE7, ?_, by omega⟩
        have hM8 : Mod (fun k => k = w.heap.size + 1 + 1) w7 (w7.setCell ⟨w.heap.size + 1 + 1, 0, none⟩ (.slice a7 (l.length + 1) c7)) := (Mod.refl _ _).setC _ _
        have := (sl_of_own ho7).mod hM8 (by omega)
        show Sl _ 4 _ (l ++ [s]).length _
        simpa [stCells] using this
end Go.Proofs
namespace Go.Proofs
open Pk
set_option maxRecDepth 10000
def st0 : St := ⟨0, 0, 0, 0⟩
def rdropE (l : List St) (f g a : Int) : Int := if (l.findIdx? (hitS f g a)).isSome then 0 else 5
def rdropL (l : List St) (f g a : Int) : List St := match l.findIdx? (hitS f g a) with | some i => l.take i ++ l.drop (i + 1) | none => l
def rdropS (l : List St) (f g a : Int) : St := match l.findIdx? (hitS f g a) with | some i => l.getD i st0 | none => st0
set_option maxHeartbeats 1000000 in
theorem rdrop_c {w : World} {v : Value} {l : List St} (h : TRw w v l) (f g a : Int) (hb : l.length ≤ 1000) :
    FN Try.prog 38 [.agg #[v], u32 f, u32 g, u64 a] w fun e w' => ∃ v', e = .returned (.tuple #[.agg #[v'], stV (rdropS l f g a), i64 (rdropE l f g a)]) ∧ Ext w w' ∧ TRw w' v' (rdropL l f g a) ∧ (rdropL l f g a ≠ [] → v' = v ∨ w.heap.size ≤ slB v') := by
  refine FN_enter Try.func38 rfl rfl (by kernel_rfl) ?_
  obtain ⟨va, vc, hv⟩ := h.isSlice
  subst hv
  simp
  have hE1 : Ext w (((w.alloc (.cells #[.slice va l.length vc] 51)).alloc (.cells #[.slice none 0 0] 51)).alloc (.cells #[u32 0, u32 0, u64 0, u64 0] 35)) := (((Ext.refl w).alloc _).alloc _).alloc _
  have o0 : Blk (((w.alloc (.cells #[.slice va l.length vc] 51)).alloc (.cells #[.slice none 0 0] 51)).alloc (.cells #[u32 0, u32 0, u64 0, u64 0] 35)) w.heap.size [.slice va l.length vc] := (Blk.new w _ _).ext (((Ext.refl _).alloc _).alloc _)
  have o1 : Blk (((w.alloc (.cells #[.slice va l.length vc] 51)).alloc (.cells #[.slice none 0 0] 51)).alloc (.cells #[u32 0, u32 0, u64 0, u64 0] 35)) (w.heap.size + 1) [.slice none 0 0] := by
    have := (Blk.new (w.alloc (.cells #[.slice va l.length vc] 51)) [.slice none 0 0] 51).ext ((Ext.refl _).alloc (.cells #[u32 0, u32 0, u64 0, u64 0] 35))
    simpa using this
  have o2 : Blk (((w.alloc (.cells #[.slice va l.length vc] 51)).alloc (.cells #[.slice none 0 0] 51)).alloc (.cells #[u32 0, u32 0, u64 0, u64 0] 35)) (w.heap.size + 1 + 1) [u32 0, u32 0, u64 0, u64 0] := by
    have := Blk.new ((w.alloc (.cells #[.slice va l.length vc] 51)).alloc (.cells #[.slice none 0 0] 51)) [u32 0, u32 0, u64 0, u64 0] 35
    simpa using this
  have z1 : (((w.alloc (.cells #[.slice va l.length vc] 51)).alloc (.cells #[.slice none 0 0] 51)).alloc (.cells #[u32 0, u32 0, u64 0, u64 0] 35)).heap.size = w.heap.size + 1 + 1 + 1 := by simp
  generalize (((w.alloc (.cells #[.slice va l.length vc] 51)).alloc (.cells #[.slice none 0 0] 51)).alloc (.cells #[u32 0, u32 0, u64 0, u64 0] 35)) = w1 at *
  refine FN.mono (rfind_c (h.ext hE1) f g a (by omega)) ?_
  rintro _ w2 ⟨rfl, hE2⟩
  have p0 := o0.ext hE2
  have p1 := o1.ext hE2
  have p2 := o2.ext hE2
  have hE12 := hE1.trans hE2
  have fin : ∀ (W : World) (x : Value) (s : St), Ext w W → Ext w (((((W.setCell ⟨w.heap.size + 1, 0, none⟩ x).setCell ⟨w.heap.size + 1 + 1, 0, none⟩ (u32 s.f)).setCell ⟨w.heap.size + 1 + 1, 1, none⟩ (u32 s.t)).setCell ⟨w.heap.size + 1 + 1, 2, none⟩ (u64 s.a)).setCell ⟨w.heap.size + 1 + 1, 3, none⟩ (u64 s.k)) :=
    fun W x s hW => ((((hW.setCell _ _ (by simp only; omega)).setCell _ _ (by simp only; omega)).setCell _ _ (by simp only; omega)).setCell _ _ (by simp only; omega)).setCell _ _ (by simp only; omega)
  cases hfi : l.findIdx? (hitS f g a) with
  | none =>
    have hI : fndI l f g a = -1 := by simp [fndI, hfi]
    rw [hI]
    simp [rdropS, rdropE, rdropL, hfi, st0, p0.cell 0 _ rfl, p1.cell 0 _ rfl, p1.thaw, p2.cell 0 _ rfl, p2.cell 1 _ rfl, p2.cell 2 _ rfl, p2.cell 3 _ rfl, p2.thaw, cell_setCell]
    exact ⟨fin _ _ st0 hE12, h.ext (fin _ _ st0 hE12)⟩
  | some i =>
    have hI : fndI l f g a = (i : Int) := by simp [fndI, hfi]
    have hil : i < l.length := (List.findIdx?_eq_some_iff_getElem.1 hfi).1
    have nx : IntKind.i64.wrap ((i : Int) + 1) = (i : Int) + 1 := wrap64 _ (by omega) (by omega)
    have hnn : ¬ ((i : Int) < 0) := by omega
    obtain ⟨u1, hr1, hS1, hb1⟩ := sl_head (P := Try.prog) (t := 22) h (by simp) (fun W => by simp) .i64 i (by omega)
    obtain ⟨u2, hr2, hS2, hb2⟩ := sl_tail (P := Try.prog) (t := 22) h (by simp) (fun W => by simp) .i64 (i + 1) (by omega)
    push_cast at hr2
    rw [hI]
    simp [hnn]
    refine WC_drawC 19 (.F 1 <| .F 2 <| .F 3 <| .F 4 <| .F 6 <| .F 7 <| .F 8 <| .F 9 <| .F 10 <| .F 13 <| .F 14 <| .F 15 <| .F 16 <| .F 17 <| .C 0 <| .C 5 <| .C 11 <| .F 12 <| .C 18 <| .Z) (fun k => decide (w.heap.size + 1 ≤ k)) rfl (by kernel_rfl) fun W hW => ?_
    have hWE : Ext w2 W := hW ▸ Ext.drew _
    have hE1W := hE12.trans hWE
    have q0 := p0.ext hWE
    have q1 := p1.ext hWE
    have q2 := p2.ext hWE
    have rr := TRw.row (h.ext hE1W) (List.getElem?_eq_getElem hil)
    have ix := TRw.index h i hil
    have hlt : slB (.slice va l.length vc) < w.heap.size := Sl.lt h (by rw [flat_len stCells (fun _ => rfl) (s := 4)]; omega)
    have d0 : decide (w.heap.size + 1 ≤ w.heap.size) = false := by simp
    have d1 : decide (w.heap.size + 1 ≤ slB (.slice va l.length vc)) = false := by simp only [decide_eq_false_iff_not]; omega
    simp [q0.cell 0 _ rfl, d1, nx, hr1, hr2, ix, rr.c0, rr.c1, rr.c2, rr.c3]
    have hs1 := hS1 W (h.ext hE1W)
    have hs2 := hS2 W (h.ext hE1W)
    rw [← flat_take stCells (fun _ => rfl)] at hs1
    rw [← flat_drop stCells (fun _ => rfl)] at hs2
    have zW := (hE2.trans hWE).size
    have ho := own_empty (e := 35) (s := 4) W w1.heap.size zW
    have hEa := (Ext.refl W).alloc (.cells #[] 35)
    refine KR_ext hEa ?_
    generalize hwa : (W.alloc (.cells #[] 35)) = Wa at *
    have zA := hEa.size
    obtain ⟨v5, w5, hr5, ho5, hE5⟩ := append_newB (P := Try.prog) (t := 22) (ty := 22) (e := 35) (s := 4) (by simp) (by simp) (by kernel_rfl) ho (hs1.ext hEa).toB (st_one _) (by omega) (by omega)
    simp [hr5]
    refine KR_ext hE5 ?_
    have zB := hE5.size
    have hge := fun hn => own_ge ho5 hn
    obtain ⟨v6, w6, hr6, ho6, hM6, -⟩ := append_own (P := Try.prog) (t := 22) (ty := 22) (e := 35) (s := 4) (by simp) (by simp) (by kernel_rfl) ho5 (hs2.ext (hEa.trans hE5)) (st_one _) (by omega) (by omega)
    obtain ⟨a6, c6, hv6⟩ := own_val ho6
    have nS : ∀ k, k < w1.heap.size → ¬ (slN v5 = false ∧ k = slB v5) := fun k hk ⟨e1, e2⟩ => by have := hge e1; omega
    have hEab := hEa.trans hE5
    have r1 := (q1.ext hEab).mod hM6 (nS _ (by omega))
    have r2 := (q2.ext hEab).mod hM6 (nS _ (by omega))
    subst hv6
    simp [hr6]
    refine KR_mk (hM6.agr fun k hk => ?_) ?_
    · have := of_decide_eq_false hk
      exact nS k (by omega)
    simp [r1.cell 0 _ rfl, r1.thaw]
    refine KR_mk (((Mod.refl (fun k => k = w.heap.size + 1) _).setC 0 _).agr fun k hk e => ?_) ?_
    · have := of_decide_eq_false hk
      omega
    simp [rdropS, rdropE, rdropL, hfi, st0, r1.cell 0 _ rfl, r2.cell 0 _ rfl, r2.cell 1 _ rfl, r2.cell 2 _ rfl, r2.cell 3 _ rfl, r2.thaw, cell_setCell, List.getElem?_eq_getElem hil]
    have hE6 : Ext w w6 := (((hE1W.trans hEab).mod (S := fun k => w.heap.size ≤ k)).trans (hM6.weaken fun k hk => by have := hge hk.1; have := hE1W.size; omega)).ext fun _ h => h
    have hMf : Mod (fun k => k = w.heap.size + 1 ∨ k = w.heap.size + 1 + 1) w6 (((((w6.setCell ⟨w.heap.size + 1, 0, none⟩ (.slice a6 (i + (l.length - (i + 1))) c6)).setCell ⟨w.heap.size + 1 + 1, 0, none⟩ (u32 l[i].f)).setCell ⟨w.heap.size + 1 + 1, 1, none⟩ (u32 l[i].t)).setCell ⟨w.heap.size + 1 + 1, 2, none⟩ (u64 l[i].a)).setCell ⟨w.heap.size + 1 + 1, 3, none⟩ (u64 l[i].k)) :=
      (((((Mod.refl _ w6).setCell _ _ (.inl (.inl rfl))).setCell _ _ (.inl (.inr rfl))).setCell _ _ (.inl (.inr rfl))).setCell _ _ (.inl (.inr rfl))).setCell _ _ (.inl (.inr rfl))
    refine ⟨fin _ _ l[i] hE6, ?_, fun hc => .inr ?_⟩
    · have hr := (sl_of_own ho6).mod hMf (fun hk => by
        rcases hk with hk | hk
        · exact own_out ho6 (by omega) (by omega) hk
        · exact own_out ho6 (by omega) (by omega) hk)
      rw [← List.flatMap_append] at hr
      have hln : (l.take i ++ l.drop (i + 1)).length = i + (l.length - (i + 1)) := by simp; omega
      show Sl _ 4 _ (l.take i ++ l.drop (i + 1)).length _
      rw [hln]
      exact hr
    · have hn : 0 < i + (l.length - (i + 1)) := by
        by_cases h0 : i = 0
        · have := hc (.inl h0); omega
        · omega
      have := own_ge ho6 (own_nil ho6 hn)
      omega
end Go.Proofs
