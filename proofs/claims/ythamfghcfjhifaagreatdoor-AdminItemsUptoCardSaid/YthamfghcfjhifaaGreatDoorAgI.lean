/-
  Contracts of the functions that the law reaches, step by step.
-/
import Derived.Test.YthamfghcfjhifaaGreatDoorAgK
namespace Go.Proofs
open Pk
set_option maxRecDepth 10000
attribute [local simp] beq_dec bne_dec
set_option maxHeartbeats 40000000 in
theorem rofLoop {w V8 : World} {t q0 : It} {l : List It} {cs : List Value} {css : List (List Value)} {ba la : Option Addr} {bc lc nb : Nat} (ht : ItC w t cs) (hO : ItO w t cs (.slice ba t.b.length bc) (.slice la t.l.length lc) css)
    (hn0 : ∀ x ∈ t.l, 0 ≤ x.n ∧ x.n ≤ 18446744073709551615) (hn1 : ∀ x ∈ t.l, ∀ y ∈ x.l, 0 ≤ y.n ∧ y.n ≤ 18446744073709551615) (hn3 : ∀ x ∈ t.l, ∀ y ∈ x.l, ∀ z ∈ y.l, ∀ u ∈ z.l, 0 ≤ u.n) (h4 : t.k = 4) (hl : t.l = q0 :: l) (g1 : q0.k = 1) (good : 1 ≤ q0.n ∧ q0.n ≤ 5)
    (hshp : shB t (shp q0.n.toNat)) (hl6 : t.l.length ≤ 6) (b8 : Blk V8 nb (numC t.l 0)) (x8 : Blk V8 w.heap.size [i64 t.k, u64 t.n, .slice ba t.b.length bc, .string t.s, .slice la t.l.length lc]) (o8 : Blk V8 (w.heap.size + 1) [i64 0, u32 0, u32 0, u64 0, u32 0, i64 0, i64 0, u64 0, u64 0, u32 0, u32 0, .bool false, u64 0, u64 0, u8 0]) (hX8 : Ext w V8) (hnb' : w.heap.size + 1 < nb) {ρ0 : Env}
    (f1 : ρ0 1 = ptr w.heap.size) (f2 : ρ0 2 = ptr (w.heap.size + 1)) (f4 : ρ0 4 = i64 q0.n) (f5 : ρ0 5 = ptr nb) (f6 : ρ0 6 = i64 0) : loopAt Tryz.prog 193 none (atCode Tryz.f22 5) (QF Tryz.prog Tryz.f22.results fun e w' => e = .returned (ofV (ofD t)) ∧ Ext w w') ρ0 [] V8 := by
  have ecs := hO.cs
  have itc : ∀ W, Ext w W → ItC W t [i64 t.k, u64 t.n, .slice ba t.b.length bc, .string t.s, .slice la t.l.length lc] := fun W h => by rw [← ecs]; exact ht.ext h
  have len := fun ty W => hO.l.isLen (P := Tryz.prog) (t := 48) (by simp) ty W
  have ixa := fun W (h : Ext w W) (j : Nat) (hj : j < t.l.length) => (hO.l.ext h).index (P := Tryz.prog) (t := 48) (by simp) .i64 j (by omega) (by omega) W
  refine loop_in rfl ?_
  simp
  refine WC_loop (fun j ρ ds w' => ∃ i : Nat, j = t.l.length - i ∧ i ≤ t.l.length ∧ ρ 1 = ptr w.heap.size ∧ ρ 2 = ptr (w.heap.size + 1) ∧ ρ 4 = i64 q0.n ∧ ρ 5 = ptr nb ∧ ρ 6 = i64 i ∧ ds = [] ∧ Mod (fun k => k = nb) V8 w' ∧ Blk w' nb (numC t.l i)) t.l.length ⟨0, by simp, by omega, f1, f2, f4, f5, f6, rfl, Mod.refl _ _, b8⟩ ?_
  rintro j ρ ds w9 ⟨i, rfl, hi, e1, e2, e4, e5, e6, rfl, hM9, b9⟩
  have x9 := x8.mod hM9 (by omega)
  have o9 := o8.mod hM9 (by omega)
  have hX9 : Ext w w9 := ((hX8.mod (S := fun _ => False)).trans' hM9 (fun k e => .inr (by omega))).ext (fun _ h => h.elim)
  by_cases hlt : i < t.l.length
  · have hq : t.l[i]? = some t.l[i] := List.getElem?_eq_getElem hlt
    obtain ⟨_, _, _, _, _, -, ri⟩ := itRowO (hO.l.ext hX9) (hO.c.ext hX9) hq
    have ii := ixa w9 hX9 i hlt
    have ric := ri.c1
    have hlt' : (i : Int) < t.l.length := by omega
    have b10 := b9.set i (u64 t.l[i].n)
    rw [numC_set hlt (by omega)] at b10
    simp at ii
    have hi6 : 0 ≤ (i : Int) ∧ (i : Int) < Tryz.prog.arrayLen 93 := by
      rw [show Tryz.prog.arrayLen 93 = 6 from by kernel_rfl]; omega
    have ia : (Instr.indexAt 93 (ptr nb) (i64 i)).run Tryz.prog w9 = .ok (.pointer (some ⟨nb, i, none⟩)) w9 := by
      rw [run_indexAt_array (P := Tryz.prog) (w := w9) 93 ⟨nb, 0, none⟩ .i64 i (by kernel_rfl), if_pos hi6, show Tryz.prog.elem 93 = 26 from by kernel_rfl]
      simp
    have hM10 : Mod (fun k => k = nb) V8 (w9.setCell ⟨nb, i, none⟩ (u64 t.l[i].n)) := hM9.setC _ _
    obtain ⟨uo, huo⟩ : ∃ uo, (numC t.l i)[i]? = some uo := ⟨_, List.getElem?_eq_getElem (by show i < 6; omega)⟩
    have co := b9.cell i uo huo
    simp [e1, e5, e6, x9.cell 4 _ rfl, len, hlt, ii, ric, ia, co, b9.thaw]
    exact ⟨t.l.length - (i + 1), by omega, i + 1, rfl, by omega, e2, e4, by rw [wrap64 _ (by omega) (by omega)]; push_cast; rfl, hM10, b10⟩
  · have : i = t.l.length := by omega
    subst this
    simp [e1, e4, e6, x9.cell 4 _ rfl, len]
    have hE10 : Ext w9 (w9.alloc (.cells #[i64 q0.n, u32 0, u32 0, u64 0, u32 0, i64 0, i64 0, u64 0, u64 0, u32 0, u32 0, .bool false, u64 0, u64 0, u8 0] 30)) := (Ext.refl _).alloc _
    have r10 : Blk (w9.alloc (.cells #[i64 q0.n, u32 0, u32 0, u64 0, u32 0, i64 0, i64 0, u64 0, u64 0, u32 0, u32 0, .bool false, u64 0, u64 0, u8 0] 30)) w9.heap.size (recC { rec0 with kind := q0.n }) := Blk.new w9 (recC { rec0 with kind := q0.n }) 30
    have x10 := x9.ext hE10
    have o10 := o9.ext hE10
    have b10 := b9.ext hE10
    have hX10 := hX9.trans hE10
    have hx9l := x9.lt
    have ho9l := o9.lt
    have hb9l := b9.lt
    have hw9 := hX9.size
    obtain ⟨rb, hrb⟩ : ∃ rb, rb = w9.heap.size := ⟨_, rfl⟩
    rw [← hrb] at r10 ⊢
    generalize (w9.alloc (.cells #[i64 q0.n, u32 0, u32 0, u64 0, u32 0, i64 0, i64 0, u64 0, u64 0, u32 0, u32 0, .bool false, u64 0, u64 0, u8 0] 30)) = w10 at *
    have hnb : w.heap.size ≤ nb ∧ w.heap.size + 1 < nb := by omega
    have nOk : ∀ j, 0 ≤ nAt t.l j ∧ nAt t.l j ≤ 18446744073709551615 := fun j => by
      unfold nAt
      split
      · rename_i x hx; exact hn0 x (List.mem_of_getElem? hx)
      · omega
    have hofR : ∀ r, recOfD q0.n t.l = some r → ofD t = if rightE r = 0 ∧ t = itemR r then some r else none := fun r hr => by
      unfold ofD
      rw [if_pos h4]
      rw [hl] at hr ⊢
      show (if q0.k = 1 ∧ 1 ≤ q0.n ∧ q0.n ≤ 5 then _ else _) = _
      rw [if_pos ⟨g1, good⟩, if_pos hshp, hr]
    have hofN : recOfD q0.n t.l = none → ofD t = none := fun hr => by
      unfold ofD
      rw [if_pos h4]
      rw [hl] at hr ⊢
      show (if q0.k = 1 ∧ 1 ≤ q0.n ∧ q0.n ≤ 5 then _ else _) = _
      rw [if_pos ⟨g1, good⟩, if_pos hshp, hr]
    have hc : q0.n = 1 ∨ q0.n = 2 ∨ q0.n = 3 ∨ q0.n = 4 ∨ q0.n = 5 := by omega
    rcases hc with kk | kk | kk | kk | kk
    · have hlen : t.l.length = 5 := by
        have := congrArg List.length hshp.2
        rw [List.length_map, kk] at this
        exact this
      have bK : Blk w10 nb [u64 (nAt t.l 0), u64 (nAt t.l 1), u64 (nAt t.l 2), u64 (nAt t.l 3), u64 (nAt t.l 4), u64 0] := by rw [hlen] at b10; exact b10
      have n2 := nOk 2
      have n3 := nOk 3
      have n4 := nOk 4
      obtain ⟨q1, hq1⟩ : ∃ q1, t.l[1]? = some q1 := ⟨_, List.getElem?_eq_getElem (by omega)⟩
      have hm1 : q1 ∈ t.l := List.mem_of_getElem? hq1
      obtain ⟨bb, bbc, lb, lbc, css1, hO1, r1⟩ := itRowO (hO.l.ext hX10) (hO.c.ext hX10) hq1
      have ix := ixa w10 hX10 1 (by omega)
      have rd0 := r1.c0
      have rd1 := r1.c1
      have rd2 := r1.c2
      have rd3 := r1.c3
      have rd4 := r1.c4
      simp at ix rd0 rd1 rd2 rd3 rd4
      simp [kk, e1, x10.cell 4 _ rfl, ix, rd0, rd1, rd2, rd3, rd4]
      have hnm := rnameOf_c hO1.itC (fun x hx => (hn1 q1 hm1 x hx).1) (hn3 q1 hm1)
      obtain ⟨on, hon⟩ : ∃ on, on = nameOfD q1 := ⟨_, rfl⟩
      rw [← hon] at hnm
      obtain ⟨N, ok, hnv, hok⟩ : ∃ N ok, namOV on = .tuple #[namV N, .bool ok] ∧ (ok = true ∧ on = some N ∨ ok = false ∧ on = none) := by
        cases on with
        | none => exact ⟨⟨0, 0, 0, 0⟩, false, rfl, .inr ⟨rfl, rfl⟩⟩
        | some n => exact ⟨n, true, rfl, .inl ⟨rfl, rfl⟩⟩
      rw [hnv] at hnm
      simp at hnm
      refine FN.mono (hnm) ?_
      rintro _ w11 ⟨rfl, hE11⟩
      have r11 := r10.ext hE11
      have x11 := x10.ext hE11
      have o11 := o10.ext hE11
      have b11 := bK.ext hE11
      simp [r11.cell 1 _ rfl, r11.cell 2 _ rfl, r11.cell 3 _ rfl, r11.cell 4 _ rfl, r11.thaw, cell_setCell]
      have r12 := (((r11.set 1 (u32 N.nn)).set 2 (u32 N.ns)).set 3 (u64 N.nt)).set 4 (u32 N.nq)
      simp only [List.set_cons_zero, List.set_cons_succ] at r12
      have hM12 : Mod (fun k => k = rb) w11 ((((w11.setCell ⟨rb, 1, none⟩ (u32 N.nn)).setCell ⟨rb, 2, none⟩ (u32 N.ns)).setCell ⟨rb, 3, none⟩ (u64 N.nt)).setCell ⟨rb, 4, none⟩ (u32 N.nq)) := ((((Mod.refl _ _).setC 1 _).setC 2 _).setC 3 _).setC 4 _
      have x12 := x11.mod hM12 (by omega)
      have o12 := o11.mod hM12 (by omega)
      have b12 := b11.mod hM12 (by omega)
      have hX12 : Ext w ((((w11.setCell ⟨rb, 1, none⟩ (u32 N.nn)).setCell ⟨rb, 2, none⟩ (u32 N.ns)).setCell ⟨rb, 3, none⟩ (u64 N.nt)).setCell ⟨rb, 4, none⟩ (u32 N.nq)) := (((hX10.trans hE11).mod (S := fun _ => False)).trans' hM12 (fun i e => .inr (by omega))).ext fun _ h => h.elim
      generalize ((((w11.setCell ⟨rb, 1, none⟩ (u32 N.nn)).setCell ⟨rb, 2, none⟩ (u32 N.ns)).setCell ⟨rb, 3, none⟩ (u64 N.nt)).setCell ⟨rb, 4, none⟩ (u32 N.nq)) = w12 at *
      have p2 := wrap64 (min (nAt t.l 2) 9) (by omega) (by omega)
      have p3 := wrap64 (min (nAt t.l 3) 9) (by omega) (by omega)
      refine WC_drawC 14 (.F 0 <| .F 1 <| .F 2 <| .F 3 <| .F 4 <| .F 5 <| .F 6 <| .F 7 <| .F 8 <| .F 9 <| .F 10 <| .C 11 <| .F 12 <| .C 13 <| .Z) (Xf fun k => k = rb) rfl (by kernel_rfl) fun U hU => ?_
      have hUE : Ext w12 U := hU ▸ Ext.drew _
      have bU := b12.ext hUE
      have rU := r12.ext hUE
      have xU := x12.ext hUE
      have oU := o12.ext hUE
      have X1 : Xf (fun k => k = rb) nb = false := Xf_f (by omega)
      simp [X1, e5, bU.cell 2 _ rfl, bU.cell 3 _ rfl, bU.cell 4 _ rfl, p2, p3, rU.thaw, rU.cell 5 _ rfl]
      refine KR_mk (Xf_agr ((Mod.refl _ _).setC 5 _)) ?_
      simp [rU.thaw, rU.cell 6 _ rfl, cell_setCell]
      refine KR_mk (Xf_agr ((Mod.refl _ _).setC 6 _)) ?_
      simp [rU.thaw, rU.cell 7 _ rfl, cell_setCell]
      have rS := ((rU.set 5 (i64 (min (nAt t.l 2) 9))).set 6 (i64 (min (nAt t.l 3) 9))).set 7 (u64 (nAt t.l 4))
      simp only [List.set_cons_zero, List.set_cons_succ] at rS
      have hMS : Mod (fun k => k = rb) U (((U.setCell ⟨rb, 5, none⟩ (i64 (min (nAt t.l 2) 9))).setCell ⟨rb, 6, none⟩ (i64 (min (nAt t.l 3) 9))).setCell ⟨rb, 7, none⟩ (u64 (nAt t.l 4))) := (((Mod.refl _ _).setC 5 _).setC 6 _).setC 7 _
      refine rofTail ht hO (rb := rb) (ok := ok) (r := { rec0 with kind := q0.n, nn := N.nn, ns := N.ns, nt := N.nt, nq := N.nq, what := min (nAt t.l 2) 9, why := min (nAt t.l 3) 9, at' := nAt t.l 4 }) ?_ ?_ ?_ ?_ rS (xU.mod hMS (by omega)) (oU.mod hMS (by omega)) (((hX12.trans hUE).mod (S := fun _ => False)).trans' hMS (fun i e => .inr (by omega)) |>.ext fun _ h => h.elim) (fun h => ?_) (fun h => ?_)
      · simp [e1]
      · simp [e2]
      · simp
      · simp
      · rcases hok with ⟨-, hs⟩ | ⟨h', -⟩
        · have hs' := hon.symm.trans hs
          obtain ⟨hno, hnt⟩ := nameOfD_ok hs' (hn1 q1 hm1) (hn3 q1 hm1)
          have a1 := hno.nn
          have a2 := hno.ns
          have a3 := hno.nq
          refine ⟨by constructor <;> simp [rec0] <;> omega, hofR _ ?_⟩
          unfold recOfD
          rw [if_pos kk, hq1]
          show (match nameOfD q1 with | some n => _ | none => none) = _
          rw [hs', kk]
        · rw [h'] at h; cases h
      · rcases hok with ⟨h', -⟩ | ⟨-, hs⟩
        · rw [h'] at h; cases h
        · refine hofN ?_
          unfold recOfD
          rw [if_pos kk, hq1]
          show (match nameOfD q1 with | some n => _ | none => none) = _
          rw [← hon, hs]
    · have hlen : t.l.length = 4 := by
        have := congrArg List.length hshp.2
        rw [List.length_map, kk] at this
        exact this
      have bK : Blk w10 nb [u64 (nAt t.l 0), u64 (nAt t.l 1), u64 (nAt t.l 2), u64 (nAt t.l 3), u64 0, u64 0] := by rw [hlen] at b10; exact b10
      have n0 := nOk 0
      have n1 := nOk 1
      have n2 := nOk 2
      have n3 := nOk 3
      have n4 := nOk 4
      have n5 := nOk 5
      have m2 : (nAt t.l 2).tmod 4294967296 = nAt t.l 2 % 4294967296 := Int.tmod_eq_emod_of_nonneg (nOk 2).1
      have q2 := wrap32u (nAt t.l 2 % 4294967296) (by omega) (by omega)
      have p2 := wrap64u (nAt t.l 2 % 4294967296) (by omega) (by omega)
      have m3 : (nAt t.l 3).tmod 4294967296 = nAt t.l 3 % 4294967296 := Int.tmod_eq_emod_of_nonneg (nOk 3).1
      have q3 := wrap32u (nAt t.l 3 % 4294967296) (by omega) (by omega)
      have p3 := wrap64u (nAt t.l 3 % 4294967296) (by omega) (by omega)
      simp [kk]
      refine WC_drawC 14 (.F 0 <| .F 1 <| .F 2 <| .F 3 <| .F 4 <| .F 5 <| .F 6 <| .F 7 <| .F 8 <| .F 9 <| .F 10 <| .C 11 <| .F 12 <| .C 13 <| .Z) (Xf fun k => k = rb) rfl (by kernel_rfl) fun U hU => ?_
      have hUE : Ext w10 U := hU ▸ Ext.drew _
      have bU := bK.ext hUE
      have rU := r10.ext hUE
      have xU := x10.ext hUE
      have oU := o10.ext hUE
      have X1 : Xf (fun k => k = rb) nb = false := Xf_f (by omega)
      simp [X1, e5, bU.cell 1 _ rfl, bU.cell 2 _ rfl, bU.cell 3 _ rfl, m2, q2, m3, q3, rU.thaw, rU.cell 8 _ rfl]
      refine KR_mk (Xf_agr ((Mod.refl _ _).setC 8 _)) ?_
      simp [rU.thaw, rU.cell 9 _ rfl, cell_setCell]
      refine KR_mk (Xf_agr ((Mod.refl _ _).setC 9 _)) ?_
      simp [rU.thaw, rU.cell 10 _ rfl, cell_setCell]
      have rS := (((rU.set 8 (u64 (nAt t.l 1))).set 9 (u32 (nAt t.l 2 % 4294967296))).set 10 (u32 (nAt t.l 3 % 4294967296)))
      simp only [List.set_cons_zero, List.set_cons_succ] at rS
      have hMS : Mod (fun k => k = rb) U (((U.setCell ⟨rb, 8, none⟩ (u64 (nAt t.l 1))).setCell ⟨rb, 9, none⟩ (u32 (nAt t.l 2 % 4294967296))).setCell ⟨rb, 10, none⟩ (u32 (nAt t.l 3 % 4294967296))) := ((((Mod.refl _ _).setC 8 _).setC 9 _).setC 10 _)
      have hrec : recOfD q0.n t.l = some { rec0 with kind := q0.n, num := nAt t.l 1, node := nAt t.l 2 % 4294967296, reg := nAt t.l 3 % 4294967296 } := by
        unfold recOfD
        rw [if_neg (by omega), if_pos kk, kk]
      refine rofTail ht hO (rb := rb) (ok := true) (r := { rec0 with kind := q0.n, num := nAt t.l 1, node := nAt t.l 2 % 4294967296, reg := nAt t.l 3 % 4294967296 }) ?_ ?_ ?_ ?_ rS (xU.mod hMS (by omega)) (oU.mod hMS (by omega)) (((hX10.trans hUE).mod (S := fun _ => False)).trans' hMS (fun i e => .inr (by omega)) |>.ext fun _ h => h.elim) (fun _ => ⟨?_, hofR _ hrec⟩) (fun h => by cases h)
      · simp [e1]
      · simp [e2]
      · simp
      · simp
      · constructor <;> simp [rec0] <;> omega
    · have hlen : t.l.length = 6 := by
        have := congrArg List.length hshp.2
        rw [List.length_map, kk] at this
        exact this
      have bK : Blk w10 nb [u64 (nAt t.l 0), u64 (nAt t.l 1), u64 (nAt t.l 2), u64 (nAt t.l 3), u64 (nAt t.l 4), u64 (nAt t.l 5)] := by rw [hlen] at b10; exact b10
      have n0 := nOk 0
      have n1 := nOk 1
      have n2 := nOk 2
      have n3 := nOk 3
      have n4 := nOk 4
      have n5 := nOk 5
      have m2 : (nAt t.l 2).tmod 4294967296 = nAt t.l 2 % 4294967296 := Int.tmod_eq_emod_of_nonneg (nOk 2).1
      have q2 := wrap32u (nAt t.l 2 % 4294967296) (by omega) (by omega)
      have p2 := wrap64u (nAt t.l 2 % 4294967296) (by omega) (by omega)
      have m3 : (nAt t.l 3).tmod 4294967296 = nAt t.l 3 % 4294967296 := Int.tmod_eq_emod_of_nonneg (nOk 3).1
      have q3 := wrap32u (nAt t.l 3 % 4294967296) (by omega) (by omega)
      have p3 := wrap64u (nAt t.l 3 % 4294967296) (by omega) (by omega)
      simp [kk]
      refine WC_drawC 23 (.F 0 <| .F 1 <| .F 2 <| .F 3 <| .F 4 <| .F 5 <| .F 6 <| .F 7 <| .F 8 <| .F 9 <| .F 10 <| .F 11 <| .F 12 <| .F 13 <| .F 14 <| .F 15 <| .C 16 <| .F 17 <| .C 18 <| .F 19 <| .C 20 <| .F 21 <| .C 22 <| .Z) (Xf fun k => k = rb) rfl (by kernel_rfl) fun U hU => ?_
      have hUE : Ext w10 U := hU ▸ Ext.drew _
      have bU := bK.ext hUE
      have rU := r10.ext hUE
      have xU := x10.ext hUE
      have oU := o10.ext hUE
      have X1 : Xf (fun k => k = rb) nb = false := Xf_f (by omega)
      simp [X1, e5, bU.cell 1 _ rfl, bU.cell 2 _ rfl, bU.cell 3 _ rfl, bU.cell 4 _ rfl, bU.cell 5 _ rfl, m2, q2, m3, q3, rU.thaw, rU.cell 8 _ rfl]
      refine KR_mk (Xf_agr ((Mod.refl _ _).setC 8 _)) ?_
      simp [rU.thaw, rU.cell 9 _ rfl, cell_setCell]
      refine KR_mk (Xf_agr ((Mod.refl _ _).setC 9 _)) ?_
      simp [rU.thaw, rU.cell 10 _ rfl, cell_setCell]
      refine KR_mk (Xf_agr ((Mod.refl _ _).setC 10 _)) ?_
      simp [rU.thaw, rU.cell 11 _ rfl, cell_setCell]
      refine KR_mk (Xf_agr ((Mod.refl _ _).setC 11 _)) ?_
      simp [rU.thaw, rU.cell 13 _ rfl, cell_setCell]
      have rS := (((((rU.set 8 (u64 (nAt t.l 1))).set 9 (u32 (nAt t.l 2 % 4294967296))).set 10 (u32 (nAt t.l 3 % 4294967296))).set 11 (.bool (decide (nAt t.l 4 = 1)))).set 13 (u64 (nAt t.l 5)))
      simp only [List.set_cons_zero, List.set_cons_succ] at rS
      have hMS : Mod (fun k => k = rb) U (((((U.setCell ⟨rb, 8, none⟩ (u64 (nAt t.l 1))).setCell ⟨rb, 9, none⟩ (u32 (nAt t.l 2 % 4294967296))).setCell ⟨rb, 10, none⟩ (u32 (nAt t.l 3 % 4294967296))).setCell ⟨rb, 11, none⟩ (.bool (decide (nAt t.l 4 = 1)))).setCell ⟨rb, 13, none⟩ (u64 (nAt t.l 5))) := ((((((Mod.refl _ _).setC 8 _).setC 9 _).setC 10 _).setC 11 _).setC 13 _)
      have hrec : recOfD q0.n t.l = some { rec0 with kind := q0.n, num := nAt t.l 1, node := nAt t.l 2 % 4294967296, reg := nAt t.l 3 % 4294967296, yes := decide (nAt t.l 4 = 1), til := nAt t.l 5 } := by
        unfold recOfD
        rw [if_neg (by omega), if_neg (by omega), if_pos kk, kk]
      refine rofTail ht hO (rb := rb) (ok := true) (r := { rec0 with kind := q0.n, num := nAt t.l 1, node := nAt t.l 2 % 4294967296, reg := nAt t.l 3 % 4294967296, yes := decide (nAt t.l 4 = 1), til := nAt t.l 5 }) ?_ ?_ ?_ ?_ rS (xU.mod hMS (by omega)) (oU.mod hMS (by omega)) (((hX10.trans hUE).mod (S := fun _ => False)).trans' hMS (fun i e => .inr (by omega)) |>.ext fun _ h => h.elim) (fun _ => ⟨?_, hofR _ hrec⟩) (fun h => by cases h)
      · simp [e1]
      · simp [e2]
      · simp
      · simp
      · constructor <;> simp [rec0] <;> omega
    · have hlen : t.l.length = 5 := by
        have := congrArg List.length hshp.2
        rw [List.length_map, kk] at this
        exact this
      have bK : Blk w10 nb [u64 (nAt t.l 0), u64 (nAt t.l 1), u64 (nAt t.l 2), u64 (nAt t.l 3), u64 (nAt t.l 4), u64 0] := by rw [hlen] at b10; exact b10
      have n0 := nOk 0
      have n1 := nOk 1
      have n2 := nOk 2
      have n3 := nOk 3
      have n4 := nOk 4
      have n5 := nOk 5
      have m1 : (nAt t.l 1).tmod 4294967296 = nAt t.l 1 % 4294967296 := Int.tmod_eq_emod_of_nonneg (nOk 1).1
      have q1 := wrap32u (nAt t.l 1 % 4294967296) (by omega) (by omega)
      have p1 := wrap64u (nAt t.l 1 % 4294967296) (by omega) (by omega)
      have m4 : (nAt t.l 4).tmod 256 = nAt t.l 4 % 256 := Int.tmod_eq_emod_of_nonneg (nOk 4).1
      have q4 := wrap8u (nAt t.l 4 % 256) (by omega) (by omega)
      have p4 := wrap64u (nAt t.l 4 % 256) (by omega) (by omega)
      simp [kk]
      refine WC_drawC 18 (.F 0 <| .F 1 <| .F 2 <| .F 3 <| .F 4 <| .F 5 <| .F 6 <| .F 7 <| .F 8 <| .F 9 <| .F 10 <| .F 11 <| .F 12 <| .C 13 <| .F 14 <| .C 15 <| .F 16 <| .C 17 <| .Z) (Xf fun k => k = rb) rfl (by kernel_rfl) fun U hU => ?_
      have hUE : Ext w10 U := hU ▸ Ext.drew _
      have bU := bK.ext hUE
      have rU := r10.ext hUE
      have xU := x10.ext hUE
      have oU := o10.ext hUE
      have X1 : Xf (fun k => k = rb) nb = false := Xf_f (by omega)
      simp [X1, e5, bU.cell 1 _ rfl, bU.cell 2 _ rfl, bU.cell 3 _ rfl, bU.cell 4 _ rfl, m1, q1, m4, q4, rU.thaw, rU.cell 9 _ rfl]
      refine KR_mk (Xf_agr ((Mod.refl _ _).setC 9 _)) ?_
      simp [rU.thaw, rU.cell 12 _ rfl, cell_setCell]
      refine KR_mk (Xf_agr ((Mod.refl _ _).setC 12 _)) ?_
      simp [rU.thaw, rU.cell 13 _ rfl, cell_setCell]
      refine KR_mk (Xf_agr ((Mod.refl _ _).setC 13 _)) ?_
      simp [rU.thaw, rU.cell 14 _ rfl, cell_setCell]
      have rS := ((((rU.set 9 (u32 (nAt t.l 1 % 4294967296))).set 12 (u64 (nAt t.l 2))).set 13 (u64 (nAt t.l 3))).set 14 (u8 (nAt t.l 4 % 256)))
      simp only [List.set_cons_zero, List.set_cons_succ] at rS
      have hMS : Mod (fun k => k = rb) U ((((U.setCell ⟨rb, 9, none⟩ (u32 (nAt t.l 1 % 4294967296))).setCell ⟨rb, 12, none⟩ (u64 (nAt t.l 2))).setCell ⟨rb, 13, none⟩ (u64 (nAt t.l 3))).setCell ⟨rb, 14, none⟩ (u8 (nAt t.l 4 % 256))) := (((((Mod.refl _ _).setC 9 _).setC 12 _).setC 13 _).setC 14 _)
      have hrec : recOfD q0.n t.l = some { rec0 with kind := q0.n, node := nAt t.l 1 % 4294967296, fro := nAt t.l 2, til := nAt t.l 3, lev := nAt t.l 4 % 256 } := by
        unfold recOfD
        rw [if_neg (by omega), if_neg (by omega), if_neg (by omega), if_pos kk, kk]
      refine rofTail ht hO (rb := rb) (ok := true) (r := { rec0 with kind := q0.n, node := nAt t.l 1 % 4294967296, fro := nAt t.l 2, til := nAt t.l 3, lev := nAt t.l 4 % 256 }) ?_ ?_ ?_ ?_ rS (xU.mod hMS (by omega)) (oU.mod hMS (by omega)) (((hX10.trans hUE).mod (S := fun _ => False)).trans' hMS (fun i e => .inr (by omega)) |>.ext fun _ h => h.elim) (fun _ => ⟨?_, hofR _ hrec⟩) (fun h => by cases h)
      · simp [e1]
      · simp [e2]
      · simp
      · simp
      · constructor <;> simp [rec0] <;> omega
    · have hlen : t.l.length = 5 := by
        have := congrArg List.length hshp.2
        rw [List.length_map, kk] at this
        exact this
      have bK : Blk w10 nb [u64 (nAt t.l 0), u64 (nAt t.l 1), u64 (nAt t.l 2), u64 (nAt t.l 3), u64 (nAt t.l 4), u64 0] := by rw [hlen] at b10; exact b10
      have n0 := nOk 0
      have n1 := nOk 1
      have n2 := nOk 2
      have n3 := nOk 3
      have n4 := nOk 4
      have n5 := nOk 5
      have m1 : (nAt t.l 1).tmod 4294967296 = nAt t.l 1 % 4294967296 := Int.tmod_eq_emod_of_nonneg (nOk 1).1
      have q1 := wrap32u (nAt t.l 1 % 4294967296) (by omega) (by omega)
      have p1 := wrap64u (nAt t.l 1 % 4294967296) (by omega) (by omega)
      have m2 : (nAt t.l 2).tmod 4294967296 = nAt t.l 2 % 4294967296 := Int.tmod_eq_emod_of_nonneg (nOk 2).1
      have q2 := wrap32u (nAt t.l 2 % 4294967296) (by omega) (by omega)
      have p2 := wrap64u (nAt t.l 2 % 4294967296) (by omega) (by omega)
      simp [kk]
      refine WC_drawC 19 (.F 0 <| .F 1 <| .F 2 <| .F 3 <| .F 4 <| .F 5 <| .F 6 <| .F 7 <| .F 8 <| .F 9 <| .F 10 <| .F 11 <| .F 12 <| .F 13 <| .C 14 <| .F 15 <| .C 16 <| .F 17 <| .C 18 <| .Z) (Xf fun k => k = rb) rfl (by kernel_rfl) fun U hU => ?_
      have hUE : Ext w10 U := hU ▸ Ext.drew _
      have bU := bK.ext hUE
      have rU := r10.ext hUE
      have xU := x10.ext hUE
      have oU := o10.ext hUE
      have X1 : Xf (fun k => k = rb) nb = false := Xf_f (by omega)
      simp [X1, e5, bU.cell 1 _ rfl, bU.cell 2 _ rfl, bU.cell 3 _ rfl, bU.cell 4 _ rfl, m1, q1, m2, q2, rU.thaw, rU.cell 9 _ rfl]
      refine KR_mk (Xf_agr ((Mod.refl _ _).setC 9 _)) ?_
      simp [rU.thaw, rU.cell 10 _ rfl, cell_setCell]
      refine KR_mk (Xf_agr ((Mod.refl _ _).setC 10 _)) ?_
      simp [rU.thaw, rU.cell 8 _ rfl, cell_setCell]
      refine KR_mk (Xf_agr ((Mod.refl _ _).setC 8 _)) ?_
      simp [rU.thaw, rU.cell 11 _ rfl, cell_setCell]
      have rS := ((((rU.set 9 (u32 (nAt t.l 1 % 4294967296))).set 10 (u32 (nAt t.l 2 % 4294967296))).set 8 (u64 (nAt t.l 3))).set 11 (.bool (decide (nAt t.l 4 = 1))))
      simp only [List.set_cons_zero, List.set_cons_succ] at rS
      have hMS : Mod (fun k => k = rb) U ((((U.setCell ⟨rb, 9, none⟩ (u32 (nAt t.l 1 % 4294967296))).setCell ⟨rb, 10, none⟩ (u32 (nAt t.l 2 % 4294967296))).setCell ⟨rb, 8, none⟩ (u64 (nAt t.l 3))).setCell ⟨rb, 11, none⟩ (.bool (decide (nAt t.l 4 = 1)))) := (((((Mod.refl _ _).setC 9 _).setC 10 _).setC 8 _).setC 11 _)
      have hrec : recOfD q0.n t.l = some { rec0 with kind := q0.n, node := nAt t.l 1 % 4294967296, reg := nAt t.l 2 % 4294967296, num := nAt t.l 3, yes := decide (nAt t.l 4 = 1) } := by
        unfold recOfD
        rw [if_neg (by omega), if_neg (by omega), if_neg (by omega), if_neg (by omega), kk]
      refine rofTail ht hO (rb := rb) (ok := true) (r := { rec0 with kind := q0.n, node := nAt t.l 1 % 4294967296, reg := nAt t.l 2 % 4294967296, num := nAt t.l 3, yes := decide (nAt t.l 4 = 1) }) ?_ ?_ ?_ ?_ rS (xU.mod hMS (by omega)) (oU.mod hMS (by omega)) (((hX10.trans hUE).mod (S := fun _ => False)).trans' hMS (fun i e => .inr (by omega)) |>.ext fun _ h => h.elim) (fun _ => ⟨?_, hofR _ hrec⟩) (fun h => by cases h)
      · simp [e1]
      · simp [e2]
      · simp
      · simp
      · constructor <;> simp [rec0] <;> omega
end Go.Proofs
