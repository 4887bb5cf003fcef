/-
  Contracts of the functions that the law reaches, step by step.
-/
import Derived.Test.YtjagbfaklckagaaGreatAmD
namespace Go.Proofs
open Pk
set_option maxRecDepth 10000
theorem fRec : flatA Tryz.prog 38 = some [.int .i64, .int .u32, .int .u32, .int .u64, .int .u32, .int .i64, .int .i64, .int .u64, .int .u64, .int .u32, .int .u32, .bool, .int .u64, .int .u64, .int .u8] := by kernel_rfl
theorem rec_eq (a b : Rec) : eqcs (recC a) (recC b) = decide (a = b) := by
  obtain ⟨a1, a2, a3, a4, a5, a6, a7, a8, a9, a10, a11, a12, a13, a14, a15⟩ := a
  obtain ⟨b1, b2, b3, b4, b5, b6, b7, b8, b9, b10, b11, b12, b13, b14, b15⟩ := b
  rw [Bool.eq_iff_iff]
  simp [eqcs, eqc]
theorem eqRec (a b : Rec) (w : World) : (binOp .eql 38 (recV a) (recV b)).run Tryz.prog w = .ok (.bool (decide (a = b))) w := by
  rw [← rec_eq]
  exact run_eql_flat w fRec _ _ rfl rfl
theorem neqRec (a b : Rec) (w : World) : (binOp .neq 38 (recV a) (recV b)).run Tryz.prog w = .ok (.bool !(decide (a = b))) w := by
  rw [← rec_eq]
  exact run_neq_flat w fRec _ _ rfl rfl
set_option maxHeartbeats 2000000 in
theorem bare_t {fl fr ff n : Nat} {s : ByteArray} {r r1 : Rec} {cs : List Value} (hk : mget kdL r.kind = some [.string s, fnV fl, fnV fr, fnV ff]) (hk0 : 0 ≤ r.kind ∧ r.kind ≤ 5) (hl : Lays fl r n cs) (h1 : ∀ u ∈ cs, u.oneCell' = true) (hn : n ≤ 1000)
    (hread : Reads fr n cs { rec0 with kind := r.kind } r1) (hfine : Fines ff r1 true) (w : World) :
    FN Tryz.prog 90 [agE [.string s, fnV fl, fnV fr, fnV ff], recV r] w fun e w' => e = .returned (.bool (decide (r1 = r))) ∧ Ext w w' := by
  refine FN_enter Tryz.func90 rfl rfl (by kernel_rfl) ?_
  simp
  have hE1 : Ext w ((((w.alloc (.cells #[.string s, fnV fl, fnV fr, fnV ff] 150)).alloc (.cells #[i64 r.kind, u32 r.nn, u32 r.ns, u64 r.nt, u32 r.nq, i64 r.what, i64 r.why, u64 r.at', u64 r.num, u32 r.node, u32 r.reg, .bool r.yes, u64 r.fro, u64 r.til, u8 r.lev] 38)).alloc (.cells #[.bool false] 4)).alloc (.cells #[i64 0] 24)) := ((((Ext.refl w).alloc _).alloc _).alloc _).alloc _
  have o2 : Blk ((((w.alloc (.cells #[.string s, fnV fl, fnV fr, fnV ff] 150)).alloc (.cells #[i64 r.kind, u32 r.nn, u32 r.ns, u64 r.nt, u32 r.nq, i64 r.what, i64 r.why, u64 r.at', u64 r.num, u32 r.node, u32 r.reg, .bool r.yes, u64 r.fro, u64 r.til, u8 r.lev] 38)).alloc (.cells #[.bool false] 4)).alloc (.cells #[i64 0] 24)) w.heap.size [.string s, fnV fl, fnV fr, fnV ff] := (Blk.new w _ _).ext ((((Ext.refl _).alloc _).alloc _).alloc _)
  have o3 : Blk ((((w.alloc (.cells #[.string s, fnV fl, fnV fr, fnV ff] 150)).alloc (.cells #[i64 r.kind, u32 r.nn, u32 r.ns, u64 r.nt, u32 r.nq, i64 r.what, i64 r.why, u64 r.at', u64 r.num, u32 r.node, u32 r.reg, .bool r.yes, u64 r.fro, u64 r.til, u8 r.lev] 38)).alloc (.cells #[.bool false] 4)).alloc (.cells #[i64 0] 24)) (w.heap.size + 1) (recC r) := by
    have := (Blk.new (w.alloc (.cells #[.string s, fnV fl, fnV fr, fnV ff] 150)) (recC r) 38).ext (((Ext.refl _).alloc (.cells #[.bool false] 4)).alloc (.cells #[i64 0] 24))
    simpa using this
  have o4 : Blk ((((w.alloc (.cells #[.string s, fnV fl, fnV fr, fnV ff] 150)).alloc (.cells #[i64 r.kind, u32 r.nn, u32 r.ns, u64 r.nt, u32 r.nq, i64 r.what, i64 r.why, u64 r.at', u64 r.num, u32 r.node, u32 r.reg, .bool r.yes, u64 r.fro, u64 r.til, u8 r.lev] 38)).alloc (.cells #[.bool false] 4)).alloc (.cells #[i64 0] 24)) (w.heap.size + 1 + 1) [.bool false] := by
    have := (Blk.new ((w.alloc (.cells #[.string s, fnV fl, fnV fr, fnV ff] 150)).alloc (.cells #[i64 r.kind, u32 r.nn, u32 r.ns, u64 r.nt, u32 r.nq, i64 r.what, i64 r.why, u64 r.at', u64 r.num, u32 r.node, u32 r.reg, .bool r.yes, u64 r.fro, u64 r.til, u8 r.lev] 38)) [.bool false] 4).ext ((Ext.refl _).alloc (.cells #[i64 0] 24))
    simpa using this
  have z1 : ((((w.alloc (.cells #[.string s, fnV fl, fnV fr, fnV ff] 150)).alloc (.cells #[i64 r.kind, u32 r.nn, u32 r.ns, u64 r.nt, u32 r.nq, i64 r.what, i64 r.why, u64 r.at', u64 r.num, u32 r.node, u32 r.reg, .bool r.yes, u64 r.fro, u64 r.til, u8 r.lev] 38)).alloc (.cells #[.bool false] 4)).alloc (.cells #[i64 0] 24)).heap.size = w.heap.size + 1 + 1 + 1 + 1 := by simp
  generalize ((((w.alloc (.cells #[.string s, fnV fl, fnV fr, fnV ff] 150)).alloc (.cells #[i64 r.kind, u32 r.nn, u32 r.ns, u64 r.nt, u32 r.nq, i64 r.what, i64 r.why, u64 r.at', u64 r.num, u32 r.node, u32 r.reg, .bool r.yes, u64 r.fro, u64 r.til, u8 r.lev] 38)).alloc (.cells #[.bool false] 4)).alloc (.cells #[i64 0] 24)) = w1 at *
  refine WC_drawC 5 (.F 0 <| .F 1 <| .F 4 <| .C 2 <| .C 3 <| .Z) (fun _ => false) rfl (by kernel_rfl) fun W hW => ?_
  have hWE : Ext w1 W := hW ▸ Ext.drew w1
  have p2 := o2.ext hWE
  have p3 := o3.ext hWE
  simp [p2.cell 0 _ rfl, p2.cell 1 _ rfl, p2.cell 2 _ rfl, p2.cell 3 _ rfl, p3.cell 0 _ rfl, p3.cell 1 _ rfl, p3.cell 2 _ rfl, p3.cell 3 _ rfl, p3.cell 4 _ rfl, p3.cell 5 _ rfl, p3.cell 6 _ rfl, p3.cell 7 _ rfl, p3.cell 8 _ rfl, p3.cell 9 _ rfl, p3.cell 10 _ rfl, p3.cell 11 _ rfl, p3.cell 12 _ rfl, p3.cell 13 _ rfl, p3.cell 14 _ rfl]
  refine FN.mono (laid_c hl h1 hn ⟨hk0.1, by omega⟩ W) ?_
  rintro _ w2 ⟨v, rfl, hv, hE2, -⟩
  simp
  refine KR_ext hE2 ?_
  simp
  refine FN.mono (read_t hv hk hk0 hread hfine) ?_
  rintro _ w3 ⟨rfl, hE3⟩
  simp
  refine KR_ext hE3 ?_
  have p4 := o4.ext (hWE.trans (hE2.trans hE3))
  have hq := eqRec r1 r w3
  simp [hq, p4.cell 0 _ rfl, p4.thaw]
  have hM : Mod (fun k => k = w.heap.size + 1 + 1) w3 (w3.setCell ⟨w.heap.size + 1 + 1, 0, none⟩ (.bool (decide (r1 = r)))) := (Mod.refl _ _).setC _ _
  have q4 := p4.set 0 (.bool (decide (r1 = r)))
  generalize (w3.setCell ⟨w.heap.size + 1 + 1, 0, none⟩ (.bool (decide (r1 = r)))) = w4 at *
  simp only [List.set_cons_zero] at q4
  refine LV_caught ?_
  simp [q4.cell 0 _ rfl]
  exact (((hE1.trans (hWE.trans (hE2.trans hE3))).mod (S := fun k => w.heap.size ≤ k)).trans (hM.weaken fun k hk => by omega)).ext fun _ h => h
/-- May a record be, as its kind has it? -/
def chk (r : Rec) (fb bb : Bool) : Int := if fb then (if 4294967295 < r.num then 2 else if timesOk [r.at', r.fro, r.til] then (if bb then 0 else 2) else 2) else 2
set_option maxHeartbeats 2000000 in
theorem check_t {fl fr ff : Nat} {s : ByteArray} {r : Rec} {fb bb : Bool} (hk : mget kdL r.kind = some [.string s, fnV fl, fnV fr, fnV ff]) (hfine : Fines ff r fb)
    (hbare : fb = true → ¬ 4294967295 < r.num → timesOk [r.at', r.fro, r.til] = true → ∀ w, FN Tryz.prog 90 [agE [.string s, fnV fl, fnV fr, fnV ff], recV r] w fun e w' => e = .returned (.bool bb) ∧ Ext w w') (w : World) :
    FN Tryz.prog 66 [recV r] w fun e w' => e = .returned (i64 (chk r fb bb)) ∧ Ext w w' := by
  refine FN_enter Tryz.func66 rfl rfl (by kernel_rfl) ?_
  simp
  have hE1 : Ext w (w.alloc (.cells #[i64 r.kind, u32 r.nn, u32 r.ns, u64 r.nt, u32 r.nq, i64 r.what, i64 r.why, u64 r.at', u64 r.num, u32 r.node, u32 r.reg, .bool r.yes, u64 r.fro, u64 r.til, u8 r.lev] 38)) := (Ext.refl w).alloc _
  have o1 : Blk (w.alloc (.cells #[i64 r.kind, u32 r.nn, u32 r.ns, u64 r.nt, u32 r.nq, i64 r.what, i64 r.why, u64 r.at', u64 r.num, u32 r.node, u32 r.reg, .bool r.yes, u64 r.fro, u64 r.til, u8 r.lev] 38)) w.heap.size (recC r) := Blk.new w (recC r) 38
  generalize (w.alloc (.cells #[i64 r.kind, u32 r.nn, u32 r.ns, u64 r.nt, u32 r.nq, i64 r.what, i64 r.why, u64 r.at', u64 r.num, u32 r.node, u32 r.reg, .bool r.yes, u64 r.fro, u64 r.til, u8 r.lev] 38)) = w1 at *
  refine WC_drawL 9 (.F 1 <| .F 2 <| .D 7 <| .L 0 <| .L 3 <| .F 4 <| .F 5 <| .F 6 <| .W 7 <| .S 8 <| .Z) (fun _ => false) (fun _ => false) (fun _ u W => ∃ j, u = ptr j ∧ w1.heap.size ≤ j ∧ Blk W j [.string ⟨#[]⟩, .nilFunc, .nilFunc, .nilFunc]) rfl (by kernel_rfl) (fun _ h => h)
    (fun _ _ _ _ ⟨j, h1, h2, h3⟩ hA => ⟨j, h1, h2, h3.ext (agr_ext hA)⟩) fun W hW => ?_
  have hWE : Ext w1 W := hW ▸ Ext.drew w1
  have r2 := o1.ext hWE
  simp [r2.cell 0 _ rfl]
  refine RL_float (fun W' h' => ?_) ?_
  · simp
    have hs := (hWE.trans (agr_ext h')).size
    exact ⟨(Ext.refl _).alloc _, hs, Blk.new W' [.string ⟨#[]⟩, .nilFunc, .nilFunc, .nilFunc] 150⟩
  simp
  refine RL_loose fun W3 h3 => ?_
  simp
  refine FN.mono (kinds_c W3) ?_
  rintro _ W4 ⟨mr, rfl, hm, hE4⟩
  simp
  refine KR_ext hE4 ?_
  simp
  refine RL_loose fun W5 h5 => ?_
  simp [kd_look hm hk W5 h5]
  refine KR_same ?_
  simp
  refine RL_wait fun v6 W6 h6 ⟨j, hj, hjs, hjb⟩ => ?_
  subst hj
  simp [hjb.cell 0 _ rfl, hjb.cell 1 _ rfl, hjb.cell 2 _ rfl, hjb.cell 3 _ rfl, hjb.thaw, cell_setCell]
  have hM7 : Mod (fun i => i = j) W6 ((((W6.setCell ⟨j, 0, none⟩ (.string s)).setCell ⟨j, 1, none⟩ (fnV fl)).setCell ⟨j, 2, none⟩ (fnV fr)).setCell ⟨j, 3, none⟩ (fnV ff)) := ((((Mod.refl _ W6).setC 0 _).setC 1 _).setC 2 _).setC 3 _
  have j7 := (((hjb.set 0 (.string s)).set 1 (fnV fl)).set 2 (fnV fr)).set 3 (fnV ff)
  simp only [List.set_cons_zero, List.set_cons_succ] at j7
  refine KR_mk (agr_any (hM7.weaken fun _ _ => trivial)) ?_
  have hE56 := hWE.trans (h3.trans (hE4.trans (h5.trans h6)))
  have hsz6 := hE56.size
  have hsz1 := hE1.size
  have hlt1 := o1.lt
  have r3 := (o1.ext hE56).mod hM7 (by omega)
  have hEw7 : Ext w ((((W6.setCell ⟨j, 0, none⟩ (.string s)).setCell ⟨j, 1, none⟩ (fnV fl)).setCell ⟨j, 2, none⟩ (fnV fr)).setCell ⟨j, 3, none⟩ (fnV ff)) := (((hE1.trans hE56).mod (S := fun j => w.heap.size ≤ j)).trans (hM7.weaken fun i hi => by omega)).ext fun _ h => h
  generalize ((((W6.setCell ⟨j, 0, none⟩ (.string s)).setCell ⟨j, 1, none⟩ (fnV fl)).setCell ⟨j, 2, none⟩ (fnV fr)).setCell ⟨j, 3, none⟩ (fnV ff)) = w7 at *
  simp [j7.cell 3 _ rfl, r3.cell 0 _ rfl, r3.cell 1 _ rfl, r3.cell 2 _ rfl, r3.cell 3 _ rfl, r3.cell 4 _ rfl, r3.cell 5 _ rfl, r3.cell 6 _ rfl, r3.cell 7 _ rfl, r3.cell 8 _ rfl, r3.cell 9 _ rfl, r3.cell 10 _ rfl, r3.cell 11 _ rfl, r3.cell 12 _ rfl, r3.cell 13 _ rfl, r3.cell 14 _ rfl]
  refine FN.mono (hfine w7) ?_
  rintro _ w8 ⟨rfl, hE8⟩
  have r8 := r3.ext hE8
  have j8 := j7.ext hE8
  cases fb with
  | false =>
    simp [chk]
    exact hEw7.trans hE8
  | true =>
    by_cases hnum : 4294967295 < r.num
    · simp [chk, hnum, r8.cell 8 _ rfl]
      exact hEw7.trans hE8
    · simp [hnum, r8.cell 8 _ rfl, r8.cell 7 _ rfl, r8.cell 12 _ rfl, r8.cell 13 _ rfl]
      have hsl := Sl.made w8 [u64 r.at', u64 r.fro, u64 r.til] 27 1 3 rfl
      have hE9 := (Ext.refl w8).alloc (.cells #[u64 r.at', u64 r.fro, u64 r.til] 27)
      refine FN.mono (ccheck_c (l := [r.at', r.fro, r.til]) hsl (by simp)) ?_
      rintro _ w9 ⟨rfl, hE10⟩
      have hE910 := hE9.trans hE10
      have r9 := r8.ext hE910
      have j9 := j8.ext hE910
      cases ht : timesOk [r.at', r.fro, r.til] with
      | false =>
        simp [chk, hnum, ht]
        exact (hEw7.trans hE8).trans hE910
      | true =>
        simp [j9.cell 0 _ rfl, j9.cell 1 _ rfl, j9.cell 2 _ rfl, j9.cell 3 _ rfl, r9.cell 0 _ rfl, r9.cell 1 _ rfl, r9.cell 2 _ rfl, r9.cell 3 _ rfl, r9.cell 4 _ rfl, r9.cell 5 _ rfl, r9.cell 6 _ rfl, r9.cell 7 _ rfl, r9.cell 8 _ rfl, r9.cell 9 _ rfl, r9.cell 10 _ rfl, r9.cell 11 _ rfl, r9.cell 12 _ rfl, r9.cell 13 _ rfl, r9.cell 14 _ rfl]
        refine FN.mono (hbare rfl hnum ht w9) ?_
        rintro _ w11 ⟨rfl, hE11⟩
        cases bb with
        | true =>
          simp [chk, hnum, ht]
          exact ((hEw7.trans hE8).trans hE910).trans hE11
        | false =>
          simp [chk, hnum, ht]
          exact ((hEw7.trans hE8).trans hE910).trans hE11
end Go.Proofs
