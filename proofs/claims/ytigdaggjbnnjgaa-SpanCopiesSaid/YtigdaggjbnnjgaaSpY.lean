/-
  Contracts of the functions that the law reaches, step by step.
-/
import Derived.Test.YtigdaggjbnnjgaaSpV
namespace Go.Proofs
open Pk
set_option maxRecDepth 10000
structure Ac where
  what : Int
  s : St
  sp : Sp2
def acC (q : Ac) : List Value := [i64 q.what, u32 q.s.f, u32 q.s.t, u64 q.s.a, u64 q.s.k, u64 q.sp.from', u64 q.sp.til]
abbrev acV (q : Ac) : Value := .agg #[i64 q.what, u32 q.s.f, u32 q.s.t, u64 q.s.a, u64 q.s.k, u64 q.sp.from', u64 q.sp.til]
structure AcOk (q : Ac) : Prop where
  s : StOk q.s
  p : 0 ≤ q.sp.from'
def actL (l : List St) (q : Ac) : List St := if q.what = 0 ∨ q.what = 1 ∨ q.what = 2 ∨ q.what = 3 then rsetL l q.s else if q.what = 4 then rdropL l q.s.f q.s.t q.s.a else l
/-- The table and the document's row, side by side. -/
structure Both (w : World) (t R : Nat) (M : ME) (v : Value) (l : List St) : Prop where
  tab : TabAt w t R M
  row : TRw w v l
  rel : RelT M l
  off : l ≠ [] → ¬ Foot t R M (slB v)
theorem rsetL_len (l : List St) (s : St) : (rsetL l s).length ≤ l.length + 1 := by
  unfold rsetL
  split
  · omega
  · split
    · simp
    · split
      · omega
      · simp
theorem rdropL_len (l : List St) (f g a : Int) : (rdropL l f g a).length ≤ l.length + 1 := by
  unfold rdropL
  split
  · simp; omega
  · omega
theorem flat_ne {l : List St} (h : l.flatMap stCells ≠ []) : l ≠ [] := fun e => h (by rw [e]; rfl)
theorem Both.done {w w1 w3 w4 W : World} {t R b : Nat} {M M' : ME} {v v' : Value} {l l' : List St} (hT : TabAt w t R M) (hrow : TRw w v l) (hoff : l ≠ [] → ¬ Foot t R M (slB v)) (hE1 : Ext w w1) (hE3 : Ext w1 w3) (hr : TRw w3 v' l') (hf : l' ≠ [] → v' = v ∨ w1.heap.size ≤ slB v')
    (hT4 : TabAt w4 t R M') (hM4 : Mod (Foot t R M) w3 w4) (hF4 : ∀ k, Foot t R M' k → Foot t R M k ∨ w3.heap.size ≤ k) (hR' : RelT M' l') (hW : Mod (fun k => k = b) w4 W) (hb : w.heap.size ≤ b ∧ b < w1.heap.size) :
    Both W t R M' v' l' ∧ Mod (Foot t R M) w W ∧ ∀ k, Foot t R M' k → Foot t R M k ∨ w.heap.size ≤ k := by
  have s1 := hE1.size
  have s3 := hE3.size
  have hoffv : l' ≠ [] → ¬ Foot t R M' (slB v') ∧ ¬ Foot t R M (slB v') ∧ slB v' ≠ b := fun hne => by
    have hlt2 := Sl.lt hr (by rw [flat_len stCells (fun _ => rfl) (s := 4)]; have := List.length_pos_iff.2 hne; omega)
    rcases hf hne with h1 | h1
    · obtain ⟨a1, c1, e1⟩ := hr.isSlice
      obtain ⟨a2, c2, e2⟩ := hrow.isSlice
      have hln : l'.length = l.length := by
        rw [e1, e2] at h1
        simp only [Value.slice.injEq] at h1
        exact h1.2.1
      have hne' : l ≠ [] := fun e => by rw [e] at hln; exact hne (List.eq_nil_of_length_eq_zero hln)
      rw [h1]
      have h3 := hoff hne'
      have h2 := Sl.lt hrow (by rw [flat_len stCells (fun _ => rfl) (s := 4)]; have := List.length_pos_iff.2 hne'; omega)
      refine ⟨fun hf => ?_, h3, by omega⟩
      rcases hF4 _ hf with h4 | h4
      · exact h3 h4
      · omega
    · refine ⟨fun hf => ?_, fun hf => ?_, by omega⟩
      · rcases hF4 _ hf with h4 | h4
        · have := hT.lt _ h4; omega
        · omega
      · have := hT.lt _ hf; omega
  refine ⟨⟨?_, ?_, hR', fun hne => (hoffv hne).1⟩, ?_, fun k hk => ?_⟩
  · refine hT4.mod hW fun k hf hk => ?_
    subst hk
    rcases hF4 _ hf with h4 | h4
    · have := hT.lt _ h4; omega
    · omega
  · exact sl_mod (sl_mod hr hM4 fun hne => (hoffv (flat_ne hne)).2.1) hW fun hne => (hoffv (flat_ne hne)).2.2
  · exact ((hE1.trans hE3).mod.trans hM4).trans' hW fun i hi => .inr (by omega)
  · rcases hF4 k hk with h | h
    · exact .inl h
    · exact .inr (by omega)
set_option maxHeartbeats 4000000 in
theorem act_c {w : World} {t R : Nat} {M : ME} {v : Value} {l : List St} (h : Both w t R M v l) (q : Ac) (hq : AcOk q) (hb : l.length ≤ 200) :
    FN Try.prog 15 [ptr t, .agg #[v], acV q] w fun e w' => ∃ M' v', e = .returned (.tuple #[.agg #[v'], .bool true]) ∧ Both w' t R M' v' (actL l q) ∧ Mod (Foot t R M) w w' ∧ (∀ k, Foot t R M' k → Foot t R M k ∨ w.heap.size ≤ k) ∧ (actL l q ≠ [] → v' = v ∨ w.heap.size ≤ slB v') := by
  refine FN_enter Try.func15 rfl rfl (by kernel_rfl) ?_
  obtain ⟨hT, hrow, hR, hoff⟩ := h
  obtain ⟨va, vc, hv⟩ := hrow.isSlice
  subst hv
  simp
  have hE1 : Ext w ((((w.alloc (.cells #[.slice va l.length vc] 51)).alloc (.cells #[i64 q.what, u32 q.s.f, u32 q.s.t, u64 q.s.a, u64 q.s.k, u64 q.sp.from', u64 q.sp.til] 48)).alloc (.cells #[.slice none 0 0] 51)).alloc (.cells #[u32 q.s.f, u32 q.s.t, u64 q.s.a, u64 q.s.k] 35)) := ((((Ext.refl w).alloc _).alloc _).alloc _).alloc _
  have o4 : Blk ((((w.alloc (.cells #[.slice va l.length vc] 51)).alloc (.cells #[i64 q.what, u32 q.s.f, u32 q.s.t, u64 q.s.a, u64 q.s.k, u64 q.sp.from', u64 q.sp.til] 48)).alloc (.cells #[.slice none 0 0] 51)).alloc (.cells #[u32 q.s.f, u32 q.s.t, u64 q.s.a, u64 q.s.k] 35)) w.heap.size [.slice va l.length vc] := (Blk.new w _ _).ext ((((Ext.refl _).alloc _).alloc _).alloc _)
  have o5 : Blk ((((w.alloc (.cells #[.slice va l.length vc] 51)).alloc (.cells #[i64 q.what, u32 q.s.f, u32 q.s.t, u64 q.s.a, u64 q.s.k, u64 q.sp.from', u64 q.sp.til] 48)).alloc (.cells #[.slice none 0 0] 51)).alloc (.cells #[u32 q.s.f, u32 q.s.t, u64 q.s.a, u64 q.s.k] 35)) (w.heap.size + 1) (acC q) := by
    have := (Blk.new (w.alloc (.cells #[.slice va l.length vc] 51)) (acC q) 48).ext (((Ext.refl _).alloc (.cells #[.slice none 0 0] 51)).alloc (.cells #[u32 q.s.f, u32 q.s.t, u64 q.s.a, u64 q.s.k] 35))
    simpa [acC] using this
  have o6 : Blk ((((w.alloc (.cells #[.slice va l.length vc] 51)).alloc (.cells #[i64 q.what, u32 q.s.f, u32 q.s.t, u64 q.s.a, u64 q.s.k, u64 q.sp.from', u64 q.sp.til] 48)).alloc (.cells #[.slice none 0 0] 51)).alloc (.cells #[u32 q.s.f, u32 q.s.t, u64 q.s.a, u64 q.s.k] 35)) (w.heap.size + 1 + 1) [.slice none 0 0] := by
    have := (Blk.new ((w.alloc (.cells #[.slice va l.length vc] 51)).alloc (.cells #[i64 q.what, u32 q.s.f, u32 q.s.t, u64 q.s.a, u64 q.s.k, u64 q.sp.from', u64 q.sp.til] 48)) [.slice none 0 0] 51).ext ((Ext.refl _).alloc (.cells #[u32 q.s.f, u32 q.s.t, u64 q.s.a, u64 q.s.k] 35))
    simpa using this
  have o8 : Blk ((((w.alloc (.cells #[.slice va l.length vc] 51)).alloc (.cells #[i64 q.what, u32 q.s.f, u32 q.s.t, u64 q.s.a, u64 q.s.k, u64 q.sp.from', u64 q.sp.til] 48)).alloc (.cells #[.slice none 0 0] 51)).alloc (.cells #[u32 q.s.f, u32 q.s.t, u64 q.s.a, u64 q.s.k] 35)) (w.heap.size + 1 + 1 + 1) [u32 q.s.f, u32 q.s.t, u64 q.s.a, u64 q.s.k] := by
    have := Blk.new (((w.alloc (.cells #[.slice va l.length vc] 51)).alloc (.cells #[i64 q.what, u32 q.s.f, u32 q.s.t, u64 q.s.a, u64 q.s.k, u64 q.sp.from', u64 q.sp.til] 48)).alloc (.cells #[.slice none 0 0] 51)) [u32 q.s.f, u32 q.s.t, u64 q.s.a, u64 q.s.k] 35
    simpa using this
  have z1 : ((((w.alloc (.cells #[.slice va l.length vc] 51)).alloc (.cells #[i64 q.what, u32 q.s.f, u32 q.s.t, u64 q.s.a, u64 q.s.k, u64 q.sp.from', u64 q.sp.til] 48)).alloc (.cells #[.slice none 0 0] 51)).alloc (.cells #[u32 q.s.f, u32 q.s.t, u64 q.s.a, u64 q.s.k] 35)).heap.size = w.heap.size + 1 + 1 + 1 + 1 := by simp
  generalize ((((w.alloc (.cells #[.slice va l.length vc] 51)).alloc (.cells #[i64 q.what, u32 q.s.f, u32 q.s.t, u64 q.s.a, u64 q.s.k, u64 q.sp.from', u64 q.sp.til] 48)).alloc (.cells #[.slice none 0 0] 51)).alloc (.cells #[u32 q.s.f, u32 q.s.t, u64 q.s.a, u64 q.s.k] 35)) = w1 at *
  have nF : ∀ k, w.heap.size ≤ k → ¬ Foot t R M k := fun k hk hf => by have := hT.lt k hf; omega
  refine with_tail (T := ∀ (σ : Env), (σ 0 = ptr t ∧ σ 6 = ptr (w.heap.size + 1 + 1) ∧ σ 8 = ptr (w.heap.size + 1 + 1 + 1)) → actL l q = rsetL l q.s → FNt Try.prog 37 [.agg #[.slice va l.length vc], stV q.s] w1 (RC ?d ?K ?Q σ []) Tok.mk) (fun tail => ?br) ?jn
  case br =>
    by_cases b0 : q.what = 0
    · simp [b0, o4.cell 0 _ rfl, o8.cell 0 _ rfl, o8.cell 1 _ rfl, o8.cell 2 _ rfl, o8.cell 3 _ rfl]
      refine tail _ ?_ (by simp [actL, b0])
      simp
    by_cases b1 : q.what = 1
    · simp [beq_dec, b1, o4.cell 0 _ rfl, o8.cell 0 _ rfl, o8.cell 1 _ rfl, o8.cell 2 _ rfl, o8.cell 3 _ rfl]
      refine tail _ ?_ (by simp [actL, b1])
      simp
    by_cases b2 : q.what = 2
    · simp [beq_dec, b2, o4.cell 0 _ rfl, o8.cell 0 _ rfl, o8.cell 1 _ rfl, o8.cell 2 _ rfl, o8.cell 3 _ rfl]
      refine tail _ ?_ (by simp [actL, b2])
      simp
    by_cases b3 : q.what = 3
    · simp [beq_dec, b3, o4.cell 0 _ rfl, o8.cell 0 _ rfl, o8.cell 1 _ rfl, o8.cell 2 _ rfl, o8.cell 3 _ rfl]
      refine tail _ ?_ (by simp [actL, b3])
      simp
    by_cases b4 : q.what = 4
    · have hL : actL l q = rdropL l q.s.f q.s.t q.s.a := by simp [actL, b4]
      rw [hL]
      simp [beq_dec, b4, o4.cell 0 _ rfl, o8.cell 0 _ rfl, o8.cell 1 _ rfl, o8.cell 2 _ rfl]
      refine FN.mono (rdrop_c (hrow.ext hE1) q.s.f q.s.t q.s.a (by omega)) ?_
      rintro _ w2 ⟨v2, rfl, hE2, hr2, hf2⟩
      obtain ⟨a2, c2, hv2⟩ := hr2.isSlice
      obtain ⟨D, hD⟩ : ∃ D, D = rdropS l q.s.f q.s.t q.s.a := ⟨_, rfl⟩
      obtain ⟨L, hLL⟩ : ∃ L, L = rdropL l q.s.f q.s.t q.s.a := ⟨_, rfl⟩
      obtain ⟨E, hEE⟩ : ∃ E, E = rdropE l q.s.f q.s.t q.s.a := ⟨_, rfl⟩
      rw [← hD, ← hEE]
      rw [← hLL] at hr2 hf2 hv2
      subst hv2
      have z2 := hE2.size
      have y3 : Blk ((w2.alloc (.cells #[.slice a2 L.length c2] 51)).alloc (.cells #[u32 D.f, u32 D.t, u64 D.a, u64 D.k] 35)) w2.heap.size [.slice a2 L.length c2] := (Blk.new w2 _ _).ext ((Ext.refl _).alloc _)
      have x3 : Blk ((w2.alloc (.cells #[.slice a2 L.length c2] 51)).alloc (.cells #[u32 D.f, u32 D.t, u64 D.a, u64 D.k] 35)) (w2.heap.size + 1) [u32 D.f, u32 D.t, u64 D.a, u64 D.k] := by
        have := Blk.new (w2.alloc (.cells #[.slice a2 L.length c2] 51)) [u32 D.f, u32 D.t, u64 D.a, u64 D.k] 35
        simpa using this
      have hE3 : Ext w2 ((w2.alloc (.cells #[.slice a2 L.length c2] 51)).alloc (.cells #[u32 D.f, u32 D.t, u64 D.a, u64 D.k] 35)) := ((Ext.refl _).alloc _).alloc _
      have p8 := o8.ext hE2
      simp [p8.cell 0 _ rfl, p8.cell 1 _ rfl, p8.cell 2 _ rfl]
      generalize ((w2.alloc (.cells #[.slice a2 L.length c2] 51)).alloc (.cells #[u32 D.f, u32 D.t, u64 D.a, u64 D.k] 35)) = w3 at *
      have hE13 := hE1.trans (hE2.trans hE3)
      have hR2 := hR
      refine FN.mono (drop_c (hT.ext hE13) (by rw [hR.cnt]; omega) q.s.f q.s.t q.s.a) ?_
      rintro _ w4 ⟨rfl, M4, hT4, hM4, hF4, hs4, ht4⟩
      have hdS := hR.dropS q.s.f q.s.t q.s.a
      rw [← hD] at hdS
      have hdE := hR.dropE q.s.f q.s.t q.s.a
      rw [← hEE] at hdE
      have hR4 := hR.drop hs4 ht4
      rw [← hLL] at hR4
      rw [hdS, hdE]
      have hz4 := hM4.size
      have u5 : Blk (w4.alloc (.cells #[u32 D.f, u32 D.t, u64 D.a, u64 D.k] 35)) w4.heap.size [u32 D.f, u32 D.t, u64 D.a, u64 D.k] := Blk.new w4 [u32 D.f, u32 D.t, u64 D.a, u64 D.k] 35
      have hE5 : Ext w4 (w4.alloc (.cells #[u32 D.f, u32 D.t, u64 D.a, u64 D.k] 35)) := (Ext.refl _).alloc _
      simp
      generalize (w4.alloc (.cells #[u32 D.f, u32 D.t, u64 D.a, u64 D.k] 35)) = w5 at *
      have y5 := (y3.mod hM4 (nF _ (by have := hE1.size; omega))).ext hE5
      have x5 := (x3.mod hM4 (nF _ (by have := hE1.size; omega))).ext hE5
      have o65 := ((o6.ext (hE2.trans hE3)).mod hM4 (nF _ (by omega))).ext hE5
      refine WC_drawL 11 (.F 0 <| .F 1 <| .F 2 <| .C 3 <| .F 4 <| .F 5 <| .F 7 <| .C 6 <| .F 8 <| .F 9 <| .S 10 <| .Z) (fun _ => false) (fun _ => false) (fun _ _ _ => True) rfl (by kernel_rfl) (fun _ h => h) (fun _ _ _ _ _ _ => trivial) fun W hW => ?_
      have hWE : Ext w5 W := hW ▸ Ext.drew w5
      have y6 := y5.ext hWE
      have x6 := x5.ext hWE
      have u6 := u5.ext hWE
      have o66 := o65.ext hWE
      have hyy := eqSt D D W
      simp only [decide_true] at hyy
      simp [y6.cell 0 _ rfl, x6.cell 0 _ rfl, x6.cell 1 _ rfl, x6.cell 2 _ rfl, x6.cell 3 _ rfl, u6.cell 0 _ rfl, u6.cell 1 _ rfl, u6.cell 2 _ rfl, u6.cell 3 _ rfl, hyy]
      refine KR_same ?_
      simp
      refine FN.mono (num_c E W) ?_
      rintro _ W2 ⟨rfl, hw⟩
      subst hw
      simp
      refine KR_same ?_
      simp [o66.cell 0 _ rfl, o66.thaw]
      refine KR_set ?_
      simp [o66.cell 0 _ rfl, cell_setCell]
      have hMs : Mod (fun k => k = w.heap.size + 1 + 1) W2 (W2.setCell ⟨w.heap.size + 1 + 1, 0, none⟩ (.slice a2 L.length c2)) := (Mod.refl _ _).setC _ _
      have hE5W := hE5.trans hWE
      obtain ⟨g1, g2, g3⟩ := Both.done hT hrow hoff hE1 (hE2.trans hE3) (hr2.ext hE3) hf2 hT4 hM4 hF4 hR4 ((hE5W.mod).trans hMs) ⟨by omega, by omega⟩
      subst hLL
      refine ⟨M4, g1, g2, g3, fun hne => ?_⟩
      rcases hf2 hne with h | h
      · left; simpa using h
      · right; omega
    by_cases b5 : q.what = 5
    · have hL : actL l q = l := by simp [actL, b5]
      rw [hL]
      simp [beq_dec, b5, o5.cell 5 _ rfl, o5.cell 6 _ rfl, o8.cell 0 _ rfl, o8.cell 1 _ rfl]
      have hg := hR.gdT hT
      obtain ⟨ys, hys⟩ := isKeys_ex (sps M (q.s.f, q.s.t))
      have hsl := sps_len hT (q.s.f, q.s.t)
      rw [hR.cnt] at hsl
      have hbe := hR.best q.s.f q.s.t q.sp hys
      refine FN.mono (best_c (hT.ext hE1) hg q.s.f q.s.t q.sp hq.p (by omega) hys) ?_
      rintro _ w2 ⟨rfl, hE2⟩
      have p4 := o4.ext hE2
      have p5 := o5.ext hE2
      have p6 := o6.ext hE2
      have p8 := o8.ext hE2
      rw [hbe]
      obtain ⟨r1, r2, hr12⟩ : ∃ (r1 : Int) (r2 : Bool), (if inS q.sp q.sp.from' then Value.tuple #[u64 (rbst l q.s.f q.s.t q.sp), .bool true] else .tuple #[u64 0, .bool false]) = .tuple #[u64 r1, .bool r2] := by
        split
        · exact ⟨_, _, rfl⟩
        · exact ⟨_, _, rfl⟩
      rw [hr12]
      simp [p4.cell 0 _ rfl, p5.cell 5 _ rfl, p5.cell 6 _ rfl, p8.cell 0 _ rfl, p8.cell 1 _ rfl]
      refine FN.mono (rbest_c (hrow.ext (hE1.trans hE2)) (fun x hx => (hR.ok x hx).1) q.s.f q.s.t q.sp hq.p (by omega)) ?_
      rintro _ w3 ⟨rfl, hE3⟩
      rw [hr12]
      have u4 := p4.ext hE3
      have u6 := p6.ext hE3
      simp [u4.cell 0 _ rfl, u6.cell 0 _ rfl, u6.thaw, cell_setCell]
      have hE13 := hE1.trans (hE2.trans hE3)
      have hEf : Ext w (w3.setCell ⟨w.heap.size + 1 + 1, 0, none⟩ (.slice va l.length vc)) := hE13.setCell _ _ (by simp only; omega)
      exact ⟨M, ⟨hT.ext hEf, hrow.ext hEf, hR, hoff⟩, hEf.mod, fun k hk => .inl hk⟩
    · have hL : actL l q = l := by simp [actL, b0, b1, b2, b3, b4]
      rw [hL]
      simp [beq_dec, b0, b1, b2, b3, b4, b5]
      have hg := hR.gdT hT
      have hok : ∀ x ∈ l, StOk x := fun x hx => (hR.ok x hx).1
      have htk := hR.tk q.s.f q.s.t q.s.a
      have hln := hR.lnd q.s.f q.s.t q.s.a
      refine WC_drawL 38 (.F 0 <| .F 1 <| .F 2 <| .F 3 <| .F 4 <| .F 5 <| .F 6 <| .F 7 <| .F 9 <| .F 10 <| .F 11 <| .F 12 <| .F 13 <| .F 14 <| .F 15 <| .C 8 <| .C 16 <| .F 17 <| .F 18 <| .F 19 <| .F 20 <| .F 21 <| .F 22 <| .F 23 <| .F 24 <| .F 25 <| .F 27 <| .F 28 <| .F 29 <| .F 30 <| .F 31 <| .F 32 <| .F 33 <| .C 26 <| .C 34 <| .F 35 <| .F 36 <| .S 37 <| .Z) (fun _ => false) (fun _ => false) (fun _ _ _ => True) rfl (by kernel_rfl) (fun _ h => h) (fun _ _ _ _ _ _ => trivial) fun W hW => ?_
      have hWE : Ext w1 W := hW ▸ Ext.drew w1
      have p4 := o4.ext hWE
      have p8 := o8.ext hWE
      have hEW := hE1.trans hWE
      simp [p4.cell 0 _ rfl, p8.cell 0 _ rfl, p8.cell 1 _ rfl, p8.cell 2 _ rfl]
      refine FN.mono (ticks_c (hT.ext hEW) q.s.f q.s.t q.s.a) ?_
      rintro _ w2 ⟨rfl, hE2⟩
      simp
      refine KR_ext hE2 ?_
      simp
      refine FN.mono (rticks_c (hrow.ext (hEW.trans hE2)) q.s.f q.s.t q.s.a (by omega)) ?_
      rintro _ w3 ⟨rfl, hE3⟩
      have hE23 := hE2.trans hE3
      have r4 := p4.ext hE23
      have r8 := p8.ext hE23
      rw [htk]
      simp
      refine KR_ext hE3 ?_
      simp [r4.cell 0 _ rfl, r8.cell 0 _ rfl, r8.cell 1 _ rfl, r8.cell 2 _ rfl]
      refine FN.mono (lands_c (hT.ext (hEW.trans hE23)) hg q.s.f q.s.t q.s.a hq.s.a) ?_
      rintro _ w4 ⟨rfl, hE4⟩
      simp
      refine KR_ext hE4 ?_
      simp
      refine FN.mono (rlands_c (hrow.ext ((hEW.trans hE23).trans hE4)) q.s.f q.s.t q.s.a (by omega) hq.s.a (rtk_0 hok _ _ _)) ?_
      rintro _ w5 ⟨rfl, hE5⟩
      have hE15 := hWE.trans (hE23.trans (hE4.trans hE5))
      have u6 := o6.ext hE15
      rw [hln]
      simp
      refine KR_ext hE5 ?_
      simp [u6.cell 0 _ rfl, u6.thaw]
      refine KR_set ?_
      simp [u6.cell 0 _ rfl, cell_setCell]
      have hEf : Ext w (w5.setCell ⟨w.heap.size + 1 + 1, 0, none⟩ (.slice va l.length vc)) := (hE1.trans hE15).setCell _ _ (by simp only; omega)
      exact ⟨M, ⟨hT.ext hEf, hrow.ext hEf, hR, hoff⟩, hEf.mod, fun k hk => .inl hk⟩
  case jn =>
    rintro σ ⟨s0, s6, s8⟩ hL
    refine FN.mono (rset_c (hrow.ext hE1) q.s hq.s (by omega)) ?_
    rintro _ w2 ⟨v2, rfl, hE2, hr2, hf2⟩
    obtain ⟨a2, c2, hv2⟩ := hr2.isSlice
    obtain ⟨L, hLL⟩ : ∃ L, L = rsetL l q.s := ⟨_, rfl⟩
    obtain ⟨E, hEE⟩ : ∃ E, E = rsetE l q.s := ⟨_, rfl⟩
    obtain ⟨D, hD⟩ : ∃ D, D = rsetW l q.s := ⟨_, rfl⟩
    rw [← hD, ← hEE, hL, ← hLL]
    rw [← hLL] at hr2 hf2 hv2
    subst hv2
    have y3 : Blk (w2.alloc (.cells #[.slice a2 L.length c2] 51)) w2.heap.size [.slice a2 L.length c2] := Blk.new w2 _ _
    have hE3 : Ext w2 (w2.alloc (.cells #[.slice a2 L.length c2] 51)) := (Ext.refl _).alloc _
    have p8 := o8.ext hE2
    simp [s0, s8, p8.cell 0 _ rfl, p8.cell 1 _ rfl, p8.cell 2 _ rfl, p8.cell 3 _ rfl]
    generalize (w2.alloc (.cells #[.slice a2 L.length c2] 51)) = w3 at *
    have hE13 := hE1.trans (hE2.trans hE3)
    refine FN.mono (set_c (hT.ext hE13) (by rw [hR.cnt]; omega) q.s) ?_
    rintro _ w4 ⟨rfl, M4, hT4, hM4, hF4, hs4, ht4⟩
    have hR4 := hR.set hq.s hs4 ht4
    have hdE := hR.setE q.s
    have hdW := hR.wasS q.s
    rw [← hLL] at hR4
    rw [← hEE] at hdE
    rw [← hD] at hdW
    rw [hdE, hdW]
    have z1' := hE1.size
    have z2' := hE2.size
    have y4 := y3.mod hM4 (nF _ (by omega))
    have o64 := (o6.ext (hE2.trans hE3)).mod hM4 (nF _ (by omega))
    simp
    refine WC_drawL 11 (.F 0 <| .F 1 <| .F 2 <| .F 3 <| .F 4 <| .F 5 <| .F 7 <| .C 6 <| .F 8 <| .F 9 <| .S 10 <| .Z) (fun _ => false) (fun _ => false) (fun _ _ _ => True) rfl (by kernel_rfl) (fun _ h => h) (fun _ _ _ _ _ _ => trivial) fun W hW => ?_
    have hWE : Ext w4 W := hW ▸ Ext.drew w4
    have y6 := y4.ext hWE
    have o66 := o64.ext hWE
    simp [y6.cell 0 _ rfl]
    refine FN.mono (num_c E W) ?_
    rintro _ W2 ⟨rfl, hw⟩
    subst hw
    simp
    refine KR_same ?_
    simp [s6, o66.cell 0 _ rfl, o66.thaw]
    refine KR_set ?_
    simp [s6, o66.cell 0 _ rfl, cell_setCell]
    have hMs : Mod (fun k => k = w.heap.size + 1 + 1) W2 (W2.setCell ⟨w.heap.size + 1 + 1, 0, none⟩ (.slice a2 L.length c2)) := (Mod.refl _ _).setC _ _
    obtain ⟨g1, g2, g3⟩ := Both.done hT hrow hoff hE1 (hE2.trans hE3) (hr2.ext hE3) hf2 hT4 hM4 hF4 hR4 ((hWE.mod).trans hMs) ⟨by omega, by omega⟩
    refine ⟨M4, g1, g2, g3, fun hne => ?_⟩
    rcases hf2 hne with h | h
    · left; simpa using h
    · right; omega
end Go.Proofs
