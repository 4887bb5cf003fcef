/-
  Contracts of the functions that the law reaches, step by step.
-/
import Derived.Test.YtfppepjaopbanaaRkD
namespace Go.Proofs
open Pk
set_option maxRecDepth 10000
def badR (x : Wt) : Bool := !decide (0 ≤ x.2.2.1 ∧ x.2.2.1 ≤ 2) || (decide (x.2.2.2 < 1) || decide (65536 < x.2.2.2))
theorem put1_c {w : World} {b : Nat} {x : Wt} (h : WtAt w b x) : FN Try.prog 26 [ptr b] w fun e w' => e = .returned (.bool (badR x)) ∧ Ext w w' := by
  refine FN_enter Try.func26 rfl rfl (by kernel_rfl) ?_
  simp [h.c5]
  have hE := (Ext.refl w).alloc (.cells #[i64 0, i64 1, i64 2] 3)
  have hs : Sl (w.alloc (.cells #[i64 0, i64 1, i64 2] 3)) 1 (.slice (some ⟨w.heap.size, 0, none⟩) 3 3) 3 [i64 0, i64 1, i64 2] := Sl.made w [i64 0, i64 1, i64 2] _ 1 3 rfl
  refine FN.mono (contains_c hs x.2.2.1) ?_
  rintro _ w1 ⟨rfl, hw⟩
  rw [hw]
  have h5 := (h.ext hE).c5
  have h6 := (h.ext hE).c6
  by_cases g1 : 0 ≤ x.2.2.1 ∧ x.2.2.1 ≤ 2
  · simp [g1, h6]
    by_cases g2 : x.2.2.2 < 1
    · simp [g2, badR]
      exact hE
    · simp [g2, h6, badR, g1]
      exact hE
  · simp [g1, badR]
    exact hE
theorem put2_c {w : World} {l Rq Rw b0 b1 : Nat} {M : MQ} {N : MN} {s : List Wt} {most : Int} {x : Wt} (h : LineAt w l Rq Rw M N s most) (v0 : Var w b0 (ptr l)) (hn : WtAt w b1 x) :
    FN Try.prog 28 [ptr b0, ptr b1] w fun e w' => e = .returned (.bool (findN s x.1).isSome) ∧ Ext w w' := by
  refine FN_enter Try.func28 rfl rfl (by kernel_rfl) ?_
  simp
  refine WC_drawL 12 (.F 0 <| .F 1 <| .F 2 <| .F 3 <| .F 4 <| .F 5 <| .D 10 <| .L 6 <| .F 7 <| .F 8 <| .F 9 <| .W 10 <| .S 11 <| .Z) (fun _ => false) (fun _ => false) (fun _ u W => ∃ b, u = ptr b ∧ W.heap[b]? = some (.cells #[u32 0, i64 0] 80 (0, 0)) ∧ w.heap.size ≤ b) rfl (by kernel_rfl) (fun _ h => h)
    (fun _ _ _ _ ⟨b, h1, h2, h3⟩ h4 => ⟨b, h1, (agr_ext h4).obj h2, h3⟩) fun W hW => ?_
  have hWE : Ext w W := hW ▸ Ext.drew w
  have h0 := h.ext hWE
  have hn0 := hn.ext hWE
  simp [(v0.ext hWE).cell, h0.c2, hn0.c0, hn0.c1, hn0.c2, hn0.c3]
  refine RL_float (fun W1 h1 => ?_) ?_
  · simp
    have hs := (hWE.trans (agr_ext h1)).size
    exact ⟨(Ext.refl _).alloc _, by omega⟩
  simp
  refine RL_loose fun W1 h1 => ?_
  simp [(h0.ext h1).findW]
  refine KR_same ?_
  simp
  refine RL_wait fun _ W3 h3 ⟨b, hb, ho4, hlb⟩ => ?_
  subst hb
  have hE3 : Ext w W3 := hWE.trans (h1.trans h3)
  have z0 : W3.cell? ⟨b, 0, none⟩ = some (u32 0) := by simp [World.cell?, ho4]
  have z1 : W3.cell? ⟨b, 1, none⟩ = some (i64 0) := by simp [World.cell?, ho4]
  have zf : ∀ j, W3.frozen? ⟨b, j, none⟩ = false := fun j => by simp [World.frozen?, ho4]
  simp [z0, z1, zf, cell_setCell]
  refine KR_mk (agr_any (((Mod.refl _ _).any _ _).any _ _)) ?_
  have hX := fun (x y : Value) => (hE3.setCell ⟨b, 0, none⟩ x hlb).setCell ⟨b, 1, none⟩ y hlb
  simp
  exact hX _ _
theorem full_c (m n : Int) (w : World) : FN Try.prog 30 [.agg #[i64 m], i64 n] w fun e w' => e = .returned (.bool (decide (m ≤ n))) ∧ Ext w w' := by
  refine FN_enter Try.func30 rfl rfl (by kernel_rfl) ?_
  simp
  exact (Ext.refl w).alloc _
theorem put3_c {w : World} {l Rq Rw b0 : Nat} {M : MQ} {N : MN} {s : List Wt} {most : Int} (h : LineAt w l Rq Rw M N s most) (v0 : Var w b0 (ptr l)) :
    FN Try.prog 29 [ptr b0] w fun e w' => e = .returned (.bool (decide (most ≤ (s.length : Int)))) ∧ Ext w w' := by
  refine FN_enter Try.func29 rfl rfl (by kernel_rfl) ?_
  simp
  refine WC_drawQ 9 rfl (by kernel_rfl) ?_
  have hd := Ext.drew w
  have hl := (h.mw.ext hd).len (P := Try.prog) (T := 68) (by simp)
  rw [h.len] at hl
  simp [(v0.ext hd).cell, (h.ext hd).c0, (h.ext hd).c2, hl]
  refine FN.mono (full_c most s.length w.drew) ?_
  rintro _ w1 ⟨rfl, hE⟩
  simp
  exact hd.trans hE
def putE (s : List Wt) (most : Int) (x : Wt) : Int :=
  if badN x.1 then 2 else if x.2.1 = 0 then 2 else if badR x then 2 else if (findN s x.1).isSome then 150 else if most ≤ (s.length : Int) then 220 else 0
set_option maxHeartbeats 1000000 in
theorem put_c {w : World} {l Rq Rw : Nat} {M : MQ} {N : MN} {s : List Wt} {most : Int} (h : LineAt w l Rq Rw M N s most) (hbd : s.length ≤ 1048575) (x : Wt) :
    FN Try.prog 8 [ptr l, wtV x] w fun e w' => e = .returned (i64 (putE s most x)) ∧ ∃ M' N', LineAt w' l Rq Rw M' N' (if putE s most x = 0 then s ++ [x] else s) most ∧ Mod (Foot l Rq Rw M) w w' ∧ ∀ k, Foot l Rq Rw M' k → Foot l Rq Rw M k ∨ w.heap.size ≤ k := by
  refine FN_enter Try.func8 rfl rfl (by kernel_rfl) ?_
  simp
  have hE1 : Ext w ((w.alloc (.cells #[ptr l] 32)).alloc (.cells #[u32 x.1.1, u32 x.1.2.1, u64 x.1.2.2.1, u32 x.1.2.2.2, u32 x.2.1, i64 x.2.2.1, i64 x.2.2.2] 30)) := ((Ext.refl w).alloc _).alloc _
  have v0 : Var ((w.alloc (.cells #[ptr l] 32)).alloc (.cells #[u32 x.1.1, u32 x.1.2.1, u64 x.1.2.2.1, u32 x.1.2.2.2, u32 x.2.1, i64 x.2.2.1, i64 x.2.2.2] 30)) w.heap.size (ptr l) := (Var.new w _ _).ext ((Ext.refl _).alloc _)
  have hx : WtAt ((w.alloc (.cells #[ptr l] 32)).alloc (.cells #[u32 x.1.1, u32 x.1.2.1, u64 x.1.2.2.1, u32 x.1.2.2.2, u32 x.2.1, i64 x.2.2.1, i64 x.2.2.2] 30)) (w.heap.size + 1) x := by
    have := WtAt.new (w.alloc (.cells #[ptr l] 32)) x 30
    simpa using this
  generalize ((w.alloc (.cells #[ptr l] 32)).alloc (.cells #[u32 x.1.1, u32 x.1.2.1, u64 x.1.2.2.1, u32 x.1.2.2.2, u32 x.2.1, i64 x.2.2.1, i64 x.2.2.2] 30)) = w1 at *
  refine WC_drawC 14 (.F 0 <| .F 2 <| .F 3 <| .F 5 <| .F 6 <| .F 8 <| .F 9 <| .F 10 <| .F 11 <| .F 12 <| .F 13 <| .C 1 <| .C 4 <| .C 7 <| .Z) (fun _ => false) rfl (by kernel_rfl) fun W hW => ?_
  have hWE : Ext w1 W := hW ▸ Ext.drew _
  have hx2 := hx.ext hWE
  simp [(v0.ext hWE).cell, hx2.c0, hx2.c1, hx2.c2, hx2.c3, hx2.c4]
  refine FN.mono (is_c l W) ?_
  rintro _ W1 ⟨rfl, hE2⟩
  simp
  refine KR_ext hE2 ?_
  simp
  refine FN.mono (right_c x.1 W1) ?_
  rintro _ W2 ⟨rb, rfl, hr, hE3⟩
  simp
  refine KR_ext hE3 ?_
  simp
  refine FN.mono (node_c x.2.1 W2) ?_
  rintro _ W3 ⟨nb, rfl, hnv, hE4⟩
  simp
  refine KR_ext hE4 ?_
  simp
  have hE41 := ((hWE.trans hE2).trans hE3).trans hE4
  let qs : List Qn := [⟨.func (.func 32) #[ptr l] #[], 1, false⟩, ⟨.func (.func 55) #[] #[ptr rb], 2, badN x.1⟩, ⟨.func (.func 57) #[] #[ptr nb], 2, decide (x.2.1 = 0)⟩, ⟨.func (.func 26) #[] #[ptr (w.heap.size + 1)], 2, badR x⟩,
    ⟨.func (.func 28) #[] #[ptr w.heap.size, ptr (w.heap.size + 1)], 150, (findN s x.1).isSome⟩, ⟨.func (.func 29) #[] #[ptr w.heap.size], 220, decide (most ≤ (s.length : Int))⟩]
  have hsl := Sl.made W3 (askCells qs) 73 2 6 rfl
  have hE5 := (Ext.refl W3).alloc (.cells (askCells qs).toArray 73)
  refine asked_go (w0 := W3) qs hsl (by simp [qs]) ?_ hE5 ?_ ?_
  · intro q hq
    simp [qs] at hq
    rcases hq with rfl | rfl | rfl | rfl | rfl | rfl <;> exact ⟨_, _, _, rfl⟩
  · intro i q hq hno w' hw'
    have hx := hE41.trans hw'
    match i, hq with
    | 0, hq =>
      simp [qs] at hq; subst hq
      exact FN.mono (none_c (h.ext (hE1.trans hx))) fun _ _ h => ⟨h.1, h.2 ▸ Ext.refl _⟩
    | 1, hq =>
      simp [qs] at hq; subst hq
      exact rightF_c (hr.ext (hE4.trans hw'))
    | 2, hq =>
      simp [qs] at hq; subst hq
      exact FN.mono (nodeF_c (hnv.ext hw')) fun _ _ h => ⟨by rw [h.1, beq_dec], h.2 ▸ Ext.refl _⟩
    | 3, hq =>
      simp [qs] at hq; subst hq
      exact put1_c (WtAt.ext ‹WtAt w1 _ x› hx)
    | 4, hq =>
      simp [qs] at hq; subst hq
      exact put2_c (h.ext (hE1.trans hx)) (v0.ext hx) (WtAt.ext ‹WtAt w1 _ x› hx)
    | 5, hq =>
      simp [qs] at hq; subst hq
      exact put3_c (h.ext (hE1.trans hx)) (v0.ext hx)
    | i + 6, hq => simp [qs] at hq
  · intro w4 hw4
    have hX := hE41.trans hw4
    have hE : askE qs = putE s most x := by
      simp [qs, askE, putE]
    rw [hE]
    have h4 := h.ext (hE1.trans hX)
    have v04 := v0.ext hX
    have hx4 := hx.ext hX
    by_cases h0 : putE s most x = 0
    · simp [h0, v04.cell, hx4.c0, hx4.c1, hx4.c2, hx4.c3, hx4.c4, hx4.c5, hx4.c6]
      have hno : findN s x.1 = none := by
        cases hf : findN s x.1 with
        | none => rfl
        | some y =>
          exfalso
          unfold putE at h0
          rw [hf] at h0
          simp only [Option.isSome_some, if_true] at h0
          split at h0
          · omega
          · split at h0
            · omega
            · split at h0 <;> omega
      refine FN.mono (push_c h4 x hno hbd) ?_
      rintro _ w5 ⟨⟨u, rfl⟩, M', N', g1, g2, g3⟩
      simp
      exact ⟨M', ⟨N', g1⟩, (hE1.trans hX).mod.trans g2, fun k hk => by
        rcases g3 k hk with h | h
        · exact .inl h
        · have := (hE1.trans hX).size; exact .inr (by omega)⟩
    · simp [h0]
      exact ⟨M, ⟨N, h4⟩, (hE1.trans hX).mod, fun k hk => .inl hk⟩
end Go.Proofs
