/-
  Contracts of the functions that the law reaches, step by step.
-/
import Derived.Test.YthamfghcfjhifaaGreatDoorAeT
import Derived.Test.YthamfghcfjhifaaGreatDoorAfF
namespace Go.Proofs
open Pk
set_option maxRecDepth 10000
set_option maxHeartbeats 4000000 in
/-- Report's reading, of any items. -/
theorem rdRep_c {w0 w : World} {b rb : Nat} {l0 : List It} {r : Rec} (h : Rd w0 w b l0) (hR : Blk w rb (recC r)) (hrb : w0.heap.size ≤ rb) (hne : b ≠ rb) (hxn : ∀ x ∈ l0, (numsOf x).length ≤ 1000000) :
    FN Tryz.prog 104 [ptr b, ptr rb] w fun e w' => RdR w0 w w' b rb (rdRep r l0) e := by
  refine FN_enter Tryz.func104 rfl rfl (by kernel_rfl) ?_
  simp
  refine FN.mono (rd_next h) ?_
  rintro e1 w1 ⟨M1, hp1⟩
  cases l0 with
  | nil =>
    obtain rfl : e1 = _ := hp1
    simp
    exact ⟨M1.weaken fun j hj => .inl hj, rfl⟩
  | cons x l =>
  obtain ⟨⟨cs, ba, bc, la, lc, css, rfl, hO⟩, H1⟩ := hp1
  have hlb : w0.heap.size ≤ b := h.lt
  have hE1 : Ext w0 w1 := H1.ext
  have R1 := Blk.mod hR M1 (by omega)
  simp
  refine FN.mono (nameOf_c (ItP.ext hO.itC hE1) (hxn x (by simp))) ?_
  rintro _ w2 ⟨rfl, hE2⟩
  by_cases hx : namF x = true
  case neg =>
    have hn : rdRep r (x :: l) = none := if_neg hx
    rw [if_neg hx]
    simp
    refine FN.mono (must_f 180 _) ?_
    rintro _ w4 ⟨rfl, rfl⟩
    simp
    rw [hn]
    exact ⟨((M1.weaken fun j hj => .inl hj).trans hE2.mod).trans (((Ext.refl w2).alloc _).mod), rfl⟩
  rw [if_pos hx]
  obtain ⟨N, hN⟩ : ∃ N, N = namN x := ⟨_, rfl⟩
  rw [← hN]
  have H2 := H1.more hE2
  have R2 := R1.ext hE2
  simp
  have b4 := Blk.new w2 (namC N) 28
  have hE3 : Ext w2 (w2.alloc (.cells #[u32 N.nn, u32 N.ns, u64 N.nt, u32 N.nq] 28)) := (Ext.refl _).alloc _
  have rl := R2.lt
  have bl : b < w2.heap.size := by
    obtain ⟨v, css, hb, -⟩ := H2.row
    exact hb.lt
  have M3 : Mod (fun j => j = b ∨ j = rb) w (w2.alloc (.cells #[u32 N.nn, u32 N.ns, u64 N.nt, u32 N.nq] 28)) := ((M1.weaken fun j hj => .inl hj).trans hE2.mod).trans hE3.mod
  have H3 := H2.more hE3
  have R3 := R2.ext hE3
  generalize (w2.alloc (.cells #[u32 N.nn, u32 N.ns, u64 N.nt, u32 N.nq] 28)) = w3 at *
  refine FN.mono (must_t 180 w3) ?_
  rintro _ w4 ⟨⟨u, rfl⟩, h4⟩
  subst h4
  simp
  refine WC_drawZ 14 (.F 0 <| .F 1 <| .F 2 <| .F 3 <| .F 4 <| .F 6 <| .C 5 <| .C 7 <| .F 8 <| .F 9 <| .S 10 <| .F 11 <| .F 12 <| .S 13 <| .Z) (Xf fun k => k = b) (Xf fun k => k = b) (fun _ _ _ => True) (fun ch w' => Mod (fun j => j = b ∨ j = rb) w w' ∧ ch = panV 180 ∧ rdRep r (x :: l) = none) rfl (by kernel_rfl) (fun _ h => h) (fun _ _ _ _ _ _ => trivial) ?_ fun W hW => ?_
  · rintro ch ρ' w' ⟨h1, rfl, h2⟩
    simp
    rw [h2]
    exact ⟨h1, rfl⟩
  have hWE : Ext w4 W := hW ▸ Ext.drew _
  have X4 : Xf (fun k => k = b) w2.heap.size = false := Xf_f (by omega)
  have b5 := b4.ext hWE
  have H5 := H3.more hWE
  have R5 := R3.ext hWE
  simp [b5.cell 0 _ rfl, b5.cell 1 _ rfl, b5.cell 2 _ rfl, b5.cell 3 _ rfl, X4]
  refine FN.mono (rdUpi64 H5 4 fun y h0 h1 => wrap64 y (by omega) (by omega)) ?_
  rintro e6 w6 ⟨M6, hp⟩
  rcases ho1 : upI l 4 with _ | ⟨a1, l1⟩
  · rw [ho1] at hp
    obtain rfl : e6 = _ := hp
    have hn : rdRep r (x :: l) = none := by simp only [rdRep, hx, if_true, ho1, Option.bind_none]
    simp
    exact ⟨(M3.trans hWE.mod).trans (M6.weaken fun j hj => .inl hj), hn⟩
  rw [ho1] at hp
  obtain ⟨rfl, H6⟩ := hp
  simp
  refine KR_mk (Xf_agr M6) ?_
  simp
  refine FN.mono (rdUpi64 H6 6 fun y h0 h1 => wrap64 y (by omega) (by omega)) ?_
  rintro e7 w7 ⟨M7, hp⟩
  rcases ho2 : upI l1 6 with _ | ⟨a2, l2⟩
  · rw [ho2] at hp
    obtain rfl : e7 = _ := hp
    have hn : rdRep r (x :: l) = none := by simp only [rdRep, hx, if_true, ho1, ho2, Option.bind_some, Option.bind_none]
    simp
    exact ⟨((M3.trans hWE.mod).trans (M6.weaken fun j hj => .inl hj)).trans (M7.weaken fun j hj => .inl hj), hn⟩
  rw [ho2] at hp
  obtain ⟨rfl, H7⟩ := hp
  simp
  refine KR_mk (Xf_agr M7) ?_
  have R7 := (Blk.mod R5 M6 (by omega)).mod M7 (by omega)
  simp [R7.cell 1 _ rfl, R7.cell 2 _ rfl, R7.cell 3 _ rfl, R7.cell 4 _ rfl, R7.thaw, cell_setCell]
  have M8 : Mod (fun j => j = rb) w7 ((((w7.setCell ⟨rb, 1, none⟩ (u32 N.nn)).setCell ⟨rb, 2, none⟩ (u32 N.ns)).setCell ⟨rb, 3, none⟩ (u64 N.nt)).setCell ⟨rb, 4, none⟩ (u32 N.nq)) := ((((Mod.refl _ _).setC 1 _).setC 2 _).setC 3 _).setC 4 _
  have R8 := (((R7.set 1 (u32 N.nn)).set 2 (u32 N.ns)).set 3 (u64 N.nt)).set 4 (u32 N.nq)
  simp only [List.set_cons_zero, List.set_cons_succ] at R8
  refine KR_mk (agr_any (M8.weaken fun _ _ => trivial)) ?_
  generalize ((((w7.setCell ⟨rb, 1, none⟩ (u32 N.nn)).setCell ⟨rb, 2, none⟩ (u32 N.ns)).setCell ⟨rb, 3, none⟩ (u64 N.nt)).setCell ⟨rb, 4, none⟩ (u32 N.nq)) = w8 at *
  simp [R8.cell 5 _ rfl, R8.thaw]
  have M9 : Mod (fun j => j = rb) w8 (w8.setCell ⟨rb, 5, none⟩ (i64 a1)) := (Mod.refl _ _).setC 5 _
  have R9 := R8.set 5 (i64 a1)
  simp only [List.set_cons_zero, List.set_cons_succ] at R9
  refine KR_mk (agr_any (M9.weaken fun _ _ => trivial)) ?_
  generalize (w8.setCell ⟨rb, 5, none⟩ (i64 a1)) = w9 at *
  simp [R9.cell 6 _ rfl, R9.thaw]
  have M10 : Mod (fun j => j = rb) w9 (w9.setCell ⟨rb, 6, none⟩ (i64 a2)) := (Mod.refl _ _).setC 6 _
  have R10 := R9.set 6 (i64 a2)
  simp only [List.set_cons_zero, List.set_cons_succ] at R10
  have MS := (M8.trans M9).trans M10
  have H10 := H7.ext' (MS.weaken fun j hj => by rw [hj]; exact ⟨hrb, fun e => hne e.symm⟩)
  generalize (w9.setCell ⟨rb, 6, none⟩ (i64 a2)) = w10 at *
  refine FN.mono (rd_time H10) ?_
  rintro e11 w11 ⟨M11, hp⟩
  have A : Mod (fun j => j = b ∨ j = rb) w4 w7 := (hWE.mod.trans (M6.weaken fun j hj => .inl hj)).trans (M7.weaken fun j hj => .inl hj)
  rcases ho3 : upI l2 4611686018427387903 with _ | ⟨a3, l3⟩
  · rw [ho3] at hp
    obtain rfl : e11 = _ := hp
    have hn : rdRep r (x :: l) = none := by simp only [rdRep, hx, if_true, ho1, ho2, ho3, Option.bind_some, Option.bind_none]
    simp
    rw [hn]
    exact ⟨((M3.trans A).trans (MS.weaken fun j hj => .inr hj)).trans (M11.weaken fun j hj => .inl hj), rfl⟩
  rw [ho3] at hp
  obtain ⟨rfl, H11⟩ := hp
  have R11 := Blk.mod R10 M11 (by omega)
  simp [R11.cell 7 _ rfl, R11.thaw]
  have M12 : Mod (fun j => j = rb) w11 (w11.setCell ⟨rb, 7, none⟩ (u64 a3)) := (Mod.refl _ _).setC 7 _
  have R12 := R11.set 7 (u64 a3)
  simp only [List.set_cons_zero, List.set_cons_succ] at R12
  have H12 := H11.ext' (M12.weaken fun j hj => by rw [hj]; exact ⟨hrb, fun e => hne e.symm⟩)
  have hs : rdRep r (x :: l) = some ({ r with nn := (namN x).nn, ns := (namN x).ns, nt := (namN x).nt, nq := (namN x).nq, what := a1, why := a2, at' := a3 }, l3) := by simp only [rdRep, hx, if_true, ho1, ho2, ho3, Option.bind_some]
  rw [hs]
  rw [hN] at R12
  refine ⟨?_, ⟨_, rfl⟩, H12, R12⟩
  exact (((M3.trans A).trans (MS.weaken fun j hj => .inr hj)).trans (M11.weaken fun j hj => .inl hj)).trans (M12.weaken fun j hj => .inr hj)
end Go.Proofs
namespace Go.Proofs
open Pk
set_option maxRecDepth 10000
set_option maxHeartbeats 2000000 in
theorem read_k {w : World} {t : It} {cs : List Value} (ht : ItC w t cs) (h4 : t.k ≠ 4) : FN Tryz.prog 38 [.agg cs.toArray] w fun e w' => RcPost w w' none e := by
  obtain ⟨ba, bc, la, lc, css, hO⟩ := itO ht
  have ecs := hO.cs
  rw [show cs.toArray = #[i64 t.k, u64 t.n, .slice ba t.b.length bc, .string t.s, .slice la t.l.length lc] by rw [ecs]]
  refine FN_enter Tryz.func38 rfl rfl (by kernel_rfl) ?_
  simp [beq_dec, h4]
  have hE1 : Ext w ((w.alloc (.cells #[i64 t.k, u64 t.n, .slice ba t.b.length bc, .string t.s, .slice la t.l.length lc] 51)).alloc (.cells #[i64 0, u32 0, u32 0, u64 0, u32 0, i64 0, i64 0, u64 0, u64 0, u32 0, u32 0, .bool false, u64 0, u64 0, u8 0] 30)) := ((Ext.refl w).alloc _).alloc _
  have o1 : Blk ((w.alloc (.cells #[i64 t.k, u64 t.n, .slice ba t.b.length bc, .string t.s, .slice la t.l.length lc] 51)).alloc (.cells #[i64 0, u32 0, u32 0, u64 0, u32 0, i64 0, i64 0, u64 0, u64 0, u32 0, u32 0, .bool false, u64 0, u64 0, u8 0] 30)) w.heap.size [i64 t.k, u64 t.n, .slice ba t.b.length bc, .string t.s, .slice la t.l.length lc] := (Blk.new w _ _).ext ((Ext.refl _).alloc _)
  have o2 : Blk ((w.alloc (.cells #[i64 t.k, u64 t.n, .slice ba t.b.length bc, .string t.s, .slice la t.l.length lc] 51)).alloc (.cells #[i64 0, u32 0, u32 0, u64 0, u32 0, i64 0, i64 0, u64 0, u64 0, u32 0, u32 0, .bool false, u64 0, u64 0, u8 0] 30)) (w.heap.size + 1) [i64 0, u32 0, u32 0, u64 0, u32 0, i64 0, i64 0, u64 0, u64 0, u32 0, u32 0, .bool false, u64 0, u64 0, u8 0] := by
    have := Blk.new (w.alloc (.cells #[i64 t.k, u64 t.n, .slice ba t.b.length bc, .string t.s, .slice la t.l.length lc] 51)) [i64 0, u32 0, u32 0, u64 0, u32 0, i64 0, i64 0, u64 0, u64 0, u32 0, u32 0, .bool false, u64 0, u64 0, u8 0] 30
    simpa using this
  have z1 : ((w.alloc (.cells #[i64 t.k, u64 t.n, .slice ba t.b.length bc, .string t.s, .slice la t.l.length lc] 51)).alloc (.cells #[i64 0, u32 0, u32 0, u64 0, u32 0, i64 0, i64 0, u64 0, u64 0, u32 0, u32 0, .bool false, u64 0, u64 0, u8 0] 30)).heap.size = w.heap.size + 1 + 1 := by simp
  generalize ((w.alloc (.cells #[i64 t.k, u64 t.n, .slice ba t.b.length bc, .string t.s, .slice la t.l.length lc] 51)).alloc (.cells #[i64 0, u32 0, u32 0, u64 0, u32 0, i64 0, i64 0, u64 0, u64 0, u32 0, u32 0, .bool false, u64 0, u64 0, u8 0] 30)) = w1 at *
  refine FN.mono (must_f 180 w1) ?_
  rintro _ w2 ⟨rfl, rfl⟩
  simp
  exact ⟨hE1, rfl⟩
set_option maxHeartbeats 2000000 in
theorem read_up {w : World} {t : It} {cs : List Value} (ht : ItC w t cs) (h4 : t.k = 4) (hnn : ∀ y ∈ t.l, 0 ≤ y.n) (hu : upI t.l 5 = none) : FN Tryz.prog 38 [.agg cs.toArray] w fun e w' => RcPost w w' none e := by
  obtain ⟨ba, bc, la, lc, css, hO⟩ := itO ht
  have ecs := hO.cs
  rw [show cs.toArray = #[i64 t.k, u64 t.n, .slice ba t.b.length bc, .string t.s, .slice la t.l.length lc] by rw [ecs]]
  refine FN_enter Tryz.func38 rfl rfl (by kernel_rfl) ?_
  simp [h4]
  have hE1 : Ext w ((w.alloc (.cells #[i64 4, u64 t.n, .slice ba t.b.length bc, .string t.s, .slice la t.l.length lc] 51)).alloc (.cells #[i64 0, u32 0, u32 0, u64 0, u32 0, i64 0, i64 0, u64 0, u64 0, u32 0, u32 0, .bool false, u64 0, u64 0, u8 0] 30)) := ((Ext.refl w).alloc _).alloc _
  have o1 : Blk ((w.alloc (.cells #[i64 4, u64 t.n, .slice ba t.b.length bc, .string t.s, .slice la t.l.length lc] 51)).alloc (.cells #[i64 0, u32 0, u32 0, u64 0, u32 0, i64 0, i64 0, u64 0, u64 0, u32 0, u32 0, .bool false, u64 0, u64 0, u8 0] 30)) w.heap.size [i64 4, u64 t.n, .slice ba t.b.length bc, .string t.s, .slice la t.l.length lc] := (Blk.new w _ _).ext ((Ext.refl _).alloc _)
  have o2 : Blk ((w.alloc (.cells #[i64 4, u64 t.n, .slice ba t.b.length bc, .string t.s, .slice la t.l.length lc] 51)).alloc (.cells #[i64 0, u32 0, u32 0, u64 0, u32 0, i64 0, i64 0, u64 0, u64 0, u32 0, u32 0, .bool false, u64 0, u64 0, u8 0] 30)) (w.heap.size + 1) [i64 0, u32 0, u32 0, u64 0, u32 0, i64 0, i64 0, u64 0, u64 0, u32 0, u32 0, .bool false, u64 0, u64 0, u8 0] := by
    have := Blk.new (w.alloc (.cells #[i64 4, u64 t.n, .slice ba t.b.length bc, .string t.s, .slice la t.l.length lc] 51)) [i64 0, u32 0, u32 0, u64 0, u32 0, i64 0, i64 0, u64 0, u64 0, u32 0, u32 0, .bool false, u64 0, u64 0, u8 0] 30
    simpa using this
  have z1 : ((w.alloc (.cells #[i64 4, u64 t.n, .slice ba t.b.length bc, .string t.s, .slice la t.l.length lc] 51)).alloc (.cells #[i64 0, u32 0, u32 0, u64 0, u32 0, i64 0, i64 0, u64 0, u64 0, u32 0, u32 0, .bool false, u64 0, u64 0, u8 0] 30)).heap.size = w.heap.size + 1 + 1 := by simp
  generalize ((w.alloc (.cells #[i64 4, u64 t.n, .slice ba t.b.length bc, .string t.s, .slice la t.l.length lc] 51)).alloc (.cells #[i64 0, u32 0, u32 0, u64 0, u32 0, i64 0, i64 0, u64 0, u64 0, u32 0, u32 0, .bool false, u64 0, u64 0, u8 0] 30)) = w1 at *
  refine FN.mono (must_t 180 w1) ?_
  rintro _ w2 ⟨⟨u, rfl⟩, h2⟩
  subst h2
  simp [o1.cell 4 _ rfl]
  have hE3 : Ext w2 (w2.alloc (.cells #[.slice la t.l.length lc] 129)) := (Ext.refl _).alloc _
  have o3 : Blk (w2.alloc (.cells #[.slice la t.l.length lc] 129)) w2.heap.size [.slice la t.l.length lc] := Blk.new w2 _ _
  obtain ⟨b, hb⟩ : ∃ b, b = w2.heap.size := ⟨_, rfl⟩
  obtain ⟨rb, hrb⟩ : ∃ rb, rb = w.heap.size + 1 := ⟨_, rfl⟩
  rw [← hb] at o3 ⊢
  rw [← hrb] at o2 ⊢
  have p2 := o2.ext hE3
  generalize (w2.alloc (.cells #[.slice la t.l.length lc] 129)) = w3 at *
  have hblt := o3.lt
  have hR3 : Rd w w3 b t.l := by
    refine ⟨⟨.slice la t.l.length lc, css, o3, ?_, ?_⟩, hE1.trans hE3, by have := hE1.size; omega, fun y hy => hnn y hy⟩
    · exact hO.l
    · exact hO.c
  refine FN.mono (rdUpi64 hR3 5 fun y h0 h1 => wrap64 y (by omega) (by omega)) ?_
  rintro e4 w4 ⟨hM4, hp4⟩
  rw [hu] at hp4
  obtain rfl : e4 = _ := hp4
  simp
  exact ⟨((((hE1.trans hE3).mod (S := fun j => w.heap.size ≤ j)).trans (hM4.weaken fun j hj => by have := hE1.size; omega)).ext fun _ h => h), rfl⟩
set_option maxHeartbeats 2000000 in
theorem read_0 {w : World} {t x0 : It} {l : List It} {cs : List Value} (ht : ItC w t cs) (h4 : t.k = 4) (hl : t.l = x0 :: l) (h1 : x0.k = 1) (hx0 : 0 ≤ x0.n ∧ x0.n ≤ 5) (hnn : ∀ y ∈ t.l, 0 ≤ y.n) (hk : mget kdL x0.n = none) : FN Tryz.prog 38 [.agg cs.toArray] w fun e w' => RcPost w w' none e := by
  obtain ⟨ba, bc, la, lc, css, hO⟩ := itO ht
  have ecs := hO.cs
  rw [show cs.toArray = #[i64 t.k, u64 t.n, .slice ba t.b.length bc, .string t.s, .slice la t.l.length lc] by rw [ecs]]
  rw [h4]
  refine FN_enter Tryz.func38 rfl rfl (by kernel_rfl) ?_
  simp
  have hE1 : Ext w ((w.alloc (.cells #[i64 4, u64 t.n, .slice ba t.b.length bc, .string t.s, .slice la t.l.length lc] 51)).alloc (.cells #[i64 0, u32 0, u32 0, u64 0, u32 0, i64 0, i64 0, u64 0, u64 0, u32 0, u32 0, .bool false, u64 0, u64 0, u8 0] 30)) := ((Ext.refl w).alloc _).alloc _
  have o1 : Blk ((w.alloc (.cells #[i64 4, u64 t.n, .slice ba t.b.length bc, .string t.s, .slice la t.l.length lc] 51)).alloc (.cells #[i64 0, u32 0, u32 0, u64 0, u32 0, i64 0, i64 0, u64 0, u64 0, u32 0, u32 0, .bool false, u64 0, u64 0, u8 0] 30)) w.heap.size [i64 4, u64 t.n, .slice ba t.b.length bc, .string t.s, .slice la t.l.length lc] := (Blk.new w _ _).ext ((Ext.refl _).alloc _)
  have o2 : Blk ((w.alloc (.cells #[i64 4, u64 t.n, .slice ba t.b.length bc, .string t.s, .slice la t.l.length lc] 51)).alloc (.cells #[i64 0, u32 0, u32 0, u64 0, u32 0, i64 0, i64 0, u64 0, u64 0, u32 0, u32 0, .bool false, u64 0, u64 0, u8 0] 30)) (w.heap.size + 1) [i64 0, u32 0, u32 0, u64 0, u32 0, i64 0, i64 0, u64 0, u64 0, u32 0, u32 0, .bool false, u64 0, u64 0, u8 0] := by
    have := Blk.new (w.alloc (.cells #[i64 4, u64 t.n, .slice ba t.b.length bc, .string t.s, .slice la t.l.length lc] 51)) [i64 0, u32 0, u32 0, u64 0, u32 0, i64 0, i64 0, u64 0, u64 0, u32 0, u32 0, .bool false, u64 0, u64 0, u8 0] 30
    simpa using this
  have z1 : ((w.alloc (.cells #[i64 4, u64 t.n, .slice ba t.b.length bc, .string t.s, .slice la t.l.length lc] 51)).alloc (.cells #[i64 0, u32 0, u32 0, u64 0, u32 0, i64 0, i64 0, u64 0, u64 0, u32 0, u32 0, .bool false, u64 0, u64 0, u8 0] 30)).heap.size = w.heap.size + 1 + 1 := by simp
  generalize ((w.alloc (.cells #[i64 4, u64 t.n, .slice ba t.b.length bc, .string t.s, .slice la t.l.length lc] 51)).alloc (.cells #[i64 0, u32 0, u32 0, u64 0, u32 0, i64 0, i64 0, u64 0, u64 0, u32 0, u32 0, .bool false, u64 0, u64 0, u8 0] 30)) = w1 at *
  refine FN.mono (must_t 180 w1) ?_
  rintro _ w2 ⟨⟨u, rfl⟩, h2⟩
  subst h2
  simp [o1.cell 4 _ rfl]
  have hE3 : Ext w2 (w2.alloc (.cells #[.slice la t.l.length lc] 129)) := (Ext.refl _).alloc _
  have o3 : Blk (w2.alloc (.cells #[.slice la t.l.length lc] 129)) w2.heap.size [.slice la t.l.length lc] := Blk.new w2 _ _
  obtain ⟨b, hb⟩ : ∃ b, b = w2.heap.size := ⟨_, rfl⟩
  obtain ⟨rb, hrb⟩ : ∃ rb, rb = w.heap.size + 1 := ⟨_, rfl⟩
  rw [← hb] at o3 ⊢
  rw [← hrb] at o2 ⊢
  have p2 := o2.ext hE3
  generalize (w2.alloc (.cells #[.slice la t.l.length lc] 129)) = w3 at *
  have hblt := o3.lt
  have hR3 : Rd w w3 b (x0 :: l) := by
    refine ⟨⟨.slice la t.l.length lc, css, o3, ?_, ?_⟩, hE1.trans hE3, by have := hE1.size; omega, fun y hy => hnn y (by rw [hl]; exact hy)⟩
    · have := hO.l; rw [hl] at this ⊢; exact this
    · have := hO.c; rw [hl] at this; exact this
  refine FN.mono (rdUpi64 hR3 5 fun y h0 h1 => wrap64 y (by omega) (by omega)) ?_
  rintro e4 w4 ⟨hM4, hp4⟩
  have hu4 : upI (x0 :: l) 5 = some (x0.n, l) := if_pos ⟨h1, hx0.2⟩
  rw [hu4] at hp4
  obtain ⟨rfl, hR4⟩ := hp4
  obtain ⟨k, hkk⟩ : ∃ k, k = x0.n := ⟨_, rfl⟩
  rw [← hkk] at hk ⊢
  have q2 := p2.mod hM4 (by omega)
  simp [q2.cell 0 _ rfl, q2.thaw]
  have q2' := q2.set 0 (i64 k)
  simp only [List.set_cons_zero] at q2'
  have hM5 : Mod (fun j => j = rb) w4 (w4.setCell ⟨rb, 0, none⟩ (i64 k)) := (Mod.refl _ _).setC _ _
  have hR5 := hR4.ext' (hM5.weaken fun j hj => by rw [hj]; exact ⟨by omega, by omega⟩)
  have hsz3 := hE3.size
  have hsz4 := hM4.size
  have hsz5 := hM5.size
  have hEw5 : Ext w (w4.setCell ⟨rb, 0, none⟩ (i64 k)) := ((((hE1.trans hE3).mod (S := fun j => w.heap.size ≤ j)).trans (hM4.weaken fun j hj => by omega)).trans (hM5.weaken fun j hj => by omega)).ext fun _ h => h
  generalize (w4.setCell ⟨rb, 0, none⟩ (i64 k)) = w5 at *
  refine WC_drawL 9 (.F 1 <| .F 2 <| .D 7 <| .L 0 <| .L 3 <| .F 4 <| .F 5 <| .F 6 <| .W 7 <| .S 8 <| .Z) (fun _ => false) (fun _ => false) (fun _ u W => ∃ j, u = ptr j ∧ w5.heap.size ≤ j ∧ Blk W j [.string ⟨#[]⟩, .nilFunc, .nilFunc, .nilFunc]) rfl (by kernel_rfl) (fun _ h => h)
    (fun _ _ _ _ ⟨j, h1, h2, h3⟩ hA => ⟨j, h1, h2, h3.ext (agr_ext hA)⟩) fun W hW => ?_
  have hWE : Ext w5 W := hW ▸ Ext.drew w5
  have r2 := q2'.ext hWE
  simp [r2.cell 0 _ rfl]
  refine RL_float (fun W' h' => ?_) ?_
  · simp
    have hs := (hWE.trans (agr_ext h')).size
    exact ⟨(Ext.refl _).alloc _, hs, Blk.new W' [.string ⟨#[]⟩, .nilFunc, .nilFunc, .nilFunc] 71⟩
  simp
  refine RL_loose fun W3 h3 => ?_
  simp
  refine FN.mono (kinds_c W3) ?_
  rintro _ W4 ⟨mr, rfl, hm, hE4⟩
  simp
  refine KR_ext hE4 ?_
  simp
  refine RL_loose fun W5 h5 => ?_
  simp [kd_none hm hk W5 h5]
  refine KR_same ?_
  simp
  refine RL_wait fun v6 W6 h6 ⟨j, hj, hjs, hjb⟩ => ?_
  subst hj
  simp [hjb.cell 0 _ rfl, hjb.cell 1 _ rfl, hjb.cell 2 _ rfl, hjb.cell 3 _ rfl, hjb.thaw, cell_setCell]
  have hM7 : Mod (fun i => i = j) W6 ((((W6.setCell ⟨j, 0, none⟩ (.string ⟨#[]⟩)).setCell ⟨j, 1, none⟩ .nilFunc).setCell ⟨j, 2, none⟩ .nilFunc).setCell ⟨j, 3, none⟩ .nilFunc) := ((((Mod.refl _ W6).setC 0 _).setC 1 _).setC 2 _).setC 3 _
  refine KR_mk (agr_any (hM7.weaken fun _ _ => trivial)) ?_
  have hE56 := hWE.trans (h3.trans (hE4.trans (h5.trans h6)))
  have hszw := hEw5.size
  have hEw7 : Ext w ((((W6.setCell ⟨j, 0, none⟩ (.string ⟨#[]⟩)).setCell ⟨j, 1, none⟩ .nilFunc).setCell ⟨j, 2, none⟩ .nilFunc).setCell ⟨j, 3, none⟩ .nilFunc) := (((hEw5.trans hE56).mod (S := fun j => w.heap.size ≤ j)).trans (hM7.weaken fun i hi => by omega)).ext fun _ h => h
  generalize ((((W6.setCell ⟨j, 0, none⟩ (.string ⟨#[]⟩)).setCell ⟨j, 1, none⟩ .nilFunc).setCell ⟨j, 2, none⟩ .nilFunc).setCell ⟨j, 3, none⟩ .nilFunc) = w7 at *
  simp
  refine FN.mono (must_f 180 w7) ?_
  rintro _ w8 ⟨rfl, rfl⟩
  simp
  exact ⟨hEw7, rfl⟩
/-- How a Kind's record is read. -/
noncomputable def rdKd (k : Int) (l : List It) : Option (Rec × List It) := if k = 1 then rdRep { rec0 with kind := k } l else if k = 2 then rdAsk { rec0 with kind := k } l else if k = 3 then rdTell { rec0 with kind := k } l else if k = 4 then rdFore { rec0 with kind := k } l else rdMem { rec0 with kind := k } l
def fbKd (k : Int) (r : Rec) : Bool := if k = 1 then repF r else if k = 4 then foreF r else decide (0 < min r.node r.reg)
/-- The record of an item, or none. -/
noncomputable def readRec (t : It) : Option Rec := if t.k = 4 then (match t.l with | [] => none | x0 :: l => if x0.k = 1 ∧ 1 ≤ x0.n ∧ x0.n ≤ 5 then readO (rdKd x0.n l) (fbKd x0.n) else none) else none
theorem readAny_c {w : World} {t : It} {cs : List Value} (ht : ItC w t cs) (hnn : ∀ y ∈ t.l, 0 ≤ y.n) (hxn : ∀ x ∈ t.l, (numsOf x).length ≤ 1000000) : FN Tryz.prog 38 [.agg cs.toArray] w fun e w' => RcPost w w' (readRec t) e := by
  unfold readRec
  by_cases h4 : t.k = 4
  case neg => rw [if_neg h4]; exact read_k ht h4
  rw [if_pos h4]
  cases hl : t.l with
  | nil => exact read_up ht h4 hnn (by rw [hl]; rfl)
  | cons x0 l =>
    have hn0 : 0 ≤ x0.n := hnn x0 (by rw [hl]; simp)
    by_cases hc : x0.k = 1 ∧ 1 ≤ x0.n ∧ x0.n ≤ 5
    case neg =>
      simp only [if_neg hc]
      by_cases h1 : x0.k = 1 ∧ x0.n ≤ 5
      · refine read_0 ht h4 hl h1.1 ⟨hn0, h1.2⟩ hnn ?_
        have : x0.n = 0 := by
          have := h1.1
          by_cases h0 : 1 ≤ x0.n
          · exact absurd ⟨this, h0, h1.2⟩ hc
          · omega
        rw [this]; rfl
      · exact read_up ht h4 hnn (by rw [hl]; exact if_neg h1)
    simp only [if_pos hc]
    obtain ⟨h1, hk⟩ := hc
    have hcase : x0.n = 1 ∨ x0.n = 2 ∨ x0.n = 3 ∨ x0.n = 4 ∨ x0.n = 5 := by omega
    have hx : ∀ x ∈ l, (numsOf x).length ≤ 1000000 := fun x hx => hxn x (by rw [hl]; simp [hx])
    unfold rdKd fbKd
    rcases hcase with e | e | e | e | e
    · rw [if_pos e]
      refine readI_c (s := ⟨#[114, 101, 112, 111, 114, 116]⟩) (fl := 101) (fr := 104) (ff := 107) ht h4 hl h1 ⟨hn0, hk.2⟩ hnn (by rw [e]; rfl) (fun w0 w' b rb h hR hrb hne => rdRep_c h hR hrb hne hx) fun r rest _ => ?_
      rw [if_pos e]
      exact rep_fine r
    · rw [if_neg (by omega), if_pos e]
      refine readI_c (s := ⟨#[97, 115, 107]⟩) (fl := 58) (fr := 61) (ff := 64) ht h4 hl h1 ⟨hn0, hk.2⟩ hnn (by rw [e]; rfl) (fun w0 w' b rb h hR hrb hne => rdAsk_c h hR hrb hne) fun r rest _ => ?_
      rw [if_neg (by omega), if_neg (by omega)]
      exact there_c r
    · rw [if_neg (by omega), if_neg (by omega), if_pos e]
      refine readI_c (s := ⟨#[116, 101, 108, 108]⟩) (fl := 65) (fr := 67) (ff := 64) ht h4 hl h1 ⟨hn0, hk.2⟩ hnn (by rw [e]; rfl) (fun w0 w' b rb h hR hrb hne => rdTell_c h hR hrb hne) fun r rest _ => ?_
      rw [if_neg (by omega), if_neg (by omega)]
      exact there_c r
    · rw [if_neg (by omega), if_neg (by omega), if_neg (by omega), if_pos e]
      refine readI_c (s := ⟨#[102, 111, 114, 101]⟩) (fl := 70) (fr := 72) (ff := 74) ht h4 hl h1 ⟨hn0, hk.2⟩ hnn (by rw [e]; rfl) (fun w0 w' b rb h hR hrb hne => rdFore_c h hR hrb hne) fun r rest _ => ?_
      rw [if_neg (by omega), if_pos e]
      exact fore_fine r
    · rw [if_neg (by omega), if_neg (by omega), if_neg (by omega), if_neg (by omega)]
      refine readI_c (s := ⟨#[109, 101, 109, 98, 101, 114]⟩) (fl := 76) (fr := 77) (ff := 64) ht h4 hl h1 ⟨hn0, hk.2⟩ hnn (by rw [e]; rfl) (fun w0 w' b rb h hR hrb hne => rdMem_c h hR hrb hne) fun r rest _ => ?_
      rw [if_neg (by omega), if_neg (by omega)]
      exact there_c r
end Go.Proofs
namespace Go.Proofs
open Pk
set_option maxRecDepth 10000
attribute [local simp] beq_dec bne_dec
/-- No bytes, down to the leaves. -/
inductive NoB : It → Prop
  | mk (k n : Int) (s : ByteArray) (l : List It) (h : ∀ x ∈ l, NoB x) : NoB (.mk k n [] s l)
theorem str_nil (b : List Int) : decide (strOfNums b = strOfNums []) = decide (b = []) := by
  rw [decide_eq_decide]
  constructor
  · intro h
    have := congrArg ByteArray.size h
    rw [strOfNums_size, strOfNums_size] at this
    exact List.eq_nil_of_length_eq_zero this
  · rintro rfl; rfl
set_option maxHeartbeats 1000000 in
theorem csame_n : ∀ (m : Nat) (t u : It) (cs ds : List Value) (w : World), SizeOf.sizeOf t ≤ m → NoB u → ItC w t cs → ItC w u ds → FN Tryz.prog 45 [.agg cs.toArray, .agg ds.toArray] w fun e w' => e = .returned (.bool (decide (t = u))) ∧ Ext w w' := by
  intro m
  induction m with
  | zero => intro t u cs ds w hm; cases t; simp at hm
  | succ m ih =>
    intro t u cs ds w hm hnb ht hu
    obtain ⟨k, n, b, s, l⟩ := t
    obtain ⟨k', n', s', l', hnl⟩ := hnb
    obtain ⟨bv, lv, css, rfl, hb, hl, hc, hb1, hl1⟩ := itC_mk.1 ht
    obtain ⟨bv', lv', css', rfl, hb', hl', hc', hb1', hl1'⟩ := itC_mk.1 hu
    obtain ⟨⟨ba1, bm1, bc1, rfl⟩, ⟨la1, lm1, lc1, rfl⟩⟩ := itC_slices ht
    obtain ⟨⟨ba2, bm2, bc2, rfl⟩, ⟨la2, lm2, lc2, rfl⟩⟩ := itC_slices hu
    refine FN_enter Tryz.func45 rfl rfl (by kernel_rfl) ?_
    have len1 := fun ty W => hl.isLen (P := Tryz.prog) (t := 48) (by simp) ty W
    have len2 := fun ty W => hl'.isLen (P := Tryz.prog) (t := 48) (by simp) ty W
    have hE1 : Ext w ((w.alloc (.cells #[i64 k, u64 n, .slice ba1 bm1 bc1, .string s, .slice la1 lm1 lc1] 51)).alloc (.cells #[i64 k', u64 n', .slice ba2 bm2 bc2, .string s', .slice la2 lm2 lc2] 51)) := ((Ext.refl w).alloc _).alloc _
    have x1 : ItBx ((w.alloc (.cells #[i64 k, u64 n, .slice ba1 bm1 bc1, .string s, .slice la1 lm1 lc1] 51)).alloc (.cells #[i64 k', u64 n', .slice ba2 bm2 bc2, .string s', .slice la2 lm2 lc2] 51)) w.heap.size k n (.slice ba1 bm1 bc1) s (.slice la1 lm1 lc1) := (ItBx.new w _ _ _ _ _ 51).ext ((Ext.refl _).alloc _)
    have x2 : ItBx ((w.alloc (.cells #[i64 k, u64 n, .slice ba1 bm1 bc1, .string s, .slice la1 lm1 lc1] 51)).alloc (.cells #[i64 k', u64 n', .slice ba2 bm2 bc2, .string s', .slice la2 lm2 lc2] 51)) (w.heap.size + 1) k' n' (.slice ba2 bm2 bc2) s' (.slice la2 lm2 lc2) := by
      have := ItBx.new (w.alloc (.cells #[i64 k, u64 n, .slice ba1 bm1 bc1, .string s, .slice la1 lm1 lc1] 51)) k' n' (.slice ba2 bm2 bc2) s' (.slice la2 lm2 lc2) 51
      simpa using this
    rw [show decide (It.mk k n b s l = It.mk k' n' [] s' l') = decide (k = k' ∧ n = n' ∧ b = [] ∧ s = s' ∧ l = l') by simp]
    have cv1 := conv_b (hb.ext hE1)
    have cv2 := conv_b (hb'.ext hE1)
    by_cases hk : k = k'
    · subst hk
      by_cases hn : n = n'
      · subst hn
        by_cases hbb : b = []
        · subst hbb
          by_cases hss : s = s'
          · subst hss
            by_cases hll : l.length = l'.length
            · simp [cv1, cv2, len1, len2, hll]
              generalize ((w.alloc _).alloc _) = w1 at *
              refine WC_loop (fun k ρ ds w' => ∃ i : Nat, k = l.length - i ∧ i ≤ l.length ∧ ρ 2 = ptr w.heap.size ∧ ρ 3 = ptr (w.heap.size + 1) ∧ ρ 5 = i64 i ∧ ds = [] ∧ Ext w1 w' ∧ l.take i = l'.take i) l.length ⟨0, by simp, by simp, by simp, by simp, by simp, rfl, Ext.refl _, rfl⟩ ?_
              rintro j ρ ds w2 ⟨i, rfl, hi, e2, e3, e5, rfl, hE, htk⟩
              have q1 := x1.ext hE
              have q2 := x2.ext hE
              by_cases hlt : i < l.length
              · have hlt' : i < l'.length := by omega
                have hltz : (i : Int) < l'.length := by omega
                simp [e2, e5, q1.c4, len1, hll, hltz]
                refine WC_drawC 10 (.F 0 <| .F 1 <| .F 2 <| .F 3 <| .F 4 <| .F 5 <| .F 6 <| .F 7 <| .F 8 <| .F 9 <| .Z) (fun _ => false) rfl (by kernel_rfl) fun W hW => ?_
                have hWE : Ext w2 W := hW ▸ Ext.drew _
                have hEW := hE1.trans (hE.trans hWE)
                obtain ⟨k1, n1, b1, s1, v1, g1, y1, r1⟩ := itRow (hl.ext hEW) (hc.ext hEW) hlt
                obtain ⟨k2, n2, b2, s2, v2, g2, y2, r2⟩ := itRow (hl'.ext hEW) (hc'.ext hEW) hlt'
                have i1 := fun W => hl.index (P := Tryz.prog) (t := 48) (by simp) .i64 i (by omega) (by omega) W
                have i2 := fun W => hl'.index (P := Tryz.prog) (t := 48) (by simp) .i64 i (by omega) (by omega) W
                simp at i1 i2
                have s1' := q1.ext hWE
                have s2' := q2.ext hWE
                simp [e2, e3, e5, s1'.c4, s2'.c4, i1, i2, r1.c0, r1.c1, r1.c2, r1.c3, r1.c4, r2.c0, r2.c1, r2.c2, r2.c3, r2.c4]
                refine FN.mono (ih l[i] l'[i] _ _ W (by have := It.lt (List.getElem_mem hlt) k n [] s; omega) (hnl _ (List.getElem_mem hlt')) y1 y2) ?_
                rintro _ w5 ⟨rfl, hE5⟩
                have t1 : l.take (i + 1) = l.take i ++ [l[i]] := by rw [List.take_add_one, List.getElem?_eq_getElem hlt]; rfl
                have t2 : l'.take (i + 1) = l'.take i ++ [l'[i]] := by rw [List.take_add_one, List.getElem?_eq_getElem hlt']; rfl
                by_cases he : l[i] = l'[i]
                · simp [e2, e3, e5, he]
                  exact ⟨l'.length - (i + 1), by omega, i + 1, by omega, by omega, by rw [wrap64 _ (by omega) (by omega)]; rfl, hE.trans (hWE.trans hE5), by rw [t1, t2, htk, he]⟩
                · simp [he]
                  refine ⟨fun h => he ?_, hEW.trans hE5⟩
                  simp [h]
              · have : i = l.length := by omega
                subst this
                simp [e2, e5, q1.c4, len1, hll]
                rw [List.take_length, hll, List.take_length] at htk
                exact ⟨htk, hE1.trans hE⟩
            · have hl2 : ¬ ((l.length : Int) = (l'.length : Int)) := by omega
              have hn2 : ¬ l = l' := fun e => hll (by rw [e])
              simp [cv1, cv2, len1, len2, hl2, hn2]
              exact hE1
          · simp [cv1, cv2, hss]
            exact hE1
        · have hsn : ¬ strOfNums b = strOfNums [] := fun e => hbb (by have := str_nil b; simpa [e] using this)
          simp [cv1, cv2, hsn, hbb]
          exact hE1
      · simp [hn]
        exact hE1
    · simp [hk]
      exact hE1
theorem csame_c {w : World} {t u : It} {cs ds : List Value} (hn : NoB u) (ht : ItC w t cs) (hu : ItC w u ds) : FN Tryz.prog 45 [.agg cs.toArray, .agg ds.toArray] w fun e w' => e = .returned (.bool (decide (t = u))) ∧ Ext w w' := csame_n _ t u cs ds w (Nat.le_refl _) hn ht hu
end Go.Proofs
namespace Go.Proofs
open Pk
set_option maxRecDepth 10000
attribute [local simp] beq_dec bne_dec
def shB (t : It) (ks : List Int) : Prop := t.k = 4 ∧ t.l.map It.k = ks
instance (t : It) (ks : List Int) : Decidable (shB t ks) := by unfold shB; infer_instance
set_option maxHeartbeats 1000000 in
theorem shape_c {w : World} {t : It} {cs : List Value} {v : Value} {ks : List Int} (ht : ItC w t cs) (hv : SlB w 1 v ks.length (ks.map i64)) (hb : ks.length ≤ 1000) :
    FN Tryz.prog 43 [.agg cs.toArray, v] w fun e w' => e = .returned (.bool (decide (shB t ks))) ∧ Ext w w' := by
  obtain ⟨k, n, b, s, l⟩ := t
  obtain ⟨bv, lv, css, rfl, hbs, hl, hc, hb1, hl1⟩ := itC_mk.1 ht
  obtain ⟨⟨ba1, bm1, bc1, rfl⟩, ⟨la1, lm1, lc1, rfl⟩⟩ := itC_slices ht
  refine FN_enter Tryz.func43 rfl rfl (by kernel_rfl) ?_
  have len1 := fun ty W => hl.isLen (P := Tryz.prog) (t := 48) (by simp) ty W
  have len2 := fun ty W => hv.isLen (P := Tryz.prog) (t := 91) (by simp) ty W
  have hE1 : Ext w (w.alloc (.cells #[i64 k, u64 n, .slice ba1 bm1 bc1, .string s, .slice la1 lm1 lc1] 51)) := (Ext.refl w).alloc _
  have x1 : ItBx (w.alloc (.cells #[i64 k, u64 n, .slice ba1 bm1 bc1, .string s, .slice la1 lm1 lc1] 51)) w.heap.size k n (.slice ba1 bm1 bc1) s (.slice la1 lm1 lc1) := ItBx.new w _ _ _ _ _ 51
  by_cases hk : k = 4
  · subst hk
    by_cases hll : l.length = ks.length
    · simp [len1, len2, hll]
      generalize (w.alloc _) = w1 at *
      refine WC_loop (fun k ρ ds w' => ∃ i : Nat, k = ks.length - i ∧ i ≤ ks.length ∧ ρ 1 = v ∧ ρ 2 = ptr w.heap.size ∧ ρ 5 = i64 i ∧ ds = [] ∧ Ext w1 w' ∧ (l.map It.k).take i = ks.take i) ks.length ⟨0, by simp, by simp, by simp, by simp, by simp, rfl, Ext.refl _, rfl⟩ ?_
      rintro j ρ ds w2 ⟨i, rfl, hi, e1, e2, e5, rfl, hE, htk⟩
      have q1 := x1.ext hE
      by_cases hlt : i < ks.length
      · have hlt1 : i < l.length := by omega
        simp [e1, e5, len2, hlt]
        refine WC_drawC 11 (.F 0 <| .F 1 <| .F 2 <| .F 3 <| .F 4 <| .F 5 <| .F 6 <| .F 7 <| .F 8 <| .F 9 <| .F 10 <| .Z) (fun _ => false) rfl (by kernel_rfl) fun W hW => ?_
        have hWE : Ext w2 W := hW ▸ Ext.drew _
        have hEW := hE1.trans (hE.trans hWE)
        obtain ⟨k1, n1, b1, s1, v1, g1, y1, r1⟩ := itRow (hl.ext hEW) (hc.ext hEW) hlt1
        have hk1 : (l[i]).k = k1 := by
          obtain ⟨a1, a2, a3, a4, a5, a6, h6⟩ := itC_form y1
          simp at h6
          exact h6.1.symm
        have i1 := fun W => hl.index (P := Tryz.prog) (t := 48) (by simp) .i64 i (by omega) (by omega) W
        have i2 := fun W => (hv.ext hEW).index (P := Tryz.prog) (t := 91) (by simp) .i64 i (by omega) (by omega) W
        have c2 := (hv.ext hEW).at_ i (i64 ks[i]) (by simp [hlt])
        simp at i1 i2
        have s1' := q1.ext hWE
        have t1 : (l.map It.k).take (i + 1) = (l.map It.k).take i ++ [k1] := by rw [List.take_add_one, List.getElem?_map, List.getElem?_eq_getElem hlt1, Option.map_some, hk1]; rfl
        have t2 : ks.take (i + 1) = ks.take i ++ [ks[i]] := by rw [List.take_add_one, List.getElem?_eq_getElem hlt]; rfl
        by_cases he : k1 = ks[i]
        · simp [e1, e2, e5, s1'.c4, i1, i2, r1.c0, c2, he]
          exact ⟨ks.length - (i + 1), by omega, i + 1, by omega, by omega, by rw [wrap64 _ (by omega) (by omega)]; rfl, hE.trans hWE, by rw [t1, t2, htk, he]⟩
        · simp [e1, e2, e5, s1'.c4, i1, i2, r1.c0, c2, he]
          refine ⟨fun h => he ?_, hEW⟩
          rw [← hk1]
          have := h.2
          simp only [It.l] at this
          simp [← this]
      · have : i = ks.length := by omega
        subst this
        simp [e1, e5, len2]
        refine ⟨⟨rfl, ?_⟩, hE1.trans hE⟩
        rw [List.take_length, ← hll, ← List.length_map (f := It.k), List.take_length] at htk
        exact htk
    · have hl2 : ¬ ((l.length : Int) = (ks.length : Int)) := by omega
      have hn2 : ¬ shB (.mk 4 n b s l) ks := fun e => hll (by rw [← e.2, List.length_map]; rfl)
      simp [len1, len2, hl2, hn2]
      exact hE1
  · have hn2 : ¬ shB (.mk k n b s l) ks := fun e => hk e.1
    simp [hk, hn2]
    exact hE1
end Go.Proofs
namespace Go.Proofs
open Pk
set_option maxRecDepth 10000
attribute [local simp] beq_dec bne_dec
/-- Has an item no part that its Kind does not name? -/
def bareB (t : It) : Bool := (decide (t.k = 1) || (decide (t.k = 5) || decide (t.n = 0))) && ((decide (t.k = 2) || decide (t.b.length = 0)) && ((decide (t.k = 3) || decide (t.s = ⟨#[]⟩)) && (decide (t.k = 4) || decide (t.l.length = 0))))
set_option maxHeartbeats 4000000 in
theorem rbareI_c {w : World} {t : It} {cs : List Value} (ht : ItC w t cs) : FN Tryz.prog 88 [.agg cs.toArray] w fun e w' => e = .returned (.bool (bareB t)) ∧ Ext w w' := by
  obtain ⟨k, n, b, s, l⟩ := t
  obtain ⟨bv, lv, css, rfl, hbs, hl, hc, hb1, hl1⟩ := itC_mk.1 ht
  have len1 := fun ty W => hl.isLen (P := Tryz.prog) (t := 48) (by simp) ty W
  have len2 := fun ty W => hbs.isLen (P := Tryz.prog) (t := 31) (by simp) ty W
  obtain ⟨⟨ba1, bm1, bc1, rfl⟩, ⟨la1, lm1, lc1, rfl⟩⟩ := itC_slices ht
  refine FN_enter Tryz.func88 rfl rfl (by kernel_rfl) ?_
  have hE1 : Ext w (w.alloc (.cells #[i64 k, u64 n, .slice ba1 bm1 bc1, .string s, .slice la1 lm1 lc1] 51)) := (Ext.refl w).alloc _
  have x1 : ItBx (w.alloc (.cells #[i64 k, u64 n, .slice ba1 bm1 bc1, .string s, .slice la1 lm1 lc1] 51)) w.heap.size k n (.slice ba1 bm1 bc1) s (.slice la1 lm1 lc1) := ItBx.new w _ _ _ _ _ 51
  simp
  generalize (w.alloc (.cells #[i64 k, u64 n, .slice ba1 bm1 bc1, .string s, .slice la1 lm1 lc1] 51)) = w1 at *
  have e0 : bareB (.mk k n b s l) = ((decide (k = 1) || (decide (k = 5) || decide (n = 0))) && ((decide (k = 2) || decide (b.length = 0)) && ((decide (k = 3) || decide (s = ⟨#[]⟩)) && (decide (k = 4) || decide (l.length = 0))))) := rfl
  rw [e0]
  have hse : s.toList.isEmpty = decide (s = ⟨#[]⟩) := by
    obtain ⟨⟨d⟩⟩ := s
    rw [ByteArray.toList_eq]
    cases d <;> simp
  have hcase : k = 1 ∨ k = 5 ∨ k = 2 ∨ k = 3 ∨ k = 4 ∨ (¬ k = 1 ∧ ¬ k = 2 ∧ ¬ k = 3 ∧ ¬ k = 4 ∧ ¬ k = 5) := by omega
  rcases hcase with rfl | rfl | rfl | rfl | rfl | ⟨g1, g2, g3, g4, g5⟩
  · by_cases hb : b.length = 0
    · by_cases hs : s = ⟨#[]⟩
      · by_cases hl : l.length = 0
        · simp [hb, hs, hl, x1.c2, x1.c3, x1.c4, len1, len2]
          exact hE1
        · simp [hb, hs, hl, x1.c2, x1.c3, x1.c4, len1, len2]
          exact hE1
      · simp [hb, hs, hse, x1.c2, x1.c3, len2]
        exact hE1
    · simp [hb, x1.c2, len2]
      exact hE1
  · by_cases hb : b.length = 0
    · by_cases hs : s = ⟨#[]⟩
      · by_cases hl : l.length = 0
        · simp [hb, hs, hl, x1.c2, x1.c3, x1.c4, len1, len2]
          exact hE1
        · simp [hb, hs, hl, x1.c2, x1.c3, x1.c4, len1, len2]
          exact hE1
      · simp [hb, hs, hse, x1.c2, x1.c3, len2]
        exact hE1
    · simp [hb, x1.c2, len2]
      exact hE1
  · by_cases hn : n = 0
    · by_cases hs : s = ⟨#[]⟩
      · by_cases hl : l.length = 0
        · simp [hn, hs, hl, x1.c1, x1.c3, x1.c4, len1]
          exact hE1
        · simp [hn, hs, hl, x1.c1, x1.c3, x1.c4, len1]
          exact hE1
      · simp [hn, hs, hse, x1.c1, x1.c3]
        exact hE1
    · simp [hn, x1.c1]
      exact hE1
  · by_cases hn : n = 0
    · by_cases hb : b.length = 0
      · by_cases hl : l.length = 0
        · simp [hn, hb, hl, x1.c1, x1.c2, x1.c4, len1, len2]
          exact hE1
        · simp [hn, hb, hl, x1.c1, x1.c2, x1.c4, len1, len2]
          exact hE1
      · simp [hn, hb, x1.c1, x1.c2, len2]
        exact hE1
    · simp [hn, x1.c1]
      exact hE1
  · by_cases hn : n = 0
    · by_cases hb : b.length = 0
      · by_cases hs : s = ⟨#[]⟩
        · simp [hn, hb, hs, x1.c1, x1.c2, x1.c3, len2]
          exact hE1
        · simp [hn, hb, hs, hse, x1.c1, x1.c2, x1.c3, len2]
          exact hE1
      · simp [hn, hb, x1.c1, x1.c2, len2]
        exact hE1
    · simp [hn, x1.c1]
      exact hE1
  · by_cases hn : n = 0
    · by_cases hb : b.length = 0
      · by_cases hs : s = ⟨#[]⟩
        · by_cases hl : l.length = 0
          · simp [g1, g2, g3, g4, g5, hn, hb, hs, hl, x1.c1, x1.c2, x1.c3, x1.c4, len1, len2]
            exact hE1
          · simp [g1, g2, g3, g4, g5, hn, hb, hs, hl, x1.c1, x1.c2, x1.c3, x1.c4, len1, len2]
            exact hE1
        · simp [g1, g2, g3, g4, g5, hn, hb, hs, hse, x1.c1, x1.c2, x1.c3, len2]
          exact hE1
      · simp [g1, g2, g3, g4, g5, hn, hb, x1.c1, x1.c2, len2]
        exact hE1
    · simp [g1, g2, g3, g4, g5, hn, x1.c1]
      exact hE1
end Go.Proofs
