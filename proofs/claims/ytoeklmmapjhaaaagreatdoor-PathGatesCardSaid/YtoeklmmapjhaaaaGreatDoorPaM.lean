/-
  Contracts of the functions that the law reaches, step by step.
-/
import Derived.Test.YtoeklmmapjhaaaaGreatDoorPaK
namespace Go.Proofs
open Pk
set_option maxRecDepth 10000
theorem num_c (a : Int) (w : World) : FN Tryz.prog 15 [i64 a] w fun e w' => e = .returned (i64 a) ∧ w' = w := by
  refine FN_enter Tryz.func15 rfl rfl (by kernel_rfl) ?_
  simp
theorem clist_c (a : Option Addr) (n c : Nat) (w : World) : FN Tryz.prog 13 [.slice a n c] w fun e w' => e = .returned (.agg #[i64 4, u64 0, .slice none 0 0, .string ⟨#[]⟩, .slice a n c]) ∧ Ext w w' := by
  refine FN_enter Tryz.func13 rfl rfl (by kernel_rfl) ?_
  simp
  exact (Ext.refl w).alloc _
theorem cuint_c (n : Int) (w : World) : FN Tryz.prog 14 [u64 n] w fun e w' => e = .returned (.agg #[i64 1, u64 n, .slice none 0 0, .string ⟨#[]⟩, .slice none 0 0]) ∧ Ext w w' := by
  refine FN_enter Tryz.func14 rfl rfl (by kernel_rfl) ?_
  simp
  exact (Ext.refl w).alloc _
abbrev cUp : Cr := (5, true)
abbrev cDn : Cr := (5, false)
theorem wk1 : withE [] cUp = 0 := by decide
theorem wk2 : withE [cUp] cUp = 150 := by decide
theorem wk3 : withE [cUp] cDn = 0 := by decide
theorem wk4 : withE [] (0, true) = 2 := by decide
theorem wk5 : rightP [cUp] = true := by decide
theorem wkW : Wr (ptI true [cUp]) [130, 245, 130, 5, 245] := by
  have h2 : Wr (crI cUp) [130, 5, 245] := Wr.list [uintI 5, boolI true] [[5], [245]] (by decide) rfl (by decide) fun i x b hx hb => by
    match i, hx, hb with
    | 0, hx, hb => simp at hx hb; subst hx; subst hb; exact .uint 5 (by decide) (by decide)
    | 1, hx, hb => simp at hx hb; subst hx; subst hb; exact .bool 1 (by decide) (by decide)
    | i + 2, hx, _ => simp at hx
  exact Wr.list [boolI true, crI cUp] [[245], [130, 5, 245]] (by decide) rfl (by decide) fun i x b hx hb => by
    match i, hx, hb with
    | 0, hx, hb => simp at hx hb; subst hx; subst hb; exact .bool 1 (by decide) (by decide)
    | 1, hx, hb => simp at hx hb; subst hx; subst hb; exact h2
    | i + 2, hx, _ => simp at hx
theorem wkF : Fine (ptI true [cUp]) := by
  refine .list _ fun x hx => ?_
  simp at hx
  rcases hx with rfl | rfl
  · exact .bool 1 (by decide)
  · refine .list _ fun x hx => ?_
    simp at hx
    rcases hx with rfl | rfl
    · exact .uint 5
    · exact .bool 1 (by decide)
theorem wkD : DepLe 8 (ptI true [cUp]) := by
  refine ⟨fun x hx => ?_, by decide⟩
  simp [ptI, listI, It.l] at hx
  rcases hx with rfl | rfl
  · exact ⟨fun x hx => by simp [boolI, It.l] at hx, by decide⟩
  · refine ⟨fun x hx => ?_, by decide⟩
    simp [crI, listI, It.l] at hx
    rcases hx with rfl | rfl
    · exact ⟨fun x hx => by simp [uintI, It.l] at hx, by decide⟩
    · exact ⟨fun x hx => by simp [boolI, It.l] at hx, by decide⟩
theorem wkO : ofD (listI [uintI 1]) = false := by
  unfold ofD
  rw [decide_eq_false_iff_not]
  rintro ⟨-, -, h⟩
  simp [ofB, ofL, ptI, listI, It.l, uintI, boolI] at h
set_option maxHeartbeats 4000000 in
theorem works_c (w : World) : FN Tryz.prog 4 [] w fun e w' => e = .returned (.bool true) ∧ Ext w w' := by
  refine FN_enter Tryz.func4 rfl rfl (by kernel_rfl) ?_
  simp
  have hE1 : Ext w ((w.alloc (.cells #[u32 5, .bool true] 37)).alloc (.cells #[u32 5, .bool false] 37)) := ((Ext.refl w).alloc _).alloc _
  have u1 : CrBx ((w.alloc (.cells #[u32 5, .bool true] 37)).alloc (.cells #[u32 5, .bool false] 37)) w.heap.size cUp := (CrBx.new w cUp 37).ext ((Ext.refl _).alloc _)
  have u2 : CrBx ((w.alloc (.cells #[u32 5, .bool true] 37)).alloc (.cells #[u32 5, .bool false] 37)) (w.heap.size + 1) cDn := by
    have := CrBx.new (w.alloc (.cells #[u32 5, .bool true] 37)) cDn 37
    simpa using this
  have z1 : ((w.alloc (.cells #[u32 5, .bool true] 37)).alloc (.cells #[u32 5, .bool false] 37)).heap.size = w.heap.size + 1 + 1 := by simp
  generalize ((w.alloc (.cells #[u32 5, .bool true] 37)).alloc (.cells #[u32 5, .bool false] 37)) = w1 at *
  refine FN.mono (with_c (l := []) (SlB.nil w1 2 0) false cUp (by simp)) ?_
  rintro _ w2 ⟨v2, rfl, hE2, -, h2⟩
  obtain ⟨hv2, g2, cap2, cur2, rfl, hg2, ho2⟩ := h2 wk1
  simp only [wk1]
  have u12 := u1.ext hE2
  have hE3 : Ext w2 (w2.alloc (.cells #[.bool false, .slice (some ⟨g2, 0, none⟩) 1 cap2] 24)) := (Ext.refl w2).alloc _
  have p3 : PtAt (w2.alloc (.cells #[.bool false, .slice (some ⟨g2, 0, none⟩) 1 cap2] 24)) w2.heap.size false (.slice (some ⟨g2, 0, none⟩) 1 cap2) := PtAt.new w2 _ _ _
  have z3 : (w2.alloc (.cells #[.bool false, .slice (some ⟨g2, 0, none⟩) 1 cap2] 24)).heap.size = w2.heap.size + 1 := by simp
  simp [u12.c0, u12.c1]
  simp at hv2
  obtain ⟨b3, hb3⟩ : ∃ b3, b3 = w2.heap.size := ⟨_, rfl⟩
  rw [← hb3] at p3 z3 ⊢
  generalize (w2.alloc (.cells #[.bool false, .slice (some ⟨g2, 0, none⟩) 1 cap2] 24)) = w3 at *
  have hE03 := hE1.trans (hE2.trans hE3)
  refine FN.mono (with_c (l := [cUp]) (hv2.ext hE3) false cUp (by simp)) ?_
  rintro _ w4 ⟨v4, rfl, hE4, h4, -⟩
  have h4 := h4 (by rw [wk2]; decide)
  subst h4
  simp only [wk2]
  have p4 := p3.ext hE4
  have u24 := u2.ext (hE2.trans (hE3.trans hE4))
  simp [p4.c0, p4.c1, u24.c0, u24.c1]
  have hE5 : Ext w4 (w4.alloc (.cells #[.bool false, .slice none 0 0] 24)) := (Ext.refl w4).alloc _
  generalize (w4.alloc (.cells #[.bool false, .slice none 0 0] 24)) = w5 at *
  have hE35 := hE4.trans hE5
  refine FN.mono (with_c (l := [cUp]) (hv2.ext (hE3.trans hE35)) false cDn (by simp)) ?_
  rintro _ w6 ⟨v6, rfl, hE6, -, h6⟩
  obtain ⟨hv6, g6, cap6, cur6, rfl, hg6, ho6⟩ := h6 wk3
  simp only [wk3]
  have hE7 : Ext w6 (w6.alloc (.cells #[.bool false, .slice (some ⟨g6, 0, none⟩) 2 cap6] 24)) := (Ext.refl w6).alloc _
  have p7 : PtAt (w6.alloc (.cells #[.bool false, .slice (some ⟨g6, 0, none⟩) 2 cap6] 24)) w6.heap.size false (.slice (some ⟨g6, 0, none⟩) 2 cap6) := PtAt.new w6 _ _ _
  simp
  simp at hv6
  obtain ⟨b7, hb7⟩ : ∃ b7, b7 = w6.heap.size := ⟨_, rfl⟩
  rw [← hb7] at p7 ⊢
  generalize (w6.alloc (.cells #[.bool false, .slice (some ⟨g6, 0, none⟩) 2 cap6] 24)) = w7 at *
  have hE37 := hE35.trans (hE6.trans hE7)
  refine FN.mono (with_c (l := []) (SlB.nil w7 2 0) false (0, true) (by simp)) ?_
  rintro _ w8 ⟨v8, rfl, hE8, h8, -⟩
  have h8 := h8 (by rw [wk4]; decide)
  subst h8
  simp only [wk4]
  have p8 := p3.ext (hE37.trans hE8)
  simp [p8.c0, p8.c1, p8.f0, cell_setCell]
  have hg23 : g2 ≠ b3 := fun e => by have := hv2.lt (by simp); simp [slB] at this; omega
  have hE8' : Ext w (w8.alloc (.cells #[.bool false, .slice none 0 0] 24)) := ((hE03.trans hE37).trans hE8).alloc _
  have hM8 : Mod (· = b3) w8 ((w8.alloc (.cells #[.bool false, .slice none 0 0] 24)).setCell ⟨b3, 0, none⟩ (.bool true)) := (((Ext.refl w8).alloc _).mod).setCell _ _ (.inl rfl)
  have hw3 : w.heap.size ≤ b3 := by
    have := hE1.size; have := hE2.size; omega
  have hE9 : Ext w ((w8.alloc (.cells #[.bool false, .slice none 0 0] 24)).setCell ⟨b3, 0, none⟩ (.bool true)) := hE8'.setCell _ _ hw3
  have hv9 := ((hv2.ext (hE3.trans (hE37.trans hE8))).mod hM8 fun _ => by simpa [slB] using hg23)
  have u1' := u1.ext (hE2.trans (hE3.trans (hE37.trans hE8)))
  have u2' := u2.ext (hE2.trans (hE3.trans (hE37.trans hE8)))
  have hz3 : w.heap.size + 1 < b3 := by
    have := hE2.size; omega
  have hb7' : b7 ≠ b3 := by have := p3.lt; have := hE35.size; have := hE6.size; omega
  have p7' := (p7.ext hE8).mod hM8 hb7'
  have hv6' := ((hv6.ext (hE7.trans hE8)).mod hM8 fun _ => by
    have := p3.lt; have := hE35.size
    simp [slB] at hg6 ⊢; omega)
  have k1 : CrBx ((w8.alloc (.cells #[.bool false, .slice none 0 0] 24)).setCell ⟨b3, 0, none⟩ (.bool true)) w.heap.size cUp := ⟨hM8.cell u1'.c0 (by show ¬ w.heap.size = b3; omega), hM8.cell u1'.c1 (by show ¬ w.heap.size = b3; omega)⟩
  have k2 : CrBx ((w8.alloc (.cells #[.bool false, .slice none 0 0] 24)).setCell ⟨b3, 0, none⟩ (.bool true)) (w.heap.size + 1) cDn := ⟨hM8.cell u2'.c0 (by show ¬ w.heap.size + 1 = b3; omega), hM8.cell u2'.c1 (by show ¬ w.heap.size + 1 = b3; omega)⟩
  generalize ((w8.alloc (.cells #[.bool false, .slice none 0 0] 24)).setCell ⟨b3, 0, none⟩ (.bool true)) = w9 at *
  refine FN.mono (item_c (l := [cUp]) hv9 true (by simp) (by simp)) ?_
  rintro _ w10 ⟨cs, rfl, hit, hE10⟩
  rw [if_pos wk5] at hit ⊢
  have hit' := hit.any
  obtain ⟨a10, m10, c10, a10', m10', c10', rfl⟩ := itC_form hit'
  simp
  have hE11 : Ext w10 (w10.alloc (.cells #[i64 (ptI true [cUp]).k, u64 (ptI true [cUp]).n, .slice a10 m10 c10, .string (ptI true [cUp]).s, .slice a10' m10' c10'] 46)) := (Ext.refl w10).alloc _
  have x11 := ItBx.new w10 (ptI true [cUp]).k (ptI true [cUp]).n (.slice a10 m10 c10) (ptI true [cUp]).s (.slice a10' m10' c10') 46
  generalize (w10.alloc (.cells #[i64 (ptI true [cUp]).k, u64 (ptI true [cUp]).n, .slice a10 m10 c10, .string (ptI true [cUp]).s, .slice a10' m10' c10'] 46)) = w11 at *
  refine FN.mono (encode_c wkF wkD wkW (by decide) (hit'.ext hE11)) ?_
  rintro _ w12 ⟨vs, rfl, hvs, hE12⟩
  obtain ⟨sa, sc, hvs', -, hsa⟩ := hvs.toB.val
  obtain ⟨sb, so, rfl⟩ := hsa (by decide)
  subst hvs'
  simp
  refine FN.mono (cuint_c 1 w12) ?_
  rintro _ w13 ⟨rfl, hE13⟩
  simp
  have hE14 : Ext w13 (w13.alloc (.cells #[i64 1, u64 1, .slice none 0 0, .string ⟨#[]⟩, .slice none 0 0] 46)) := (Ext.refl w13).alloc _
  have r14 : SlB (w13.alloc (.cells #[i64 1, u64 1, .slice none 0 0, .string ⟨#[]⟩, .slice none 0 0] 46)) 5 (.slice (some ⟨w13.heap.size, 0, none⟩) 1 1) 1 [i64 1, u64 1, .slice none 0 0, .string ⟨#[]⟩, .slice none 0 0] := (Sl.made w13 [i64 1, u64 1, .slice none 0 0, .string ⟨#[]⟩, .slice none 0 0] 46 5 1 rfl).toB
  generalize (w13.alloc (.cells #[i64 1, u64 1, .slice none 0 0, .string ⟨#[]⟩, .slice none 0 0] 46)) = w14 at *
  refine FN.mono (clist_c (some ⟨w13.heap.size, 0, none⟩) 1 1 w14) ?_
  rintro _ w15 ⟨rfl, hE15⟩
  have r15 : ItC w15 (listI [uintI 1]) [i64 4, u64 0, .slice none 0 0, .string ⟨#[]⟩, .slice (some ⟨w13.heap.size, 0, none⟩) 1 1] :=
    list_it (l := [uintI 1]) (css := [[i64 1, u64 1, .slice none 0 0, .string ⟨#[]⟩, .slice none 0 0]]) (r14.ext hE15) (itPs_nil.cons (leaf_it 1 1)) (fun _ => trivial) (by simp)
  simp
  refine FN.mono (of_c r15 (by simp [listI, It.l])) ?_
  rintro _ w16 ⟨ve, rfl, hE16, r16⟩
  rw [wkO] at r16 ⊢
  obtain ⟨ea, ec, rfl⟩ := r16.isSlice
  simp
  have hE17 : Ext w16 (w16.alloc (.cells #[.bool false, .slice ea 0 ec] 24)) := (Ext.refl w16).alloc _
  generalize (w16.alloc (.cells #[.bool false, .slice ea 0 ec] 24)) = w17 at *
  have hE9f := hE10.trans (hE11.trans (hE12.trans (hE13.trans (hE14.trans (hE15.trans (hE16.trans hE17))))))
  have hE12f := hE13.trans (hE14.trans (hE15.trans (hE16.trans hE17)))
  have pf := p7'.ext hE9f
  have vf := hv6'.ext hE9f
  have kf1 := k1.ext hE9f
  have kf2 := k2.ext hE9f
  have sf := hvs.ext hE12f
  have hEf := hE9.trans hE9f
  refine FN.mono (num_c 0 w17) ?_
  rintro _ wn ⟨rfl, hwn⟩
  subst hwn
  simp
  refine FN.mono (num_c 0 wn) ?_
  rintro _ wn1 ⟨rfl, hwn⟩
  subst hwn
  simp
  refine FN.mono (num_c 0 wn1) ?_
  rintro _ wn2 ⟨rfl, hwn⟩
  subst hwn
  simp
  refine FN.mono (num_c 0 wn2) ?_
  rintro _ wn3 ⟨rfl, hwn⟩
  subst hwn
  simp [show IntKind.i64.wrap 0 = 0 from by decide]
  refine FN.mono (num_c 150 wn3) ?_
  rintro _ wn4 ⟨rfl, hwn⟩
  subst hwn
  simp
  simp [pf.c0, pf.c1, kf1.c0, kf1.c1, kf2.c0, kf2.c1]
  have hE18 : Ext wn4 (wn4.alloc (.cells #[u32 5, .bool true, u32 5, .bool false] 37)) := (Ext.refl wn4).alloc _
  have r18 : CSl (wn4.alloc (.cells #[u32 5, .bool true, u32 5, .bool false] 37)) (.slice (some ⟨wn4.heap.size, 0, none⟩) 2 2) [cUp, cDn] := (Sl.made wn4 [u32 5, .bool true, u32 5, .bool false] 37 2 2 rfl).toB
  generalize (wn4.alloc (.cells #[u32 5, .bool true, u32 5, .bool false] 37)) = w18 at *
  refine FN.mono (rsame_c (l1 := [cUp, cDn]) (l2 := [cUp, cDn]) false false (vf.ext hE18) r18 (by simp)) ?_
  rintro _ w19 ⟨rfl, hE19⟩
  simp
  refine FN.mono (num_c 2 w19) ?_
  rintro _ wn5 ⟨rfl, hwn⟩
  subst hwn
  simp
  have hcv : (convert 43 9 (.slice (some ⟨sb, so, none⟩) 5 sc)).run Tryz.prog wn5 = .ok (.string (strOfNums [130, 245, 130, 5, 245])) wn5 := by
    refine run_convert_bytes_arg _ 43 5 (by simp) (by simp) sb so 5 sc [130, 245, 130, 5, 245] rfl ?_ 9 (by simp)
    intro i hi
    refine (sf.ext (hE18.trans hE19)).at_ i _ ?_
    match i, hi with
    | 0, _ => rfl
    | 1, _ => rfl
    | 2, _ => rfl
    | 3, _ => rfl
    | 4, _ => rfl
  simp [hcv]
  rw [show ((strOfNums [130, 245, 130, 5, 245]).toList == [130, 245, 130, 5, 245]) = true from by rw [ByteArray.toList_eq]; decide]
  simp
  refine FN.mono (num_c 152 wn5) ?_
  rintro _ wn6 ⟨rfl, hwn⟩
  subst hwn
  simp
  exact hEf.trans (hE18.trans hE19)
end Go.Proofs
