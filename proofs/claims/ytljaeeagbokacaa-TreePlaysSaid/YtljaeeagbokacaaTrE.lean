/-
  Contracts of the functions that the law reaches, step by step.
-/
import Derived.Test.YtljaeeagbokacaaTrD
namespace Go.Proofs
open Pk
set_option maxRecDepth 10000
/-- What Next answers. -/
def nextE (l l' : List Int) (x y : Int) : Int := if wayE l l' x y = 0 ∧ x = y then 2 else wayE l l' x y
theorem next_c {w : World} {t r : Nat} {m : ML} {x y : Int} {l l' : List Int} (ht : TreeAt w t r m) (hl : Lin m x l) (hl' : Lin m y l') (hlen : m.length ≤ 1000) (hws : nextE l l' x y = 0 → 1 < ((wayL l l').getD []).length) :
    FN Try.prog 12 [ptr t, u32 x, u32 y] w fun e w' => e = .returned (.tuple #[u32 (if nextE l l' x y = 0 then ((wayL l l').getD []).getD 1 0 else 0), .bool (if nextE l l' x y = 0 then decide ((mget m x).getD 0 = ((wayL l l').getD []).getD 1 0) else false), .int .i64 (nextE l l' x y)]) ∧ Ext w w' := by
  refine FN_enter Try.func12 rfl rfl (by kernel_rfl) ?_
  simp
  refine FN.mono (Way_c ht hl hl' hlen) ?_
  rintro _ w2 ⟨v, rfl, hE, hs⟩
  simp
  by_cases h0 : wayE l l' x y = 0
  · by_cases hxy : x = y
    · subst hxy
      have hn : nextE l l' x x = 2 := by unfold nextE; rw [if_pos ⟨h0, rfl⟩]
      simp [h0, hn, hE]
    · have hn : nextE l l' x y = 0 := by simp [nextE, h0, hxy]
      have hb : (x == y) = false := by simpa using hxy
      have h1 := hws hn
      simp [h0, hb, hn]
      rw [if_pos h0] at hs
      generalize (wayL l l').getD [] = ws at *
      obtain ⟨z, hz⟩ : ∃ z, z = ws.getD 1 0 := ⟨_, rfl⟩
      have hz' : ws[1]?.getD 0 = z := by rw [hz]; simp
      rw [hz']
      have i1 := fun W => hs.index (P := Try.prog) (t := 30) (by simp) .i64 1 (by omega) (by omega) W
      refine WC_drawK 16 [[], [0], [0, 1], [], [3], [3, 4], [3, 4, 5], [], [3, 4, 5, 6, 7], [], [9], [9, 10], [3, 4, 5, 6, 7, 8, 9, 10, 11], [], [0, 1, 2, 3, 4, 5, 6, 7, 8], [0, 1, 2, 3, 4, 5, 6, 7, 8, 9, 10, 11, 12, 14]]
        [fun u _ => u = v, fun u _ => u = .pointer (some (adr v 1)), fun u _ => u = u32 z, fun u _ => u = ptr t, fun u _ => u = ptr t, fun u _ => u = ptr t, fun u _ => u = .map (some r), fun u _ => u = u32 x, fun u _ => u = u32 ((mget m x).getD 0),
         fun u _ => u = v, fun u _ => u = .pointer (some (adr v 1)), fun u _ => u = u32 z, fun u _ => u = .bool (decide ((mget m x).getD 0 = z)), fun u _ => u = .int .i64 0, fun u _ => u = u32 z, fun u _ => u = .bool (decide ((mget m x).getD 0 = z))] Ext rfl (by kernel_rfl) rfl (w0 := w2) (Ext.drew w2) Ext.refl (fun _ _ _ h k => h.trans k) ?_ ?_
      · intro A hA v a b hv hE
        simp only [List.mem_cons, List.mem_nil_iff, or_false] at hA
        rcases hA with rfl | rfl | rfl | rfl | rfl | rfl | rfl | rfl | rfl | rfl | rfl | rfl | rfl | rfl | rfl | rfl <;> exact hv
      refine VA_mk (fun W hE' hp => ?_) fun z0 => VA_mk (fun W hE' hp => ?_) fun z1 => VA_mk (fun W hE' hp => ?_) fun z2 => VA_mk (fun W hE' hp => ?_) fun z3 => VA_mk (fun W hE' hp => ?_) fun z4 => VA_mk (fun W hE' hp => ?_) fun z5 => VA_mk (fun W hE' hp => ?_) fun z6 =>
        VA_mk (fun W hE' hp => ?_) fun z7 => VA_mk (fun W hE' hp => ?_) fun z8 => VA_mk (fun W hE' hp => ?_) fun z9 => VA_mk (fun W hE' hp => ?_) fun z10 => VA_mk (fun W hE' hp => ?_) fun z11 => VA_mk (fun W hE' hp => ?_) fun z12 => VA_mk (fun W hE' hp => ?_) fun z13 => VA_mk (fun W hE' hp => ?_) fun z14 =>
        VA_mk (fun W hE' hp => ?_) fun z15 => VA_fin fun W hE' hp => ?_
      all_goals simp at hp
      · simp [Ext.refl]
      · simp [hp, i1, adr, Ext.refl]
      · have c1 := (hs.ext hE').at_ 1 (u32 z) (by rw [List.getElem?_map, List.getElem?_eq_getElem h1, hz, List.getD_eq_getElem?_getD, List.getElem?_eq_getElem h1]; rfl)
        simp [hp, adr, c1, Ext.refl]
      · simp [Ext.refl]
      · simp [hp, Ext.refl]
      · simp [hp, Ext.refl]
      · simp [hp, ((ht.ext hE).ext hE').cell, Ext.refl]
      · simp [Ext.refl]
      · obtain ⟨-, -, -, rfl, rfl⟩ := hp
        simp
        refine FN.mono (of_c ((ht.ext hE).ext hE').map x) ?_
        rintro _ _ ⟨rfl, rfl⟩
        simp [Ext.refl]
      · simp [Ext.refl]
      · simp [hp, i1, adr, Ext.refl]
      · have c1 := (hs.ext hE').at_ 1 (u32 z) (by rw [List.getElem?_map, List.getElem?_eq_getElem h1, hz, List.getD_eq_getElem?_getD, List.getElem?_eq_getElem h1]; rfl)
        simp [hp, adr, c1, Ext.refl]
      · simp [hp, Ext.refl]
        rfl
      · simp [Ext.refl]
      · simp [hp, Ext.refl]
      · simp [hp, Ext.refl]
      · simp [hp, hn]
        exact hE.trans hE'
  · have hn : nextE l l' x y = wayE l l' x y := by simp [nextE, h0]
    have hb : (wayE l l' x y == 0) = false := by simpa using h0
    have hb' : (wayE l l' x y != 0) = true := by simpa using h0
    simp [hb, hb', hn, h0, hE]
theorem depth_c {w : World} {t r : Nat} {m : ML} {x : Int} {l : List Int} (ht : TreeAt w t r m) (hl : Lin m x l) (hlen : m.length ≤ 1000) :
    FN Try.prog 15 [ptr t, u32 x] w fun e w' => e = .returned (.int .i64 ((l.length - 1 : Nat) : Int)) ∧ Ext w w' := by
  refine FN_enter Try.func15 rfl rfl (by kernel_rfl) ?_
  simp
  have v1 := Var.new w (.int .i64 (-1)) 3
  have he := (Ext.refl w).alloc (.cells #[.int .i64 (-1)] 3)
  have hsz : (w.alloc (.cells #[.int .i64 (-1)] 3)).heap.size = w.heap.size + 1 := by simp
  generalize (w.alloc (.cells #[.int .i64 (-1)] 3)) = w1 at *
  refine FN.mono (line_c (ht.ext he) x) ?_
  rintro _ w2 ⟨b1, b2, r', rfl, hE, h2, h3, h4, g1, g2, g3⟩
  simp
  have v2 := v1.ext hE
  have hit := line_it h2 h3 h4 hl
  have hlb := hl.bound
  refine WC_rangeFunc (gf := 54) (first := #[]) (caps := #[ptr b1, ptr b2]) (enc := fun x => [u32 x]) rfl (fun _ _ => callFunc_enter Try.func54 rfl rfl _ _) hit (by simp) (fun k => k = w.heap.size)
    (fun C pre W => Var W w.heap.size (.int .i64 ((pre.length : Int) - 1)) ∧ (∀ k, C k ↔ k = w.heap.size) ∧ Ext w W) (fun _ _ _ _ => False)
    (fun k hk => ⟨?_, ?_⟩) (fun k hk => by have := hE.size; omega) ?_ (fun _ _ _ _ _ h _ => h.elim) ⟨by simpa using v2, fun _ => Iff.rfl, he.trans hE⟩ ?ρ ?ha ?_ ?_ (fun _ _ _ _ _ h _ => h.elim)
  case ha =>
    intro l x W
    simp
    exact rfl
  · rcases hk with rfl | rfl | rfl
    · exact h2.lt
    · exact h3.lt
    · exact h4.lt
  · rcases hk with rfl | rfl | rfl <;> omega
  · rintro C pre W W' ⟨h1, h5, h6⟩ hag
    refine ⟨h1.agr hag (.inr ((h5 _).2 rfl)), h5, ?_⟩
    exact ⟨hag.os.trans h6.os, hag.tape.trans h6.tape, hag.out.trans h6.out, Nat.le_trans h6.size hag.size, fun i hi => (hag.blk i (Nat.lt_of_lt_of_le hi h6.size) (.inl (by have := hE.size; omega))).trans (h6.blk i hi)⟩
  · rintro k C pre z W hsp ⟨h1, h5, h6⟩ - - -
    simp [h1.cell, h1.thaw]
    obtain ⟨_, suf, hsuf⟩ := hsp
    have hpl : pre.length ≤ 1001 := by
      have := congrArg List.length hsuf
      simp only [List.length_append, List.length_singleton] at this
      omega
    rw [wrap64 _ (by omega) (by omega)]
    refine ⟨fun k => k = w.heap.size, ⟨?_, fun _ => Iff.rfl, h6.setCell _ _ (Nat.le_refl _)⟩, ?_, ?_⟩
    · have := h1.set (.int .i64 (pre.length : Int))
      simpa using this
    · exact (Mod.setCell (Mod.refl _ W) _ _ (.inl ((h5 _).2 rfl)))
    · exact fun k hk => .inl ((h5 k).2 hk)
  · rintro C xs W rfl ⟨h1, h5, h6⟩ hD
    simp [h1.cell]
    refine LV_mark hD (by simp) ?_
    simp
    refine ⟨?_, h6.putObj _ _ (by have := hE.size; omega)⟩
    omega
end Go.Proofs
