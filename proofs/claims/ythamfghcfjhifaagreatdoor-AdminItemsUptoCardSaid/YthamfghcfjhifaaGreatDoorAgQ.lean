/-
  Contracts of the functions that the law reaches, step by step.
-/
import Derived.Test.YthamfghcfjhifaaGreatDoorAgP
import Derived.Test.YthamfghcfjhifaaGreatDoorAgL
import Derived.Test.YthamfghcfjhifaaGreatDoorAeP
namespace Go.Proofs
open Pk
set_option maxRecDepth 10000
attribute [local simp] beq_dec bne_dec
theorem dfst_c {w : World} (hT : Tabs w) {v : Value} {bs : List Int} (h : SlB w 1 v bs.length (bs.map u8)) (hok : ∀ x ∈ bs, 0 ≤ x ∧ x ≤ 255) : FN Tryz.prog 86 [v] w fun e w' => FiR w w' bs (firstP txA bs) e := by
  refine FN_enter Tryz.func86 rfl rfl (by kernel_rfl) ?_
  have hlen := fun ty W => h.isLen (P := Tryz.prog) (t := 31) (by simp) ty W
  have hE1 : Ext w (w.alloc (.cells #[i64 0, u64 0, .slice none 0 0, .string ⟨#[]⟩, .slice none 0 0] 51)) := (Ext.refl _).alloc _
  have x1 : Blk (w.alloc (.cells #[i64 0, u64 0, .slice none 0 0, .string ⟨#[]⟩, .slice none 0 0] 51)) w.heap.size [i64 0, u64 0, .slice none 0 0, .string ⟨#[]⟩, .slice none 0 0] := Blk.new w [i64 0, u64 0, .slice none 0 0, .string ⟨#[]⟩, .slice none 0 0] 51
  unfold firstP
  by_cases hl : bs.length ≤ 65536
  · have hl' : ¬ (65536 : Int) < bs.length := by omega
    rw [if_pos hl]
    simp [hlen, hl']
    generalize (w.alloc (.cells #[i64 0, u64 0, .slice none 0 0, .string ⟨#[]⟩, .slice none 0 0] 51)) = w1 at *
    have hd := dfirst_c (hT.ext hE1) 8 (Nat.le_refl _) (Ext.refl w1) (h.ext hE1) hok hl
    rw [show (8 : Int) - ((8 : Nat) : Int) = 0 from rfl] at hd
    refine FN.mono hd ?_
    rintro e2 w2 ⟨hE2, hp2⟩
    have x2 := x1.ext hE2
    cases ho : itemP txA 8 bs with
    | error c =>
      rw [ho] at hp2
      obtain rfl : e2 = _ := hp2
      simp [x2.cell 0 _ rfl, x2.cell 1 _ rfl, x2.cell 2 _ rfl, x2.cell 3 _ rfl, x2.cell 4 _ rfl, x2.thaw, cell_setCell]
      exact ⟨five_ext (hE1.trans hE2) (Nat.le_refl _) _ _ _ _ _, rfl⟩
    | ok q =>
      obtain ⟨t, rest⟩ := q
      rw [ho] at hp2
      obtain ⟨cs, rfl, hit⟩ := hp2
      obtain ⟨ia, im, ic, ia', im', ic', hcs⟩ := itC_form hit.any
      rw [hcs]
      simp [x2.cell 0 _ rfl, x2.cell 1 _ rfl, x2.cell 2 _ rfl, x2.cell 3 _ rfl, x2.cell 4 _ rfl, x2.thaw, cell_setCell]
      have m5 := five_mod w2 w.heap.size (i64 t.k) (u64 t.n) (.slice ia im ic) (.string t.s) (.slice ia' im' ic')
      have s1 := x1.lt
      refine ⟨five_ext (hE1.trans hE2) (Nat.le_refl _) _ _ _ _ _, cs, by rw [hcs], hit.go m5 fun k _ hk => ⟨by omega, by omega⟩⟩
  · have hl' : (65536 : Int) < bs.length := by omega
    rw [if_neg hl]
    simp [hlen, hl']
    exact ⟨hE1, rfl⟩
theorem ddec_c {w : World} (hT : Tabs w) {v : Value} {bs : List Int} (h : SlB w 1 v bs.length (bs.map u8)) (hok : ∀ x ∈ bs, 0 ≤ x ∧ x ≤ 255) : FN Tryz.prog 40 [v] w fun e w' => DcR w w' (decP txA bs) e := by
  refine FN_enter Tryz.func40 rfl rfl (by kernel_rfl) ?_
  have hlen := fun ty W => h.isLen (P := Tryz.prog) (t := 31) (by simp) ty W
  simp
  have hE1 : Ext w (w.alloc (.cells #[i64 0, u64 0, .slice none 0 0, .string ⟨#[]⟩, .slice none 0 0] 51)) := (Ext.refl _).alloc _
  have x1 : Blk (w.alloc (.cells #[i64 0, u64 0, .slice none 0 0, .string ⟨#[]⟩, .slice none 0 0] 51)) w.heap.size [i64 0, u64 0, .slice none 0 0, .string ⟨#[]⟩, .slice none 0 0] := Blk.new w [i64 0, u64 0, .slice none 0 0, .string ⟨#[]⟩, .slice none 0 0] 51
  obtain ⟨ra, hra⟩ : ∃ ra, ra = w.heap.size := ⟨_, rfl⟩
  rw [← hra] at x1 ⊢
  generalize (w.alloc (.cells #[i64 0, u64 0, .slice none 0 0, .string ⟨#[]⟩, .slice none 0 0] 51)) = w1 at *
  refine FN.mono (dfst_c (hT.ext hE1) (h.ext hE1) hok) ?_
  rintro e2 w2 ⟨hE2, hp2⟩
  have x2 := x1.ext hE2
  unfold decP
  have s1 := hE1.size
  have s2 := hE2.size
  cases ho : firstP txA bs with
  | error c =>
    rw [ho] at hp2
    obtain rfl : e2 = _ := hp2
    have hc := firstP_code ho
    have hc0 : ¬ c = 0 := by unfold codeOk at hc; omega
    have hE3 : Ext w2 (w2.alloc (.cells #[i64 0, u64 0, .slice none 0 0, .string ⟨#[]⟩, .slice none 0 0] 51)) := (Ext.refl _).alloc _
    have x3 := x2.ext hE3
    simp [hc0, x2.cell 0 _ rfl, x2.cell 1 _ rfl, x2.cell 2 _ rfl, x2.cell 3 _ rfl, x2.cell 4 _ rfl, x2.thaw, cell_setCell]
    exact ⟨five_ext ((hE1.trans hE2).trans hE3) (by omega) _ _ _ _ _, rfl⟩
  | ok q =>
    obtain ⟨t, rest⟩ := q
    rw [ho] at hp2
    obtain ⟨cs, rfl, hit⟩ := hp2
    obtain ⟨ia, im, ic, ia', im', ic', hcs⟩ := itC_form hit.any
    rw [hcs]
    have hE3 : Ext w2 (w2.alloc (.cells #[i64 t.k, u64 t.n, .slice ia im ic, .string t.s, .slice ia' im' ic'] 51)) := (Ext.refl _).alloc _
    have x3 := x2.ext hE3
    have y3 : Blk (w2.alloc (.cells #[i64 t.k, u64 t.n, .slice ia im ic, .string t.s, .slice ia' im' ic'] 51)) w2.heap.size [i64 t.k, u64 t.n, .slice ia im ic, .string t.s, .slice ia' im' ic'] := Blk.new w2 [i64 t.k, u64 t.n, .slice ia im ic, .string t.s, .slice ia' im' ic'] 51
    have it3 := hit.ext hE3
    by_cases hr : rest = []
    · subst hr
      simp [hlen, x2.cell 0 _ rfl, x2.cell 1 _ rfl, x2.cell 2 _ rfl, x2.cell 3 _ rfl, x2.cell 4 _ rfl, x2.thaw, cell_setCell]
      have m4 := five_mod (w2.alloc (.cells #[i64 t.k, u64 t.n, .slice ia im ic, .string t.s, .slice ia' im' ic'] 51)) ra (i64 t.k) (u64 t.n) (.slice ia im ic) (.string t.s) (.slice ia' im' ic')
      refine ⟨five_ext ((hE1.trans hE2).trans hE3) (by omega) _ _ _ _ _, cs, by rw [hcs], it3.go m4 fun k _ hk => ⟨by omega, by have := x1.lt; omega⟩⟩
    · have hn : ¬ (bs.length : Int) - rest.length = bs.length := by
        have := List.length_pos_iff.2 hr; omega
      have hn' : ¬ rest.length = 0 := by
        have := List.length_pos_iff.2 hr; omega
      simp [hlen, hn, hr, x2.cell 0 _ rfl, x2.cell 1 _ rfl, x2.cell 2 _ rfl, x2.cell 3 _ rfl, x2.cell 4 _ rfl, x2.thaw, cell_setCell]
      exact ⟨five_ext ((hE1.trans hE2).trans hE3) (by omega) _ _ _ _ _, rfl⟩
theorem ext15 {w w' : World} (hE : Ext w w') {b : Nat} (hb : w.heap.size ≤ b) (r : Rec) : Ext w (((((((((((((((w'.setCell ⟨b, 0, none⟩ (i64 r.kind)).setCell ⟨b, 1, none⟩ (u32 r.nn)).setCell ⟨b, 2, none⟩ (u32 r.ns)).setCell ⟨b, 3, none⟩ (u64 r.nt)).setCell ⟨b, 4, none⟩ (u32 r.nq)).setCell ⟨b, 5, none⟩ (i64 r.what)).setCell ⟨b, 6, none⟩ (i64 r.why)).setCell ⟨b, 7, none⟩ (u64 r.at')).setCell ⟨b, 8, none⟩ (u64 r.num)).setCell ⟨b, 9, none⟩ (u32 r.node)).setCell ⟨b, 10, none⟩ (u32 r.reg)).setCell ⟨b, 11, none⟩ (.bool r.yes)).setCell ⟨b, 12, none⟩ (u64 r.fro)).setCell ⟨b, 13, none⟩ (u64 r.til)).setCell ⟨b, 14, none⟩ (u8 r.lev)) :=
  ((hE.mod (S := fun k => w.heap.size ≤ k)).trans ((mod15 w' b r).weaken fun k hk => by omega)).ext fun _ h => h
/-- The record of bytes, and the error. -/
noncomputable def decRec (bs : List Int) : Rec × Int := match decP txA bs with
  | .error c => (rec0, c)
  | .ok t => match ofD t with
    | none => (rec0, 180)
    | some r => (r, 0)
theorem Cd.nn {tx : ByteArray → Option Bool} {d : Nat} {t : It} (h : Cd tx d t) : (∀ x ∈ t.l, 0 ≤ x.n ∧ x.n ≤ 18446744073709551615) ∧ (∀ x ∈ t.l, ∀ y ∈ x.l, 0 ≤ y.n ∧ y.n ≤ 18446744073709551615) ∧ (∀ x ∈ t.l, ∀ y ∈ x.l, ∀ z ∈ y.l, ∀ u ∈ z.l, 0 ≤ u.n) := by
  obtain ⟨e1, h1⟩ := h.sub
  refine ⟨fun x hx => (h1 x hx).n_b, fun x hx y hy => ?_, fun x hx y hy z hz u hu => ?_⟩
  · obtain ⟨e2, h2⟩ := (h1 x hx).sub
    exact (h2 y hy).n_b
  · obtain ⟨e2, h2⟩ := (h1 x hx).sub
    obtain ⟨e3, h3⟩ := (h2 y hy).sub
    obtain ⟨e4, h4⟩ := (h3 z hz).sub
    exact (h4 u hu).n_b.1
/-- The program's Decode. -/
theorem adecodeA_c {w : World} (hT : Tabs w) {v : Value} {bs : List Int} (h : SlB w 1 v bs.length (bs.map u8)) (hok : ∀ x ∈ bs, 0 ≤ x ∧ x ≤ 255) (hbl : bs.length ≤ 65536) :
    FN Tryz.prog 14 [v] w fun e w' => e = .returned (.tuple #[recV (decRec bs).1, i64 (decRec bs).2]) ∧ Ext w w' := by
  have hd := adecode_c (o := ofD) (txt_txA hT) h hok (firstP_ne bs) (by omega) (fun t ht W cs hit => by
    obtain ⟨hcd, rfl⟩ := decP_cd hok ht
    have hr := readAny_c hit (fun y hy => (hcd.nn.1 y hy).1) (fun x hx => by
      obtain ⟨e, he⟩ := hcd.sub
      have h1 := numsOf_len (he x hx)
      have h2 := hcd.subL
      have h3 := bytesL_mem hx
      omega)
    rw [readRec_eq hcd] at hr
    exact hr)
  refine FN.mono hd ?_
  rintro e w' hA
  refine ⟨?_, hA.ext⟩
  unfold decRec
  cases hx : decP txA bs with
  | error c => exact hA.err c hx
  | ok t =>
    cases ho : ofD t with
    | none => simp only [ho]; exact hA.none t hx ho
    | some r => simp only [ho]; exact hA.some t r hx ho
/-- The document's. -/
theorem rdecode_c {w : World} (hT : Tabs w) {v : Value} {bs : List Int} (h : SlB w 1 v bs.length (bs.map u8)) (hok : ∀ x ∈ bs, 0 ≤ x ∧ x ≤ 255) :
    FN Tryz.prog 17 [v] w fun e w' => e = .returned (.tuple #[recV (decRec bs).1, i64 (decRec bs).2]) ∧ Ext w w' := by
  refine FN_enter Tryz.func17 rfl rfl (by kernel_rfl) ?_
  simp
  have hE1 : Ext w (w.alloc (.cells #[i64 0, u32 0, u32 0, u64 0, u32 0, i64 0, i64 0, u64 0, u64 0, u32 0, u32 0, .bool false, u64 0, u64 0, u8 0] 30)) := (Ext.refl _).alloc _
  have x1 : Blk (w.alloc (.cells #[i64 0, u32 0, u32 0, u64 0, u32 0, i64 0, i64 0, u64 0, u64 0, u32 0, u32 0, .bool false, u64 0, u64 0, u8 0] 30)) w.heap.size (recC rec0) := Blk.new w (recC rec0) 30
  obtain ⟨ra, hra⟩ : ∃ ra, ra = w.heap.size := ⟨_, rfl⟩
  rw [← hra] at x1 ⊢
  generalize (w.alloc (.cells #[i64 0, u32 0, u32 0, u64 0, u32 0, i64 0, i64 0, u64 0, u64 0, u32 0, u32 0, .bool false, u64 0, u64 0, u8 0] 30)) = w1 at *
  refine FN.mono (ddec_c (hT.ext hE1) (h.ext hE1) hok) ?_
  rintro e2 w2 ⟨hE2, hp2⟩
  have x2 : Blk w2 ra [i64 0, u32 0, u32 0, u64 0, u32 0, i64 0, i64 0, u64 0, u64 0, u32 0, u32 0, .bool false, u64 0, u64 0, u8 0] := x1.ext hE2
  unfold decRec
  cases hx : decP txA bs with
  | error c =>
    rw [hx] at hp2
    obtain rfl : e2 = _ := hp2
    have hc0 : ¬ c = 0 := by
      have : firstP txA bs = .error c ∨ c = 121 := by
        unfold decP at hx
        split at hx
        · rename_i hf; cases hx; exact .inl hf
        · split at hx
          · cases hx
          · cases hx; exact .inr rfl
      rcases this with h | h
      · have := firstP_code h; unfold codeOk at this; omega
      · omega
    simp [hc0, x2.cell 0 _ rfl, x2.cell 1 _ rfl, x2.cell 2 _ rfl, x2.cell 3 _ rfl, x2.cell 4 _ rfl, x2.cell 5 _ rfl, x2.cell 6 _ rfl, x2.cell 7 _ rfl, x2.cell 8 _ rfl, x2.cell 9 _ rfl, x2.cell 10 _ rfl, x2.cell 11 _ rfl, x2.cell 12 _ rfl, x2.cell 13 _ rfl, x2.cell 14 _ rfl, x2.thaw, cell_setCell]
    exact ⟨by simp [rec0], ext15 ((hE1.trans hE2).trans ((Ext.refl _).alloc _)) (by omega) rec0⟩
  | ok t =>
    rw [hx] at hp2
    obtain ⟨cs, rfl, hit⟩ := hp2
    obtain ⟨ia, im, ic, ia', im', ic', hcs⟩ := itC_form hit.any
    obtain ⟨hcd, -⟩ := decP_cd hok hx
    have hof := fun W (hW : ItC W t cs) => rofRec_c hW hcd.nn.1 hcd.nn.2.1 hcd.nn.2.2
    rw [hcs] at hof ⊢
    have hE3 : Ext w2 (w2.alloc (.cells #[i64 t.k, u64 t.n, .slice ia im ic, .string t.s, .slice ia' im' ic'] 51)) := (Ext.refl _).alloc _
    have it3 := hit.any.ext hE3
    rw [hcs] at it3
    have x3 : Blk (w2.alloc (.cells #[i64 t.k, u64 t.n, .slice ia im ic, .string t.s, .slice ia' im' ic'] 51)) ra [i64 0, u32 0, u32 0, u64 0, u32 0, i64 0, i64 0, u64 0, u64 0, u32 0, u32 0, .bool false, u64 0, u64 0, u8 0] := x2.ext hE3
    cases ho : ofD t with
    | none =>
      simp only []
      simp
      generalize (w2.alloc (.cells #[i64 t.k, u64 t.n, .slice ia im ic, .string t.s, .slice ia' im' ic'] 51)) = w3 at *
      refine FN.mono (hof w3 it3) ?_
      rintro _ w4 ⟨rfl, hE4⟩
      have x4 := x3.ext hE4
      rw [ho]
      simp [ofV, x4.cell 0 _ rfl, x4.cell 1 _ rfl, x4.cell 2 _ rfl, x4.cell 3 _ rfl, x4.cell 4 _ rfl, x4.cell 5 _ rfl, x4.cell 6 _ rfl, x4.cell 7 _ rfl, x4.cell 8 _ rfl, x4.cell 9 _ rfl, x4.cell 10 _ rfl, x4.cell 11 _ rfl, x4.cell 12 _ rfl, x4.cell 13 _ rfl, x4.cell 14 _ rfl, x4.thaw, cell_setCell]
      exact ⟨by simp [rec0], ext15 (((hE1.trans hE2).trans (hE3.trans hE4)).trans ((Ext.refl _).alloc _)) (by omega) rec0⟩
    | some r =>
      simp only []
      simp
      generalize (w2.alloc (.cells #[i64 t.k, u64 t.n, .slice ia im ic, .string t.s, .slice ia' im' ic'] 51)) = w3 at *
      refine FN.mono (hof w3 it3) ?_
      rintro _ w4 ⟨rfl, hE4⟩
      have x4 := x3.ext hE4
      rw [ho]
      simp [ofV, x4.cell 0 _ rfl, x4.cell 1 _ rfl, x4.cell 2 _ rfl, x4.cell 3 _ rfl, x4.cell 4 _ rfl, x4.cell 5 _ rfl, x4.cell 6 _ rfl, x4.cell 7 _ rfl, x4.cell 8 _ rfl, x4.cell 9 _ rfl, x4.cell 10 _ rfl, x4.cell 11 _ rfl, x4.cell 12 _ rfl, x4.cell 13 _ rfl, x4.cell 14 _ rfl, x4.thaw, cell_setCell]
      exact ext15 (((hE1.trans hE2).trans (hE3.trans hE4)).trans ((Ext.refl _).alloc _)) (by omega) r
end Go.Proofs
