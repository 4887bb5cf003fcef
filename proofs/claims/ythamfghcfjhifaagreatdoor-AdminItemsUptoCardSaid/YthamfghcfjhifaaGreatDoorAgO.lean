/-
  Contracts of the functions that the law reaches, step by step.
-/
import Derived.Test.YthamfghcfjhifaaGreatDoorAfI
import Derived.Test.YthamfghcfjhifaaGreatDoorAuB
namespace Go.Proofs
open Pk
set_option maxRecDepth 10000
attribute [local simp] beq_dec bne_dec
theorem rget_c {w : World} {v : Value} {l : List Int} (h : SlB w 1 v l.length (l.map u8)) (hl : isWid l.length) (hb : ∀ x ∈ l, 0 ≤ x ∧ x ≤ 255) : FN Tryz.prog 171 [v] w fun e w' => e = .returned (.tuple #[u64 (ofBe l), i64 0]) ∧ w' = w := by
  refine FN_enter Tryz.func171 rfl rfl (by kernel_rfl) ?_
  have hlen := fun ty W => h.isLen (P := Tryz.prog) (t := 31) (by simp) ty W
  have hl8 : l.length ≤ 8 := by unfold isWid at hl; omega
  simp [hlen]
  refine FN.mono (dwidth_c hl w) ?_
  rintro _ w1 ⟨rfl, rfl⟩
  simp
  refine WC_loop (fun m ρ ds w' => ∃ i : Nat, m = l.length - i ∧ i ≤ l.length ∧ ρ 0 = v ∧ ρ 4 = u64 (ofBe (l.take i)) ∧ ρ 5 = i64 i ∧ ds = [] ∧ w' = w1) l.length
    ⟨0, by simp, by simp, by simp, by simp [ofBe], by simp, rfl, rfl⟩ ?_
  rintro m ρ ds w2 ⟨i, rfl, hi, e0, e4, e5, rfl, rfl⟩
  by_cases hlt : i < l.length
  · have hq := List.getElem?_eq_getElem hlt
    have c := h.at_ i (u8 l[i]) (by simp [hlt])
    have ix := h.index (P := Tryz.prog) (t := 31) (by simp) .i64 i (by omega) (by omega) w2
    have hsuc : ofBe (l.take (i + 1)) = ofBe (l.take i) * 256 + l[i] := by
      rw [List.take_add_one, hq]
      unfold ofBe
      rw [List.foldl_append]
      rfl
    simp at ix
    obtain ⟨A, hA, hAl⟩ := ofBe_b hb i hi
    have hx := hb l[i] (List.getElem_mem hlt)
    have hA56 : A < 2 ^ 56 := Nat.lt_of_lt_of_le hAl (Nat.pow_le_pow_right (by omega) (by omega))
    have hor : orI .u64 (shlI .u64 (ofBe (l.take i)) 8) (IntKind.u64.wrap l[i]) = ofBe (l.take (i + 1)) := by
      have := or_low A l[i].toNat hA56 (by omega)
      rw [show ((l[i].toNat : Nat) : Int) = l[i] from by omega] at this
      rw [hsuc, hA, this]
      omega
    have hw1 : IntKind.i64.wrap ((i : Int) + 1) = i + 1 := wrap64 _ (by omega) (by omega)
    simp [e0, e4, e5, hlen, hlt, ix, c, hor, hw1]
    exact ⟨l.length - (i + 1), by omega, i + 1, rfl, by omega, rfl, by push_cast; rfl⟩
  · obtain rfl : i = l.length := by omega
    rw [List.take_length] at e4
    simp [e0, e4, e5, hlen]
theorem slb_mid {P : Program} {w : World} {s n : Nat} {v : Value} {cs : List Value} {t : TypeId} (h : SlB w s v n cs) (hs : isS (P.underlying t) = true) (hz : ∀ W, (Go.sizeOf (elemT (P.underlying t))).run P W = .ok s W) (k k' : IntKind) (i j : Nat) (hij : i ≤ j) (hj : j ≤ n) :
    (∀ W, (Instr.sliceAt t v (some (.int k i)) (some (.int k' j)) none).run P W = .ok (slcL (slcH v j) i s) W) ∧ SlB w s (slcL (slcH v j) i s) (j - i) ((cs.take (j * s)).drop (i * s)) := by
  obtain ⟨-, h1⟩ := slb_high h hs hz k j hj
  obtain ⟨-, h2⟩ := slb_low h1 hs hz k i hij
  refine ⟨fun W => ?_, h2⟩
  obtain ⟨ao, c, rfl, hc, -⟩ := h.val
  rw [sl_lh hs ao n c k k' i j (by omega) (by omega) (by omega) W, hz]
  simp [Result.andThen, sliced, slcL, slcH]
def hdV (bs : List Int) : Option (Int × Int × List Int) → Value
  | none => .tuple #[i64 0, u64 0, i64 0]
  | some (m, n, rest) => .tuple #[i64 m, u64 n, i64 ((bs.length : Int) - rest.length)]
theorem headQ_small {c : Int} (hc : 0 ≤ c ∧ c ≤ 255) (h : c % 32 < 24) (r : List Int) : headQ (c :: r) r (c / 32) (c % 32) = true := by
  unfold headQ headB beg
  rw [if_pos h, show 32 * (c / 32) + c % 32 = c by omega]
  simp
  omega
/-- The document's head. -/
theorem dhead_c {w : World} {v : Value} {bs : List Int} (h : SlB w 1 v bs.length (bs.map u8)) (hok : ∀ x ∈ bs, 0 ≤ x ∧ x ≤ 255) (hbl : bs.length ≤ 1000000) : FN Tryz.prog 148 [v] w fun e w' => e = .returned (hdV bs (headP bs)) ∧ Ext w w' := by
  refine FN_enter Tryz.func148 rfl rfl (by kernel_rfl) ?_
  have hlen := fun ty W => h.isLen (P := Tryz.prog) (t := 31) (by simp) ty W
  cases bs with
  | nil =>
    simp [hlen, hdV, headP]
    exact Ext.refl _
  | cons c r =>
    have hc := hok c (by simp)
    have c0 := h.at_ 0 (u8 c) rfl
    have ix := fun W => h.index (P := Tryz.prog) (t := 31) (by simp) .i64 0 (by omega) (by simp) W
    simp at ix
    have hnz : ¬ ((r.length : Int) + 1 = 0) := by omega
    simp [hlen, hnz]
    refine WC_drawC 11 (.F 0 <| .F 1 <| .F 2 <| .F 3 <| .F 4 <| .F 5 <| .F 6 <| .F 7 <| .F 8 <| .F 9 <| .F 10 <| .Z) (fun _ => false) rfl (by kernel_rfl) fun W hW => ?_
    have hWE : Ext w W := hW ▸ Ext.drew _
    have c0W := (h.ext hWE).at_ 0 (u8 c) rfl
    simp at c0 c0W
    have q1 : IntKind.i64.wrap c = c := wrap64 _ (by omega) (by omega)
    have q2 : IntKind.i64.wrap (c.tdiv 32) = c / 32 := by rw [Int.tdiv_eq_ediv_of_nonneg hc.1]; exact wrap64 _ (by omega) (by omega)
    have q3 : c.tmod 32 = c % 32 := Int.tmod_eq_emod_of_nonneg hc.1
    simp [ix, c0W, q1, q2, q3]
    have hlb : 0 ≤ c % 32 ∧ c % 32 < 32 := by omega
    have hmb : 0 ≤ c / 32 ∧ c / 32 ≤ 7 := by omega
    have hP : headP (c :: r) = if c % 32 < 24 then some (c / 32, c % 32, r)
        else if c % 32 < 28 then (if 2 ^ (c % 32 - 24).toNat ≤ r.length then
          (if headQ (c :: r) (r.drop (2 ^ (c % 32 - 24).toNat)) (c / 32) (ofBe (r.take (2 ^ (c % 32 - 24).toNat))) then some (c / 32, ofBe (r.take (2 ^ (c % 32 - 24).toNat)), r.drop (2 ^ (c % 32 - 24).toNat)) else none) else none) else none := by
      rw [headP_cons]
      by_cases hl : c % 32 < 24
      · rw [if_pos hl, if_pos (headQ_small hc hl r), if_pos hl]
      · rw [if_neg hl, if_neg hl]
    obtain ⟨lo, hlo⟩ : ∃ lo, c % 32 = lo := ⟨_, rfl⟩
    obtain ⟨mj, hmj⟩ : ∃ mj, c / 32 = mj := ⟨_, rfl⟩
    rw [hlo] at hlb hP ⊢
    rw [hmj] at hmb hP ⊢
    by_cases hl24 : lo < 24
    · rw [if_pos hl24] at hP
      have q4 : IntKind.u64.wrap lo = lo := by simp [IntKind.wrap, IntKind.signed, IntKind.bits]; omega
      rw [hP]
      simp [hl24, q4, hdV]
      exact ⟨by omega, hWE⟩
    rw [if_neg hl24] at hP
    simp [hl24]
    have hS1 : Sl (W.alloc (.cells #[i64 1, i64 2, i64 4, i64 8, i64 0, i64 0, i64 0, i64 0] 3)) 1 (.slice (some ⟨W.heap.size, 0, none⟩) 8 8) ([1, 2, 4, 8, 0, 0, 0, 0] : List Int).length (([1, 2, 4, 8, 0, 0, 0, 0] : List Int).map i64) := Sl.made W (([1, 2, 4, 8, 0, 0, 0, 0] : List Int).map i64) 3 1 8 rfl
    have hE1 : Ext W (W.alloc (.cells #[i64 1, i64 2, i64 4, i64 8, i64 0, i64 0, i64 0, i64 0] 3)) := (Ext.refl _).alloc _
    obtain ⟨j, hj, hj8⟩ : ∃ j : Nat, lo - 24 = j ∧ j < 8 := ⟨(lo - 24).toNat, by omega, by omega⟩
    have q5 : IntKind.i64.wrap (lo - 24) = j := by rw [hj]; exact wrap64 _ (by omega) (by omega)
    obtain ⟨z, hz⟩ : ∃ z, ([1, 2, 4, 8, 0, 0, 0, 0] : List Int)[j]? = some z := ⟨_, List.getElem?_eq_getElem hj8⟩
    have hzw : (j < 4 ∧ z = ((2 ^ j : Nat) : Int) ∧ (2 ^ j : Nat) ≤ 8) ∨ (4 ≤ j ∧ z = 0) := by
      have : j = 0 ∨ j = 1 ∨ j = 2 ∨ j = 3 ∨ j = 4 ∨ j = 5 ∨ j = 6 ∨ j = 7 := by omega
      rcases this with rfl | rfl | rfl | rfl | rfl | rfl | rfl | rfl <;> simp at hz <;> subst hz <;> simp
    have cz := hS1.at_ j (i64 z) (by rw [List.getElem?_map, hz]; rfl)
    have ixz := fun W' => hS1.index (P := Tryz.prog) (t := 91) (by simp) .i64 j (by omega) (by simp; omega) W'
    generalize W.alloc (.cells #[i64 1, i64 2, i64 4, i64 8, i64 0, i64 0, i64 0, i64 0] 3) = w1 at *
    simp at ixz cz
    simp [q5, ixz, cz]
    have hE01 := hWE.trans hE1
    rcases hzw with ⟨hj4, hzj, hk8⟩ | ⟨hj4, rfl⟩
    · have hl28 : lo < 28 := by omega
      have hjn : (lo - 24).toNat = j := by omega
      rw [if_pos hl28, hjn] at hP
      obtain ⟨k, hk⟩ : ∃ k : Nat, 2 ^ j = k := ⟨_, rfl⟩
      have hk0 : 0 < k := by rw [← hk]; exact Nat.pow_pos (by omega)
      have hkw : isWid k := by
        have : j = 0 ∨ j = 1 ∨ j = 2 ∨ j = 3 := by omega
        rcases this with rfl | rfl | rfl | rfl <;> simp at hk <;> subst hk <;> simp [isWid]
      rw [hk] at hzj hk8 hP
      subst hzj
      have hz0 : ¬ k = 0 := by omega
      have q6 : IntKind.i64.wrap (1 + (k : Int)) = k + 1 := by rw [wrap64 _ (by omega) (by omega)]; omega
      by_cases hle : k ≤ r.length
      · have hle' : ¬ (r.length : Int) + 1 < k + 1 := by omega
        rw [if_pos hle] at hP
        simp [hz0, q6, hle', hlen]
        obtain ⟨hm1, hm2⟩ := slb_mid (P := Tryz.prog) (t := 31) h (by simp) zb1 .i64 .i64 1 (k + 1) (by omega) (by simp; omega)
        obtain ⟨hh1, hh2⟩ := slb_high (P := Tryz.prog) (t := 31) h (by simp) zb1 .i64 (k + 1) (by simp; omega)
        have em : ((((c :: r).map u8).take ((k + 1) * 1)).drop (1 * 1)) = (r.take k).map u8 := by simp [List.map_take]
        have eh : (((c :: r).map u8).take ((k + 1) * 1)) = (c :: r.take k).map u8 := by simp [List.map_take]
        have lk : (r.take k).length = k := by rw [List.length_take]; omega
        rw [em] at hm2
        rw [eh] at hh2
        simp only [Nat.add_sub_cancel, show ((1 : Nat) : Int) = 1 from rfl, Int.natCast_add] at hm1 hm2 hh1
        have hrk : ∀ x ∈ r.take k, 0 ≤ x ∧ x ≤ 255 := fun x hx => hok x (by simp; exact .inr (List.mem_of_mem_take hx))
        simp [hm1]
        have hg := rget_c (w := w1) (v := slcL (slcH v (k + 1)) 1 1) (l := r.take k) (by rw [lk]; exact hm2.ext hE01) (by rw [lk]; exact hkw) hrk
        refine FN.mono (hg) ?_
        rintro _ w2 ⟨rfl, rfl⟩
        obtain ⟨N, hN⟩ : ∃ N, ofBe (r.take k) = N := ⟨_, rfl⟩
        have hNb := ofBe_nn hrk (by rw [lk]; exact hk8)
        rw [hN] at hP hNb ⊢
        simp
        refine WC_drawL 9 (.F 0 <| .F 1 <| .F 4 <| .F 5 <| .F 6 <| .F 7 <| .D 8 <| .L 2 <| .L 3 <| .W 8 <| .Z) (fun _ => false) (fun _ => false) (fun _ u _ => u = .string (strOfNums (c :: r.take k))) rfl (by kernel_rfl) (fun _ h => h) (fun _ _ _ _ h _ => h) fun W3 hW3 => ?_
        have hWE3 : Ext w2 W3 := hW3 ▸ Ext.drew _
        have hE03 := hE01.trans hWE3
        simp [q6, hh1]
        refine RL_float (fun W' h' => ?_) ?_
        · have cv1 : (convert 31 9 (slcH v (k + 1))).run Tryz.prog W' = .ok (.string (strOfNums (c :: r.take k))) W' := conv_b (by
            rw [List.length_cons, lk]
            exact hh2.ext (hE03.trans (agr_ext h')))
          simp [cv1]
          exact Ext.refl _
        simp
        refine RL_loose fun W4 h4 => ?_
        simp
        refine FN.mono (docHead_c hmb hNb W4) ?_
        rintro _ W5 ⟨v5, rfl, ho5, hE5⟩
        simp
        refine KR_ext hE5 ?_
        simp
        refine RL_loose fun W6 h6 => ?_
        have cv2 : (convert 31 9 v5).run Tryz.prog W6 = .ok (.string (strOfNums (headB mj N))) W6 := conv_b ((sl_of_own ho5).toB.ext h6)
        simp [cv2]
        refine KR_same ?_
        simp
        refine RL_wait fun u7 W7 h7 hu7 => ?_
        subst hu7
        have hE07 := hE03.trans (((h4.trans hE5).trans h6).trans h7)
        have hhb := headB_ok (m := mj) (n := N) hmb hNb.1
        have hcr : ∀ x ∈ c :: r.take k, 0 ≤ x ∧ x ≤ 255 := fun x hx => by
          rcases List.mem_cons.1 hx with rfl | hx
          · exact hc
          · exact hrk x hx
        have hq : headQ (c :: r) (r.drop k) mj N = decide (headB mj N = c :: r.take k) := by
          unfold headQ beg
          rw [Bool.eq_iff_iff]
          simp only [Bool.and_eq_true, decide_eq_true_eq, List.length_cons, List.length_drop]
          constructor
          · rintro ⟨⟨a1, a2⟩, a3⟩
            have : (headB mj N).length = k + 1 := by omega
            rw [← a2, this]
            rfl
          · intro e
            rw [e]
            simp only [List.length_cons, lk, List.take_succ_cons]
            refine ⟨⟨by omega, trivial⟩, by omega⟩
        rw [hq] at hP
        by_cases e : headB mj N = c :: r.take k
        · rw [if_pos (decide_eq_true e)] at hP
          rw [hP, e]
          simp [hdV]
          exact ⟨by rw [q6]; omega, hE07⟩
        · have e' : ¬ strOfNums (headB mj N) = strOfNums (c :: r.take k) := fun h => e ((strOf_inj hhb hcr).1 h)
          rw [if_neg (by simpa using e)] at hP
          rw [hP]
          simp [e', hdV]
          exact hE07
      · have hle' : (r.length : Int) + 1 < k + 1 := by omega
        rw [if_neg hle] at hP
        rw [hP]
        simp [hz0, q6, hle', hlen, hdV]
        exact hE01
    · rw [if_neg (by omega)] at hP
      rw [hP]
      simp [hdV]
      exact hE01
end Go.Proofs
