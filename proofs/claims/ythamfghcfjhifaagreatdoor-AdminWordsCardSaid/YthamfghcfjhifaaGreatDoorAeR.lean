/-
  Contracts of the functions that the law reaches, step by step.
-/
import Derived.Test.YthamfghcfjhifaaGreatDoorAeP
namespace Go.Proofs
open Pk
set_option maxRecDepth 10000
theorem readKd_c {fl fr ff : Nat} {s : ByteArray} {r r1 : Rec} {w : World} {cs : List Value} (hk0 : 0 ≤ r.kind ∧ r.kind ≤ 5) (ht : ItC w (itemR r) cs) (hk : mget kdL r.kind = some [.string s, fnV fl, fnV fr, fnV ff]) (hnn : ∀ y ∈ partsR r, 0 ≤ y.n)
    (hread : ReadsI fr r.kind (partsR r) (some (r1, []))) {b : Bool} (hfine : Fines ff r1 b) : FN Tryz.prog 38 [.agg cs.toArray] w fun e w' => RcPost w w' (if b then some r1 else none) e := by
  have := readI_c (fb := fun _ => b) ht rfl rfl rfl hk0 (fun y hy => by
    rcases List.mem_cons.1 hy with rfl | hy
    · exact hk0.1
    · exact hnn y hy) hk hread (fun r' rest h => by cases h; exact hfine)
  have ho : readO (some (r1, [])) (fun _ => b) = if b then some r1 else none := by cases b <;> rfl
  rw [ho] at this
  exact this
theorem part_nn {d : Nat} {t : It} (h : Rdy d t) : 0 ≤ t.n := by
  cases h with
  | uint d n h0 h1 => exact h0
  | bool d n h => show 0 ≤ n; omega
  | list d l hl h => exact Int.le_refl _
/-- What a record that may be has laid is read as it. -/
theorem readR_c {r : Rec} (hr : RecOk r) (h0 : rightE r = 0) {w : World} {cs : List Value} (ht : ItC w (itemR r) cs) : FN Tryz.prog 38 [.agg cs.toArray] w fun e w' => RcPost w w' (some r) e := by
  obtain ⟨hk, hf, hn, ht3, hb⟩ := right_inv h0
  obtain ⟨_, _, _, _, _, _, _, hpt⟩ := lay_of hr h0
  have hnn : ∀ y ∈ partsR r, 0 ≤ y.n := fun y hy => part_nn (hpt y hy).1
  have fin : ∀ {fl fr ff : Nat} {s : ByteArray} {r1 : Rec}, mget kdL r.kind = some [.string s, fnV fl, fnV fr, fnV ff] → ReadsI fr r.kind (partsR r) (some (r1, [])) → Fines ff r1 true → r1 = r → FN Tryz.prog 38 [.agg cs.toArray] w fun e w' => RcPost w w' (some r) e := by
    intro fl fr ff s r1 hk' hread hfine e1
    have := readKd_c ⟨by omega, hk.2⟩ ht hk' hnn hread hfine
    rw [e1] at this
    exact this
  have hcase : r.kind = 1 ∨ r.kind = 2 ∨ r.kind = 3 ∨ r.kind = 4 ∨ r.kind = 5 := by omega
  unfold partsR at fin
  unfold bareR at hb
  unfold fineR at hf
  rcases hcase with e | e | e | e | e
  · rw [if_pos e] at fin hb hf
    obtain ⟨i1, i2, i3, i4, i5⟩ := repF_inv hf
    obtain ⟨j1, j2⟩ := nameE_inv i1
    have hno : NamOk (namR r) := ⟨hr.nn, hr.ns, hr.nq⟩
    have hf' := rep_fine (repB r)
    rw [show repF (repB r) = true from hf] at hf'
    refine fin (fl := 101) (fr := 104) (ff := 107) (by rw [e]; rfl) ?_ hf' hb
    intro w0 w' b rb h hR hrb hne
    have := rdRep_t (r := { rec0 with kind := r.kind }) (x := nameI (namR r)) (l := [uintI r.what, uintI r.why, uintI r.at']) h hR hrb hne (namF_nameI _ hno i1) (numsOf_nameI_len _ j1)
      (upI_cons rfl (show (uintI r.what).n ≤ _ by exact i3)) (upI_cons rfl (show (uintI r.why).n ≤ _ from (show r.why ≤ 6 by omega))) (upI_cons rfl (show (uintI r.at').n ≤ _ from ht3.1))
    rw [namN_nameI _ hno j1] at this
    exact this
  · rw [if_neg (by omega), if_pos e] at fin hb
    rw [if_neg (by omega), if_neg (by omega)] at hf
    have hf' := there_c (askBr r)
    rw [show decide (0 < min (askBr r).node (askBr r).reg) = true from hf] at hf'
    refine fin (fl := 58) (fr := 61) (ff := 64) (by rw [e]; rfl) ?_ hf' hb
    intro w0 w' b rb h hR hrb hne
    have := rdAsk_c h hR hrb hne
    rw [rdAsk_I hr hn] at this
    exact this
  · rw [if_neg (by omega), if_neg (by omega), if_pos e] at fin hb
    rw [if_neg (by omega), if_neg (by omega)] at hf
    have hf' := there_c (tellB r)
    rw [show decide (0 < min (tellB r).node (tellB r).reg) = true from hf] at hf'
    refine fin (fl := 65) (fr := 67) (ff := 64) (by rw [e]; rfl) ?_ hf' hb
    intro w0 w' b rb h hR hrb hne
    have := rdTell_c h hR hrb hne
    rw [rdTell_I hr hn ht3.2.2] at this
    exact this
  · rw [if_neg (by omega), if_neg (by omega), if_neg (by omega), if_pos e] at fin hb
    rw [if_neg (by omega), if_pos e] at hf
    have hl : r.lev ≤ 3 := by
      unfold foreF at hf
      simp only [Bool.and_eq_true, decide_eq_true_eq] at hf
      exact hf.2.2
    have hf' := fore_fine (foreB r)
    rw [show foreF (foreB r) = true from hf] at hf'
    refine fin (fl := 70) (fr := 72) (ff := 74) (by rw [e]; rfl) ?_ hf' hb
    intro w0 w' b rb h hR hrb hne
    have := rdFore_c h hR hrb hne
    rw [rdFore_I hr ht3.2.1 ht3.2.2 hl] at this
    exact this
  · rw [if_neg (by omega), if_neg (by omega), if_neg (by omega), if_neg (by omega)] at fin hb
    rw [if_neg (by omega), if_neg (by omega)] at hf
    have hf' := there_c (memB r)
    rw [show decide (0 < min (memB r).node (memB r).reg) = true from hf] at hf'
    refine fin (fl := 76) (fr := 77) (ff := 64) (by rw [e]; rfl) ?_ hf' hb
    intro w0 w' b rb h hR hrb hne
    have := rdMem_c h hR hrb hne
    rw [rdMem_I hr hn] at this
    exact this
/-- An ask without a region is none. -/
theorem readBad_c {r : Rec} (hr : RecOk r) (hk2 : r.kind = 2) (hn : r.num ≤ 4294967295) (hb : decide (0 < min r.node r.reg) = false) {w : World} {cs : List Value} (ht : ItC w (itemR r) cs) : FN Tryz.prog 38 [.agg cs.toArray] w fun e w' => RcPost w w' none e := by
  have hf' := there_c (askBr r)
  rw [show decide (0 < min (askBr r).node (askBr r).reg) = false from hb] at hf'
  have hp : partsR r = askI r := by unfold partsR; rw [if_neg (by omega), if_pos hk2]
  refine readKd_c (b := false) (fl := 58) (fr := 61) (ff := 64) (s := ⟨#[97, 115, 107]⟩) ⟨by omega, by omega⟩ ht (by rw [hk2]; rfl) ?_ ?_ hf'
  · rw [hp]
    exact nn_leaf (by simp [askI]; exact ⟨.inl ⟨_, rfl, hr.num.1⟩, .inl ⟨_, rfl, hr.node.1⟩, .inl ⟨_, rfl, hr.reg.1⟩⟩)
  · rw [hp]
    intro w0 w' b rb h hR hrb hne
    have := rdAsk_c h hR hrb hne
    rw [rdAsk_I hr hn] at this
    exact this
end Go.Proofs
namespace Go.Proofs
open Pk
set_option maxRecDepth 10000
theorem uintI_inj {a b : Int} : uintI a = uintI b ↔ a = b := by unfold uintI; simp
theorem boolI_inj {a b : Bool} : boolI a = boolI b ↔ a = b := by unfold boolI; cases a <;> cases b <;> simp
theorem listI_inj {a b : List It} : listI a = listI b ↔ a = b := by unfold listI; simp
/-- Unlike records that may be have unlike items. -/
theorem itemR_inj {a b : Rec} (ha : RecOk a) (hb : RecOk b) (ra : rightE a = 0) (rb : rightE b = 0) (h : itemR a = itemR b) : a = b := by
  obtain ⟨ka, fa, -, -, ba⟩ := right_inv ra
  obtain ⟨kb, fb, -, -, bb⟩ := right_inv rb
  unfold itemR at h
  rw [listI_inj] at h
  simp only [List.cons.injEq, uintI_inj] at h
  obtain ⟨hk, hp⟩ := h
  unfold partsR at hp
  unfold bareR at ba bb
  unfold fineR at fa fb
  rw [← hk] at hp bb fb
  have hcase : a.kind = 1 ∨ a.kind = 2 ∨ a.kind = 3 ∨ a.kind = 4 ∨ a.kind = 5 := by omega
  rcases hcase with e | e | e | e | e
  · rw [if_pos e] at hp ba bb fa fb
    rw [if_pos e] at hp
    obtain ⟨i1, -⟩ := repF_inv fa
    obtain ⟨i2, -⟩ := repF_inv fb
    have n1 := namN_nameI (namR a) ⟨ha.nn, ha.ns, ha.nq⟩ (nameE_inv i1).1
    have n2 := namN_nameI (namR b) ⟨hb.nn, hb.ns, hb.nq⟩ (nameE_inv i2).1
    unfold repI at hp
    simp only [List.cons.injEq, uintI_inj, and_true] at hp
    obtain ⟨h1, h2, h3, h4⟩ := hp
    rw [h1, n2] at n1
    unfold namR at n1
    simp only [Nam.mk.injEq] at n1
    rw [← ba, ← bb]
    unfold repB
    simp only [hk, h2, h3, h4, n1.1, n1.2.1, n1.2.2.1, n1.2.2.2]
  · rw [if_neg (by omega), if_pos e] at hp ba bb
    rw [if_neg (by omega), if_pos e] at hp
    unfold askI at hp
    simp only [List.cons.injEq, uintI_inj, and_true] at hp
    rw [← ba, ← bb]
    unfold askBr
    simp only [hk, hp.1, hp.2.1, hp.2.2]
  · rw [if_neg (by omega), if_neg (by omega), if_pos e] at hp ba bb
    rw [if_neg (by omega), if_neg (by omega), if_pos e] at hp
    unfold tellI at hp
    simp only [List.cons.injEq, uintI_inj, boolI_inj, and_true] at hp
    rw [← ba, ← bb]
    unfold tellB
    simp only [hk, hp.1, hp.2.1, hp.2.2.1, hp.2.2.2.1, hp.2.2.2.2]
  · rw [if_neg (by omega), if_neg (by omega), if_neg (by omega), if_pos e] at hp ba bb
    rw [if_neg (by omega), if_neg (by omega), if_neg (by omega), if_pos e] at hp
    unfold foreI at hp
    simp only [List.cons.injEq, uintI_inj, and_true] at hp
    rw [← ba, ← bb]
    unfold foreB
    simp only [hk, hp.1, hp.2.1, hp.2.2.1, hp.2.2.2]
  · rw [if_neg (by omega), if_neg (by omega), if_neg (by omega), if_neg (by omega)] at hp ba bb
    rw [if_neg (by omega), if_neg (by omega), if_neg (by omega), if_neg (by omega)] at hp
    unfold memI at hp
    simp only [List.cons.injEq, uintI_inj, boolI_inj, and_true] at hp
    rw [← ba, ← bb]
    unfold memB
    simp only [hk, hp.1, hp.2.1, hp.2.2.1, hp.2.2.2]
theorem headB_ok {m n : Int} (hm : 0 ≤ m ∧ m ≤ 7) (h0 : 0 ≤ n) : ∀ x ∈ headB m n, 0 ≤ x ∧ x ≤ 255 := by
  intro x hx
  unfold headB at hx
  split at hx
  · simp only [List.mem_cons, List.not_mem_nil, or_false] at hx
    omega
  · rcases List.mem_cons.1 hx with rfl | hx
    · unfold widX
      repeat' split
      all_goals omega
    · exact beN_ok _ _ x hx
theorem bytesL_ok {l : List It} (h : ∀ t ∈ l, ∀ x ∈ bytesI t, 0 ≤ x ∧ x ≤ 255) : ∀ x ∈ bytesL l, 0 ≤ x ∧ x ≤ 255 := by
  induction l with
  | nil => intro x hx; simp [bytesL] at hx
  | cons t l ih =>
    intro x hx
    rw [bytesL, List.mem_append] at hx
    rcases hx with hx | hx
    · exact h t (by simp) x hx
    · exact ih (fun y hy => h y (by simp [hy])) x hx
theorem Rdy.bytes {d : Nat} {t : It} (h : Rdy d t) : ∀ x ∈ bytesI t, 0 ≤ x ∧ x ≤ 255 := by
  induction h with
  | uint d n h0 h1 => rw [bytesI_uint]; exact headB_ok (by omega) h0
  | bool d n h =>
    rw [bytesI_bool]
    intro x hx
    simp only [List.mem_cons, List.not_mem_nil, or_false] at hx
    omega
  | list d l hl h ih =>
    rw [bytesI_list]
    intro x hx
    rcases List.mem_append.1 hx with hx | hx
    · exact headB_ok (by omega) (by omega) x hx
    · exact bytesL_ok ih x hx
theorem itemR_rdy {r : Rec} (hr : RecOk r) (h : rightE r = 0) : Rdy 5 (itemR r) ∧ (bytesR r).length ≤ 2000 := by
  obtain ⟨_, _, _, _, _, _, hl, hp⟩ := lay_of hr h
  exact itemR_ok (right_inv h).1 hp hl.2
theorem decP_bytes (tx : ByteArray → Option Bool) {t : It} (h : Rdy 8 t) (hl : (bytesI t).length ≤ 65536) : decP tx (bytesI t) = .ok t := by
  have := itemP_bytes (tx := tx) h []
  rw [List.append_nil] at this
  unfold decP firstP
  rw [if_pos hl, this]
  simp
theorem decP_R (tx : ByteArray → Option Bool) {r : Rec} (hr : RecOk r) (h : rightE r = 0) : decP tx (bytesR r) = .ok (itemR r) :=
  decP_bytes tx (itemR_rdy hr h).1.up.up.up (by have := (itemR_rdy hr h).2; unfold bytesR at this; omega)
theorem bytesR_inj {a b : Rec} (ha : RecOk a) (hb : RecOk b) (ra : rightE a = 0) (rb : rightE b = 0) : bytesR a = bytesR b ↔ a = b := by
  refine ⟨fun h => itemR_inj ha hb ra rb ?_, fun h => by rw [h]⟩
  have h1 := decP_R (fun _ => none) ha ra
  rw [h, decP_R _ hb rb] at h1
  exact (Except.ok.inj h1).symm
end Go.Proofs
