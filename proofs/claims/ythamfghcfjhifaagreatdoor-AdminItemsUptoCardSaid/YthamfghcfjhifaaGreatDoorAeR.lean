/-
  Contracts of the functions that the law reaches, step by step.
-/
import Derived.Test.YthamfghcfjhifaaGreatDoorAeP
namespace Go.Proofs
open Pk
set_option maxRecDepth 10000
theorem readKd_c {fl fr ff : Nat} {s : ByteArray} {r r1 : Rec} {w : World} {cs : List Value} (hk0 : 0 ≤ r.kind ∧ r.kind ≤ 5) (ht : ItC w (itemR r) cs) (hk : mget kdL r.kind = some [.string s, fnV fl, fnV fr, fnV ff]) (hnn : ∀ y ∈ partsR r, 0 ≤ y.n)
    (hread : ReadsI fr r.kind (partsR r) (some (r1, []))) {b : Bool} (hfine : Fines ff r1 b) : FN Tryz.prog 38 [.agg cs.toArray] w fun e w' => RcPost w w' (if b then some r1 else none) e := by
  have := readI_c (fb := fun _ => b) ht rfl rfl rfl hk0 (fun y hy => by
    rcases List.mem_cons.1 hy with rfl | hy
    · exact hk0.1
    · exact hnn y hy) hk hread (fun r' rest h => by cases h; exact hfine)
  have ho : readO (some (r1, [])) (fun _ => b) = if b then some r1 else none := by cases b <;> rfl
  rw [ho] at this
  exact this
/-- An ask without a region is none. -/
theorem readBad_c {r : Rec} (hr : RecOk r) (hk2 : r.kind = 2) (hn : r.num ≤ 4294967295) (hb : decide (0 < min r.node r.reg) = false) {w : World} {cs : List Value} (ht : ItC w (itemR r) cs) : FN Tryz.prog 38 [.agg cs.toArray] w fun e w' => RcPost w w' none e := by
  have hf' := there_c (askBr r)
  rw [show decide (0 < min (askBr r).node (askBr r).reg) = false from hb] at hf'
  have hp : partsR r = askI r := by unfold partsR; rw [if_neg (by omega), if_pos hk2]
  refine readKd_c (b := false) (fl := 58) (fr := 61) (ff := 64) (s := ⟨#[97, 115, 107]⟩) ⟨by omega, by omega⟩ ht (by rw [hk2]; rfl) ?_ ?_ hf'
  · rw [hp]
    exact nn_leaf (by simp [askI]; exact ⟨.inl ⟨_, rfl, hr.num.1⟩, .inl ⟨_, rfl, hr.node.1⟩, .inl ⟨_, rfl, hr.reg.1⟩⟩)
  · rw [hp]
    intro w0 w' b rb h hR hrb hne
    have := rdAsk_c h hR hrb hne
    rw [rdAsk_I hr hn] at this
    exact this
end Go.Proofs
namespace Go.Proofs
open Pk
set_option maxRecDepth 10000
theorem headB_ok {m n : Int} (hm : 0 ≤ m ∧ m ≤ 7) (h0 : 0 ≤ n) : ∀ x ∈ headB m n, 0 ≤ x ∧ x ≤ 255 := by
  intro x hx
  unfold headB at hx
  split at hx
  · simp only [List.mem_cons, List.not_mem_nil, or_false] at hx
    omega
  · rcases List.mem_cons.1 hx with rfl | hx
    · unfold widX
      repeat' split
      all_goals omega
    · exact beN_ok _ _ x hx
theorem bytesL_ok {l : List It} (h : ∀ t ∈ l, ∀ x ∈ bytesI t, 0 ≤ x ∧ x ≤ 255) : ∀ x ∈ bytesL l, 0 ≤ x ∧ x ≤ 255 := by
  induction l with
  | nil => intro x hx; simp [bytesL] at hx
  | cons t l ih =>
    intro x hx
    rw [bytesL, List.mem_append] at hx
    rcases hx with hx | hx
    · exact h t (by simp) x hx
    · exact ih (fun y hy => h y (by simp [hy])) x hx
theorem Rdy.bytes {d : Nat} {t : It} (h : Rdy d t) : ∀ x ∈ bytesI t, 0 ≤ x ∧ x ≤ 255 := by
  induction h with
  | uint d n h0 h1 => rw [bytesI_uint]; exact headB_ok (by omega) h0
  | bool d n h =>
    rw [bytesI_bool]
    intro x hx
    simp only [List.mem_cons, List.not_mem_nil, or_false] at hx
    omega
  | list d l hl h ih =>
    rw [bytesI_list]
    intro x hx
    rcases List.mem_append.1 hx with hx | hx
    · exact headB_ok (by omega) (by omega) x hx
    · exact bytesL_ok ih x hx
theorem decP_bytes (tx : ByteArray → Option Bool) {t : It} (h : Rdy 8 t) (hl : (bytesI t).length ≤ 65536) : decP tx (bytesI t) = .ok t := by
  have := itemP_bytes (tx := tx) h []
  rw [List.append_nil] at this
  unfold decP firstP
  rw [if_pos hl, this]
  simp
end Go.Proofs
