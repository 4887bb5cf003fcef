/-
  Contracts of the functions that the law reaches, step by step.
-/
import Derived.Test.YthamfghcfjhifaaGreatDoorAmO
import Derived.Lib.AppendZerosOnto
namespace Go.Proofs
open Pk
set_option maxRecDepth 10000
/-! ### Items -/
inductive It where
  | mk (k n : Int) (b : List Int) (s : ByteArray) (l : List It)
noncomputable instance : DecidableEq It := fun _ _ => Classical.propDecidable _
mutual
/-- The cells of an item; its rows stand where `Pd` holds. -/
def ItP (Pd : Nat → Prop) (W : World) : It → List Value → Prop
  | .mk k n b s l, cs => ∃ bv lv css, cs = [i64 k, u64 n, bv, .string s, lv] ∧ SlB W 1 bv b.length (b.map u8) ∧ SlB W 5 lv l.length css.flatten ∧ (b ≠ [] → Pd (slB bv)) ∧ (l ≠ [] → Pd (slB lv)) ∧ ItPs Pd W l css ∧ b.length ≤ 9223372036854775807 ∧ l.length ≤ 9223372036854775807
def ItPs (Pd : Nat → Prop) (W : World) : List It → List (List Value) → Prop
  | [], css => css = []
  | x :: l, css => ∃ c r, css = c :: r ∧ ItP Pd W x c ∧ ItPs Pd W l r
end
abbrev ItC (W : World) (t : It) (cs : List Value) : Prop := ItP (fun _ => True) W t cs
abbrev ItCs (W : World) (l : List It) (css : List (List Value)) : Prop := ItPs (fun _ => True) W l css
theorem itP_mk {Pd : Nat → Prop} {W : World} {k n : Int} {b : List Int} {s : ByteArray} {l : List It} {cs : List Value} : ItP Pd W (.mk k n b s l) cs ↔ ∃ bv lv css, cs = [i64 k, u64 n, bv, .string s, lv] ∧ SlB W 1 bv b.length (b.map u8) ∧ SlB W 5 lv l.length css.flatten ∧ (b ≠ [] → Pd (slB bv)) ∧ (l ≠ [] → Pd (slB lv)) ∧ ItPs Pd W l css ∧ b.length ≤ 9223372036854775807 ∧ l.length ≤ 9223372036854775807 := by
  rw [ItP]
theorem itC_mk {W : World} {k n : Int} {b : List Int} {s : ByteArray} {l : List It} {cs : List Value} : ItC W (.mk k n b s l) cs ↔ ∃ bv lv css, cs = [i64 k, u64 n, bv, .string s, lv] ∧ SlB W 1 bv b.length (b.map u8) ∧ SlB W 5 lv l.length css.flatten ∧ ItCs W l css ∧ b.length ≤ 9223372036854775807 ∧ l.length ≤ 9223372036854775807 := by
  rw [ItC, itP_mk]
  constructor
  · rintro ⟨bv, lv, css, h1, h2, h3, -, -, h4⟩; exact ⟨bv, lv, css, h1, h2, h3, h4⟩
  · rintro ⟨bv, lv, css, h1, h2, h3, h4⟩; exact ⟨bv, lv, css, h1, h2, h3, fun _ => trivial, fun _ => trivial, h4⟩
theorem itPs_iff {Pd : Nat → Prop} {W : World} : ∀ {l : List It} {css : List (List Value)}, ItPs Pd W l css ↔ css.length = l.length ∧ ∀ (i : Nat) (x : It) (c : List Value), l[i]? = some x → css[i]? = some c → ItP Pd W x c
  | [], css => by
    rw [ItPs]
    constructor
    · rintro rfl; exact ⟨rfl, fun i x c h => by simp at h⟩
    · rintro ⟨h, -⟩; exact List.eq_nil_of_length_eq_zero h
  | x :: l, css => by
    rw [ItPs]
    constructor
    · rintro ⟨c, r, rfl, h1, h2⟩
      obtain ⟨h3, h4⟩ := itPs_iff.1 h2
      refine ⟨by simp [h3], fun i y d hy hd => ?_⟩
      cases i with
      | zero => simp at hy hd; subst hy; subst hd; exact h1
      | succ i => simp at hy hd; exact h4 i y d hy hd
    · rintro ⟨h1, h2⟩
      cases css with
      | nil => simp at h1
      | cons c r =>
        refine ⟨c, r, rfl, h2 0 x c rfl rfl, itPs_iff.2 ⟨by simpa using h1, fun i y d hy hd => h2 (i + 1) y d (by simpa using hy) (by simpa using hd)⟩⟩
theorem itCs_iff {W : World} {l : List It} {css : List (List Value)} : ItCs W l css ↔ css.length = l.length ∧ ∀ (i : Nat) (x : It) (c : List Value), l[i]? = some x → css[i]? = some c → ItC W x c := itPs_iff
theorem It.lt {l : List It} {x : It} (h : x ∈ l) (k n : Int) (b : List Int) (s : ByteArray) : SizeOf.sizeOf x < SizeOf.sizeOf (It.mk k n b s l) := by
  have := List.sizeOf_lt_of_mem h
  simp
  omega
theorem itC_len {W : World} : ∀ {t : It} {cs : List Value}, ItC W t cs → cs.length = 5
  | .mk _ _ _ _ _, _, h => by obtain ⟨bv, lv, css, rfl, -⟩ := itC_mk.1 h; rfl
theorem sl_keep {W W' : World} {S : Nat → Prop} {s n : Nat} {v : Value} {xs : List Value} (h : Sl W s v n xs) (hM : Mod S W W') (hS : xs ≠ [] → ¬ S (slB v)) : Sl W' s v n xs := by
  by_cases hx : xs = []
  · subst hx
    exact ⟨h.len, h.val, fun _ _ h => by simp at h⟩
  · exact h.mod hM (hS hx)
/-- An item goes on: what has changed is not where its rows stand. -/
theorem itP_go {Pd Pd' S : Nat → Prop} {W W' : World} (hM : Mod S W W') (hP : ∀ k, k < W.heap.size → Pd k → Pd' k ∧ ¬ S k) : ∀ (m : Nat) (t : It) (cs : List Value), SizeOf.sizeOf t ≤ m → ItP Pd W t cs → ItP Pd' W' t cs := by
  intro m
  induction m with
  | zero => intro t cs h; cases t; simp at h
  | succ m ih =>
    intro t cs h hc
    obtain ⟨k, n, b, s, l⟩ := t
    obtain ⟨bv, lv, css, rfl, h1, h2, p1, p2, h3, h4⟩ := itP_mk.1 hc
    obtain ⟨h5, h6⟩ := itPs_iff.1 h3
    have l1 : b ≠ [] → slB bv < W.heap.size := fun hb => h1.lt (by simpa using List.length_pos_iff.2 hb)
    have l2 : l ≠ [] → slB lv < W.heap.size := fun hb => h2.lt (by have := List.length_pos_iff.2 hb; have := h2.len; omega)
    refine itP_mk.2 ⟨bv, lv, css, rfl, h1.mod hM fun hx => (hP _ (l1 (by simpa using hx)) (p1 (by simpa using hx))).2, h2.mod hM fun hx => ?_, fun hb => (hP _ (l1 hb) (p1 hb)).1, fun hb => (hP _ (l2 hb) (p2 hb)).1, itPs_iff.2 ⟨h5, fun i x c hx hcc => ih x c ?_ (h6 i x c hx hcc)⟩, h4⟩
    · have hl : l ≠ [] := fun e => hx (by subst e; have := h2.len; exact List.eq_nil_of_length_eq_zero (by simpa using this))
      exact (hP _ (l2 hl) (p2 hl)).2
    · have := It.lt (List.mem_of_getElem? hx) k n b s
      omega
theorem ItP.go {Pd Pd' S : Nat → Prop} {W W' : World} {t : It} {cs : List Value} (h : ItP Pd W t cs) (hM : Mod S W W') (hP : ∀ k, k < W.heap.size → Pd k → Pd' k ∧ ¬ S k) : ItP Pd' W' t cs := itP_go hM hP _ t cs (Nat.le_refl _) h
theorem ItP.ext {Pd : Nat → Prop} {W W' : World} {t : It} {cs : List Value} (h : ItP Pd W t cs) (hE : Ext W W') : ItP Pd W' t cs := h.go (hE.mod (S := fun _ => False)) fun _ _ h => ⟨h, id⟩
theorem ItC.ext {W W' : World} {t : It} {cs : List Value} (h : ItC W t cs) (hE : Ext W W') : ItC W' t cs := ItP.ext h hE
theorem ItP.any {Pd : Nat → Prop} {W : World} {t : It} {cs : List Value} (h : ItP Pd W t cs) : ItC W t cs := h.go (Mod.refl (fun _ => False) W) fun _ _ _ => ⟨trivial, id⟩
theorem ItPs.go {Pd Pd' S : Nat → Prop} {W W' : World} {l : List It} {css : List (List Value)} (h : ItPs Pd W l css) (hM : Mod S W W') (hP : ∀ k, k < W.heap.size → Pd k → Pd' k ∧ ¬ S k) : ItPs Pd' W' l css := by
  obtain ⟨h1, h2⟩ := itPs_iff.1 h
  exact itPs_iff.2 ⟨h1, fun i x c hx hc => (h2 i x c hx hc).go hM hP⟩
theorem ItPs.ext {Pd : Nat → Prop} {W W' : World} {l : List It} {css : List (List Value)} (h : ItPs Pd W l css) (hE : Ext W W') : ItPs Pd W' l css := h.go (hE.mod (S := fun _ => False)) fun _ _ h => ⟨h, id⟩
theorem ItCs.ext {W W' : World} {l : List It} {css : List (List Value)} (h : ItCs W l css) (hE : Ext W W') : ItCs W' l css := ItPs.ext h hE
theorem ItPs.any {Pd : Nat → Prop} {W : World} {l : List It} {css : List (List Value)} (h : ItPs Pd W l css) : ItCs W l css := h.go (Mod.refl (fun _ => False) W) fun _ _ _ => ⟨trivial, id⟩
theorem ItPs.snoc {Pd : Nat → Prop} {W : World} {l : List It} {css : List (List Value)} (h : ItPs Pd W l css) {x : It} {c : List Value} (hx : ItP Pd W x c) : ItPs Pd W (l ++ [x]) (css ++ [c]) := by
  obtain ⟨h1, h2⟩ := itPs_iff.1 h
  refine itPs_iff.2 ⟨by simp [h1], fun i y d hy hd => ?_⟩
  by_cases hi : i < l.length
  · rw [List.getElem?_append_left hi] at hy
    rw [List.getElem?_append_left (by omega)] at hd
    exact h2 i y d hy hd
  · rw [List.getElem?_append_right (by omega)] at hy
    rw [List.getElem?_append_right (by omega), h1] at hd
    cases hj : i - l.length with
    | zero => rw [hj] at hy hd; simp at hy hd; subst hy; subst hd; exact hx
    | succ j => rw [hj] at hy; simp at hy
theorem ItPs.cons {Pd : Nat → Prop} {W : World} {l : List It} {css : List (List Value)} (h : ItPs Pd W l css) {x : It} {c : List Value} (hx : ItP Pd W x c) : ItPs Pd W (x :: l) (c :: css) := by
  rw [ItPs]; exact ⟨c, css, rfl, hx, h⟩
theorem itPs_nil {Pd : Nat → Prop} {W : World} : ItPs Pd W [] [] := by rw [ItPs]
theorem itCs_five {W : World} {l : List It} {css : List (List Value)} (h : ItCs W l css) : ∀ c ∈ css, c.length = 5 := by
  intro c hc
  obtain ⟨h1, h2⟩ := itCs_iff.1 h
  obtain ⟨i, hi, rfl⟩ := List.getElem_of_mem hc
  exact itC_len (h2 i l[i] _ (List.getElem?_eq_getElem (by omega)) (List.getElem?_eq_getElem hi))
theorem flat5 : ∀ {css : List (List Value)} (_ : ∀ c ∈ css, c.length = 5) (i j : Nat) (c : List Value), css[i]? = some c → j < 5 → css.flatten[i * 5 + j]? = c[j]?
  | [], _, i, _, _, hc, _ => by simp at hc
  | d :: css, h, i, j, c, hc, hj => by
    have hd := h d (by simp)
    cases i with
    | zero =>
      simp at hc; subst hc
      rw [List.flatten_cons, List.getElem?_append_left (by omega)]; simp
    | succ i =>
      rw [List.flatten_cons, List.getElem?_append_right (by omega)]
      have := flat5 (css := css) (fun c hc => h c (by simp [hc])) i j c (by simpa using hc) hj
      rw [← this]; congr 1; omega
/-- An item in a row. -/
structure ItAt (W : World) (v : Value) (i : Nat) (k n : Int) (bv : Value) (s : ByteArray) (lv : Value) : Prop where
  c0 : W.cell? ⟨slB v, slO v + i * 5, none⟩ = some (i64 k)
  c1 : W.cell? ⟨slB v, slO v + i * 5 + 1, none⟩ = some (u64 n)
  c2 : W.cell? ⟨slB v, slO v + i * 5 + 2, none⟩ = some bv
  c3 : W.cell? ⟨slB v, slO v + i * 5 + 3, none⟩ = some (.string s)
  c4 : W.cell? ⟨slB v, slO v + i * 5 + 4, none⟩ = some lv
theorem ItAt.ext {W W' : World} {v : Value} {i : Nat} {k n : Int} {bv : Value} {s : ByteArray} {lv : Value} (h : ItAt W v i k n bv s lv) (hE : Ext W W') : ItAt W' v i k n bv s lv :=
  ⟨hE.cell_eq h.c0, hE.cell_eq h.c1, hE.cell_eq h.c2, hE.cell_eq h.c3, hE.cell_eq h.c4⟩
theorem itRow {W : World} {v : Value} {l : List It} {css : List (List Value)} (h : SlB W 5 v l.length css.flatten) (hc : ItCs W l css) {i : Nat} (hi : i < l.length) :
    ∃ k n bv s lv, css[i]? = some [i64 k, u64 n, bv, .string s, lv] ∧ ItC W l[i] [i64 k, u64 n, bv, .string s, lv] ∧ ItAt W v i k n bv s lv := by
  obtain ⟨h1, h2⟩ := itCs_iff.1 hc
  have hci := List.getElem?_eq_getElem (l := css) (i := i) (by omega)
  have hx := h2 i l[i] _ (List.getElem?_eq_getElem hi) hci
  obtain ⟨k, n, b, s, l', hl⟩ : ∃ k n b s l', l[i] = It.mk k n b s l' := by
    cases l[i] with
    | mk k n b s l' => exact ⟨k, n, b, s, l', rfl⟩
  rw [hl] at hx
  obtain ⟨bv, lv, css', hcs, -⟩ := itC_mk.1 hx
  rw [hcs] at hci hx
  have d := fun (j : Nat) (u : Value) (hj : j < 5) (e : ([i64 k, u64 n, bv, .string s, lv] : List Value)[j]? = some u) => h.at_ (i * 5 + j) u ((flat5 (itCs_five hc) i j _ hci hj).trans e)
  simp only [← Nat.add_assoc] at d
  exact ⟨k, n, bv, s, lv, hci, by rw [hl]; exact hx, d 0 _ (by omega) rfl, d 1 _ (by omega) rfl, d 2 _ (by omega) rfl, d 3 _ (by omega) rfl, d 4 _ (by omega) rfl⟩
theorem itC_slices {W : World} {t : It} {k n : Int} {bv : Value} {s : ByteArray} {lv : Value} (h : ItC W t [i64 k, u64 n, bv, .string s, lv]) : (∃ a m c, bv = .slice a m c) ∧ ∃ a m c, lv = .slice a m c := by
  obtain ⟨k', n', b', s', l'⟩ := t
  obtain ⟨bv', lv', css, hcs, h1, h2, -⟩ := itC_mk.1 h
  simp at hcs
  obtain ⟨-, -, rfl, -, rfl⟩ := hcs
  obtain ⟨a, c, ha⟩ := h1.isSlice
  obtain ⟨a', c', ha'⟩ := h2.isSlice
  exact ⟨⟨a, _, c, ha⟩, ⟨a', _, c', ha'⟩⟩
/-- An item in a block of its own. -/
structure ItBx (W : World) (b : Nat) (k n : Int) (bv : Value) (s : ByteArray) (lv : Value) : Prop where
  c0 : W.cell? ⟨b, 0, none⟩ = some (i64 k)
  c1 : W.cell? ⟨b, 1, none⟩ = some (u64 n)
  c2 : W.cell? ⟨b, 2, none⟩ = some bv
  c3 : W.cell? ⟨b, 3, none⟩ = some (.string s)
  c4 : W.cell? ⟨b, 4, none⟩ = some lv
  fz : ∀ j, W.frozen? ⟨b, j, none⟩ = false
theorem ItBx.new (W : World) (k n : Int) (bv : Value) (s : ByteArray) (lv : Value) (ty : TypeId) : ItBx (W.alloc (.cells #[i64 k, u64 n, bv, .string s, lv] ty)) W.heap.size k n bv s lv := by
  have ho := World.alloc_heap_new W (.cells #[i64 k, u64 n, bv, .string s, lv] ty)
  refine ⟨by simp, by simp, by simp, by simp, by simp, fun j => ?_⟩
  simp only [World.frozen?, ho]
  show (decide (0 ≤ j) && decide (j < 0)) = false
  simp
theorem ItBx.keep {W W' : World} {b : Nat} {k n : Int} {bv : Value} {s : ByteArray} {lv : Value} (h : ItBx W b k n bv s lv) (hb : W'.heap[b]? = W.heap[b]?) : ItBx W' b k n bv s lv := by
  refine ⟨?_, ?_, ?_, ?_, ?_, fun j => ?_⟩
  · rw [← h.c0]; unfold World.cell?; rw [hb]
  · rw [← h.c1]; unfold World.cell?; rw [hb]
  · rw [← h.c2]; unfold World.cell?; rw [hb]
  · rw [← h.c3]; unfold World.cell?; rw [hb]
  · rw [← h.c4]; unfold World.cell?; rw [hb]
  · rw [← h.fz j]; unfold World.frozen?; rw [hb]
theorem ItBx.lt {W : World} {b : Nat} {k n : Int} {bv : Value} {s : ByteArray} {lv : Value} (h : ItBx W b k n bv s lv) : b < W.heap.size := World.block_lt_of_cell? _ _ h.c0
theorem ItBx.ext {W W' : World} {b : Nat} {k n : Int} {bv : Value} {s : ByteArray} {lv : Value} (h : ItBx W b k n bv s lv) (hE : Ext W W') : ItBx W' b k n bv s lv := h.keep (hE.blk b h.lt)
theorem ItBx.mod {W W' : World} {b : Nat} {k n : Int} {bv : Value} {s : ByteArray} {lv : Value} {S : Nat → Prop} (h : ItBx W b k n bv s lv) (hE : Mod S W W') (hS : ¬ S b) : ItBx W' b k n bv s lv := h.keep (hE.blk b h.lt hS)
end Go.Proofs
namespace Go.Proofs
open Pk
set_option maxRecDepth 10000
attribute [local simp] beq_dec bne_dec prod_eta
theorem str_eq (s t : ByteArray) : (s.toList == t.toList) = decide (s = t) := by
  rw [ByteArray.toList_eq, ByteArray.toList_eq]
  obtain ⟨s⟩ := s
  obtain ⟨t⟩ := t
  rw [Bool.eq_iff_iff]
  simp only [beq_iff_eq, decide_eq_true_eq]
  constructor
  · intro h; rw [Array.toList_inj.1 h]
  · intro h; cases h; rfl
attribute [simp] str_eq
theorem beq_c {w : World} {v v' : Value} {b b' : List Int} (h : SlB w 1 v b.length (b.map u8)) (h' : SlB w 1 v' b'.length (b'.map u8)) (hb : b.length ≤ 9223372036854775807) :
    FN Tryz.prog 132 [v, v'] w fun e w' => e = .returned (.bool (decide (b = b'))) ∧ Ext w w' := by
  refine FN_enter Tryz.func132 rfl rfl (by kernel_rfl) ?_
  have l1 := fun ty W => h.isLen (P := Tryz.prog) (t := 31) (by simp) ty W
  have l2 := fun ty W => h'.isLen (P := Tryz.prog) (t := 31) (by simp) ty W
  by_cases hl : b.length = b'.length
  · simp [l1, l2, hl]
    rw [← hl]
    refine WC_loop (fun k ρ ds w' => ∃ i : Nat, k = b.length - i ∧ i ≤ b.length ∧ ρ 0 = v ∧ ρ 1 = v' ∧ ρ 12 = i64 b.length ∧ ρ 13 = i64 i ∧ ds = [] ∧ Ext w w' ∧ b.take i = b'.take i) b.length ⟨0, by simp, by simp, by simp, by simp, by simp, by simp, rfl, Ext.refl _, rfl⟩ ?_
    rintro k ρ ds w1 ⟨i, rfl, hi, e0, e1, e12, e13, rfl, hE, ht⟩
    by_cases hlt : i < b.length
    · have hlt' : i < b'.length := by omega
      simp [e12, e13, hlt]
      refine WC_drawQ 8 rfl (by kernel_rfl) ?_
      have hd := hE.trans (Ext.drew w1)
      have s1 := h.ext hd
      have s2 := h'.ext hd
      have i1 := s1.index (P := Tryz.prog) (t := 31) (by simp) .i64 i (by omega) (by omega) w1.drew
      have i2 := s2.index (P := Tryz.prog) (t := 31) (by simp) .i64 i (by omega) (by omega) w1.drew
      have a1 := s1.at_ i (u8 b[i]) (by simp [hlt])
      have a2 := s2.at_ i (u8 b'[i]) (by simp [hlt'])
      simp at i1 i2
      have t1 : b.take (i + 1) = b.take i ++ [b[i]] := by rw [List.take_add_one, List.getElem?_eq_getElem hlt]; rfl
      have t2 : b'.take (i + 1) = b'.take i ++ [b'[i]] := by rw [List.take_add_one, List.getElem?_eq_getElem hlt']; rfl
      by_cases he : b[i] = b'[i]
      · simp [e0, e1, e12, e13, i1, i2, a1, a2, he]
        exact ⟨b.length - (i + 1), by omega, i + 1, rfl, by omega, by rw [wrap64 _ (by omega) (by omega)]; rfl, hd, by rw [t1, t2, ht, he]⟩
      · simp [e0, e1, i1, i2, a1, a2, he]
        refine ⟨fun h => he ?_, hd⟩
        simp [h]
    · have : i = b.length := by omega
      subst this
      simp [e12, e13]
      rw [List.take_length, hl, List.take_length] at ht
      exact ⟨ht, hE⟩
  · have hn : ¬ b = b' := fun e => hl (by rw [e])
    have hl2 : ¬ ((b.length : Int) = (b'.length : Int)) := by omega
    simp [l1, l2, hl2, hn]
    exact Ext.refl w
theorem It.inj {k n : Int} {b : List Int} {s : ByteArray} {l : List It} {k' n' : Int} {b' : List Int} {s' : ByteArray} {l' : List It} : It.mk k n b s l = It.mk k' n' b' s' l' ↔ k = k' ∧ n = n' ∧ b = b' ∧ s = s' ∧ l = l' := by
  constructor
  · intro h; cases h; exact ⟨rfl, rfl, rfl, rfl, rfl⟩
  · rintro ⟨rfl, rfl, rfl, rfl, rfl⟩; rfl
/-- Rows of items, compared by what compares their items. -/
theorem ieq_c {w : World} {v v' : Value} {l l' : List It} {css css' : List (List Value)} {f : FuncId} (h : SlB w 5 v l.length css.flatten) (hc : ItCs w l css) (h' : SlB w 5 v' l'.length css'.flatten) (hc' : ItCs w l' css') (hb : l.length ≤ 9223372036854775807)
    (hf : ∀ (x y : It) (cs ds : List Value) (W : World), x ∈ l → y ∈ l' → ItC W x cs → ItC W y ds → FN Tryz.prog f [.agg cs.toArray, .agg ds.toArray] W fun e w' => e = .returned (.bool (decide (x = y))) ∧ Ext W w') :
    FN Tryz.prog 133 [v, v', .func (.func f) #[] #[]] w fun e w' => e = .returned (.bool (decide (l = l'))) ∧ Ext w w' := by
  refine FN_enter Tryz.func133 rfl rfl (by kernel_rfl) ?_
  have l1 := fun ty W => h.isLen (P := Tryz.prog) (t := 48) (by simp) ty W
  have l2 := fun ty W => h'.isLen (P := Tryz.prog) (t := 48) (by simp) ty W
  by_cases hl : l.length = l'.length
  · simp [l1, l2, hl]
    rw [← hl]
    refine WC_loop (fun k ρ ds w' => ∃ i : Nat, k = l.length - i ∧ i ≤ l.length ∧ ρ 1 = v' ∧ ρ 2 = .func (.func f) #[] #[] ∧ ρ 15 = v ∧ ρ 16 = i64 l.length ∧ ρ 17 = i64 i ∧ ds = [] ∧ Ext w w' ∧ l.take i = l'.take i) l.length ⟨0, by simp, by simp, by simp, by simp, by simp, by simp, by simp, rfl, Ext.refl _, rfl⟩ ?_
    rintro k ρ ds w1 ⟨i, rfl, hi, e1, e2, e15, e16, e17, rfl, hE, ht⟩
    by_cases hlt : i < l.length
    · have hlt' : i < l'.length := by omega
      obtain ⟨k1, n1, b1, s1, v1, g1, c1, r1⟩ := itRow (h.ext hE) (hc.ext hE) hlt
      obtain ⟨k2, n2, b2, s2, v2, g2, c2, r2⟩ := itRow (h'.ext hE) (hc'.ext hE) hlt'
      have i1 := fun W => h.index (P := Tryz.prog) (t := 48) (by simp) .i64 i (by omega) (by omega) W
      have i2 := fun W => h'.index (P := Tryz.prog) (t := 48) (by simp) .i64 i (by omega) (by omega) W
      simp at i1 i2
      obtain ⟨⟨ba1, bm1, bc1, rfl⟩, ⟨la1, lm1, lc1, rfl⟩⟩ := itC_slices c1
      obtain ⟨⟨ba2, bm2, bc2, rfl⟩, ⟨la2, lm2, lc2, rfl⟩⟩ := itC_slices c2
      have hEA := (Ext.refl w1).alloc (.cells #[i64 k1, u64 n1, .slice ba1 bm1 bc1, .string s1, .slice la1 lm1 lc1] 51)
      have r2' := r2.ext hEA
      have hEB := hEA.alloc (.cells #[i64 k2, u64 n2, .slice ba2 bm2 bc2, .string s2, .slice la2 lm2 lc2] 51)
      simp [e1, e2, e15, e16, e17, hlt, i1, i2, r1.c0, r1.c1, r1.c2, r1.c3, r1.c4, r2.c0, r2.c1, r2.c2, r2.c3, r2.c4]
      have t1 : l.take (i + 1) = l.take i ++ [l[i]] := by rw [List.take_add_one, List.getElem?_eq_getElem hlt]; rfl
      have t2 : l'.take (i + 1) = l'.take i ++ [l'[i]] := by rw [List.take_add_one, List.getElem?_eq_getElem hlt']; rfl
      refine FN.mono (hf l[i] l'[i] _ _ _ (List.getElem_mem hlt) (List.getElem_mem hlt') (c1.ext hEB) (c2.ext hEB)) ?_
      rintro _ w2 ⟨rfl, hE2⟩
      have hE3 := hE.trans (hEB.trans hE2)
      by_cases he : l[i] = l'[i]
      · simp [e1, e2, e15, e16, e17, he]
        exact ⟨l.length - (i + 1), by omega, i + 1, rfl, by omega, by rw [wrap64 _ (by omega) (by omega)]; rfl, hE3, by rw [t1, t2, ht, he]⟩
      · simp [he]
        refine ⟨fun h => he ?_, hE3⟩
        simp [h]
    · have : i = l.length := by omega
      subst this
      simp [e16, e17]
      rw [List.take_length, hl, List.take_length] at ht
      exact ⟨ht, hE⟩
  · have hn : ¬ l = l' := fun e => hl (by rw [e])
    have hl2 : ¬ ((l.length : Int) = (l'.length : Int)) := by omega
    simp [l1, l2, hl2, hn]
    exact Ext.refl w
/-- Are two items the same? -/
theorem same_n : ∀ (m : Nat) (t u : It) (cs ds : List Value) (w : World), SizeOf.sizeOf t ≤ m → ItC w t cs → ItC w u ds → FN Tryz.prog 97 [.agg cs.toArray, .agg ds.toArray] w fun e w' => e = .returned (.bool (decide (t = u))) ∧ Ext w w' := by
  intro m
  induction m with
  | zero => intro t u cs ds w hm; cases t; simp at hm
  | succ m ih =>
    intro t u cs ds w hm ht hu
    obtain ⟨k, n, b, s, l⟩ := t
    obtain ⟨k', n', b', s', l'⟩ := u
    obtain ⟨bv, lv, css, rfl, hb, hl, hc, hb1, hl1⟩ := itC_mk.1 ht
    obtain ⟨bv', lv', css', rfl, hb', hl', hc', hb1', hl1'⟩ := itC_mk.1 hu
    obtain ⟨⟨ba1, bm1, bc1, rfl⟩, ⟨la1, lm1, lc1, rfl⟩⟩ := itC_slices ht
    obtain ⟨⟨ba2, bm2, bc2, rfl⟩, ⟨la2, lm2, lc2, rfl⟩⟩ := itC_slices hu
    refine FN_enter Tryz.func97 rfl rfl (by kernel_rfl) ?_
    have hE1 : Ext w ((w.alloc (.cells #[i64 k, u64 n, .slice ba1 bm1 bc1, .string s, .slice la1 lm1 lc1] 51)).alloc (.cells #[i64 k', u64 n', .slice ba2 bm2 bc2, .string s', .slice la2 lm2 lc2] 51)) := ((Ext.refl w).alloc _).alloc _
    have x1 : ItBx ((w.alloc (.cells #[i64 k, u64 n, .slice ba1 bm1 bc1, .string s, .slice la1 lm1 lc1] 51)).alloc (.cells #[i64 k', u64 n', .slice ba2 bm2 bc2, .string s', .slice la2 lm2 lc2] 51)) w.heap.size k n (.slice ba1 bm1 bc1) s (.slice la1 lm1 lc1) := (ItBx.new w _ _ _ _ _ 51).ext ((Ext.refl _).alloc _)
    have x2 : ItBx ((w.alloc (.cells #[i64 k, u64 n, .slice ba1 bm1 bc1, .string s, .slice la1 lm1 lc1] 51)).alloc (.cells #[i64 k', u64 n', .slice ba2 bm2 bc2, .string s', .slice la2 lm2 lc2] 51)) (w.heap.size + 1) k' n' (.slice ba2 bm2 bc2) s' (.slice la2 lm2 lc2) := by
      have := ItBx.new (w.alloc (.cells #[i64 k, u64 n, .slice ba1 bm1 bc1, .string s, .slice la1 lm1 lc1] 51)) k' n' (.slice ba2 bm2 bc2) s' (.slice la2 lm2 lc2) 51
      simpa using this
    rw [show decide (It.mk k n b s l = It.mk k' n' b' s' l') = decide (k = k' ∧ n = n' ∧ b = b' ∧ s = s' ∧ l = l') by simp]
    by_cases hk : k = k'
    · by_cases hn : n = n'
      · simp [hk, hn]
        rw [hk, hn] at hE1 x1 x2
        generalize ((w.alloc _).alloc _) = w1 at *
        refine FN.mono (beq_c (hb.ext hE1) (hb'.ext hE1) hb1) ?_
        rintro _ w2 ⟨rfl, hE2⟩
        have hE12 := hE1.trans hE2
        have y1 := x1.ext hE2
        have y2 := x2.ext hE2
        by_cases hbb : b = b'
        · by_cases hss : s = s'
          · simp [hk, hn, hbb, hss, y1.c3, y2.c3, y1.c4, y2.c4]
            refine FN.mono (ieq_c (hl.ext hE12) (hc.ext hE12) (hl'.ext hE12) (hc'.ext hE12) hl1 (fun x y cs ds W hx hy h1 h2 => ih x y cs ds W (by have := It.lt hx k n b s; omega) h1 h2)) ?_
            rintro _ w3 ⟨rfl, hE3⟩
            simp
            exact hE12.trans hE3
          · simp [hk, hn, hbb, hss, y1.c3, y2.c3]
            exact hE12
        · simp [hbb]
          exact hE12
      · simp [hk, hn]
        rw [hk] at hE1
        exact hE1
    · simp [hk]
      exact hE1
theorem same_c {w : World} {t u : It} {cs ds : List Value} (ht : ItC w t cs) (hu : ItC w u ds) : FN Tryz.prog 97 [.agg cs.toArray, .agg ds.toArray] w fun e w' => e = .returned (.bool (decide (t = u))) ∧ Ext w w' := same_n _ t u cs ds w (Nat.le_refl _) ht hu
end Go.Proofs
namespace Go.Proofs
open Pk
set_option maxRecDepth 10000
def It.k : It → Int | .mk k _ _ _ _ => k
def It.n : It → Int | .mk _ n _ _ _ => n
def It.b : It → List Int | .mk _ _ b _ _ => b
def It.s : It → ByteArray | .mk _ _ _ s _ => s
def It.l : It → List It | .mk _ _ _ _ l => l
/-- An item that lies. -/
structure ItO (W : World) (t : It) (cs : List Value) (bv lv : Value) (css : List (List Value)) : Prop where
  cs : cs = [i64 t.k, u64 t.n, bv, .string t.s, lv]
  b : SlB W 1 bv t.b.length (t.b.map u8)
  l : SlB W 5 lv t.l.length css.flatten
  c : ItCs W t.l css
  lb : t.b.length ≤ 9223372036854775807
  ll : t.l.length ≤ 9223372036854775807
theorem itO {W : World} {t : It} {cs : List Value} (h : ItC W t cs) : ∃ ba bc la lc css, ItO W t cs (.slice ba t.b.length bc) (.slice la t.l.length lc) css := by
  cases t with
  | mk k n b s l =>
    obtain ⟨bv, lv, css, h1, h2, h3, h4, h5, h6⟩ := itC_mk.1 h
    obtain ⟨ba, bc, e1⟩ := h2.isSlice
    obtain ⟨la, lc, e2⟩ := h3.isSlice
    subst e1 e2
    exact ⟨ba, bc, la, lc, css, h1, h2, h3, h4, h5, h6⟩
theorem ItO.ext {W W' : World} {t : It} {cs : List Value} {bv lv : Value} {css : List (List Value)} (h : ItO W t cs bv lv css) (hE : Ext W W') : ItO W' t cs bv lv css :=
  ⟨h.cs, h.b.ext hE, h.l.ext hE, ItCs.ext h.c hE, h.lb, h.ll⟩
theorem ItO.itC {W : World} {t : It} {cs : List Value} {bv lv : Value} {css : List (List Value)} (h : ItO W t cs bv lv css) : ItC W t cs := by
  cases t with
  | mk k n b s l => exact itC_mk.2 ⟨bv, lv, css, h.cs, h.b, h.l, h.c, h.lb, h.ll⟩
theorem itRowO {W : World} {v : Value} {l : List It} {css : List (List Value)} (h : SlB W 5 v l.length css.flatten) (hc : ItCs W l css) {i : Nat} {x : It} (hx : l[i]? = some x) :
    ∃ ba bc la lc css', ItO W x [i64 x.k, u64 x.n, .slice ba x.b.length bc, .string x.s, .slice la x.l.length lc] (.slice ba x.b.length bc) (.slice la x.l.length lc) css' ∧ ItAt W v i x.k x.n (.slice ba x.b.length bc) x.s (.slice la x.l.length lc) := by
  obtain ⟨hi, rfl⟩ := List.getElem?_eq_some_iff.1 hx
  obtain ⟨k, n, bv, s, lv, -, h2, h3⟩ := itRow h hc hi
  obtain ⟨ba, bc, la, lc, css', h4⟩ := itO h2
  have e := h4.cs
  simp only [List.cons.injEq, Value.int.injEq, Value.string.injEq, and_true, true_and] at e
  obtain ⟨rfl, rfl, rfl, rfl, rfl⟩ := e
  exact ⟨ba, bc, la, lc, css', h4, h3⟩
/-- The numbers of a list. -/
def uintsOf (t : It) : List Int := if t.k = 4 then (t.l.filter fun x => decide (x.k = 1)).map It.n else []
def usUpTo (t : It) (i : Nat) : List Int := ((t.l.take i).filter fun x => decide (x.k = 1)).map It.n
theorem usUpTo_succ (t : It) {i : Nat} {x : It} (hx : t.l[i]? = some x) : usUpTo t (i + 1) = usUpTo t i ++ (if x.k = 1 then [x.n] else []) := by
  unfold usUpTo
  rw [List.take_add_one, hx, Option.toList_some, List.filter_append, List.map_append]
  by_cases h : x.k = 1 <;> simp [h]
def uSeg (l pre : List Int) : Prop := pre ≠ [] ∧ ∃ suf, l = pre ++ suf
theorem usUpTo_pre (t : It) (i : Nat) : ∃ suf, usUpTo t t.l.length = usUpTo t i ++ suf := by
  unfold usUpTo
  rw [List.take_length]
  refine ⟨((t.l.drop i).filter fun x => decide (x.k = 1)).map It.n, ?_⟩
  rw [← List.map_append, ← List.filter_append, List.take_append_drop]
set_option maxHeartbeats 1000000 in
theorem uints_it {w0 w : World} {b : Nat} {t : It} {cs : List Value} (hx0 : Ext w0 w) (hb : Blk w b cs) (ht : ItC w0 t cs) :
    Iter Tryz.prog (.func (.func 184) #[] #[ptr b]) (fun x : Int => [u64 x]) (· = uintsOf t) (uSeg (uintsOf t)) (fun k => k < w0.heap.size ∨ k = b) w := by
  intro y C0 J Jx W hA hcap hC0 hJ hJx hyl h0
  have hold : ∀ k, k < w0.heap.size → ¬ C0 k := fun k hk => (hcap k (.inl hk)).2
  obtain ⟨ba, bc, la, lc, css, hO⟩ := itO ht
  have hEW : Ext w W := ⟨hA.os, hA.tape, hA.out, hA.size, fun i hi => hA.blk i hi hi⟩
  have hE0 := hx0.trans hEW
  have hOW := hO.ext hE0
  have hbW := hb.ext hEW
  have e := hO.cs
  subst e
  refine FN_enter Tryz.func184 rfl rfl (by kernel_rfl) ?_
  by_cases hk : t.k = 4
  · have hu : uintsOf t = usUpTo t t.l.length := by unfold uintsOf usUpTo; rw [if_pos hk, List.take_length]
    have hlen := fun ty W => hO.l.isLen (P := Tryz.prog) (t := 48) (by simp) ty W
    simp
    refine WC_scope 0 _ rfl ?_
    simp [hbW.cell 0 _ rfl, hbW.cell 4 _ rfl, hk, hlen]
    refine WC_loop (fun k ρ ds w' => ∃ (i : Nat) (C : Nat → Prop), k = t.l.length - i ∧ i ≤ t.l.length ∧ ρ 0 = y ∧ ρ 9 = .slice la t.l.length lc ∧ ρ 10 = i64 t.l.length ∧ ρ 11 = i64 i ∧ ds = [] ∧ J C (usUpTo t i) w' ∧
      (∀ k, C k → C0 k ∨ W.heap.size ≤ k) ∧ Agr (fun k => k < W.heap.size ∧ ¬ C0 k) W w') t.l.length ⟨0, C0, by simp, by simp, by simp, by simp, by simp, by simp, rfl, h0, fun k h => .inl h, Agr.refl _ _⟩ ?_
    rintro k ρ ds w3 ⟨i, C, rfl, hi, e0, e9, e10, e11, rfl, hj, hC, hAg⟩
    have hEx : Ext w0 w3 := ⟨hAg.os.trans hE0.os, hAg.tape.trans hE0.tape, hAg.out.trans hE0.out, Nat.le_trans hE0.size hAg.size, fun i hi => (hAg.blk i (Nat.lt_of_lt_of_le hi hE0.size) ⟨Nat.lt_of_lt_of_le hi hE0.size, hold i hi⟩).trans (hE0.blk i hi)⟩
    have hO3 := hO.ext hEx
    by_cases hlt : i < t.l.length
    · have hq := List.getElem?_eq_getElem hlt
      obtain ⟨x, hx⟩ : ∃ x, x = t.l[i] := ⟨_, rfl⟩
      rw [← hx] at hq
      obtain ⟨ba', bc', la', lc', css', hxO, hA'⟩ := itRowO hO3.l hO3.c hq
      have ix := hO3.l.index (P := Tryz.prog) (t := 48) (by simp) .i64 i (by omega) (by omega) w3
      simp at ix
      have hsuc := usUpTo_succ t hq
      have hw1 : IntKind.i64.wrap ((i : Int) + 1) = i + 1 := wrap64 _ (by omega) (by have := hO.ll; omega)
      have hE4 : Ext w3 (w3.alloc (.cells #[i64 x.k, u64 x.n, .slice ba' x.b.length bc', .string x.s, .slice la' x.l.length lc'] 51)) := (Ext.refl _).alloc _
      by_cases hk1 : x.k = 1
      · rw [if_pos hk1] at hsuc
        have hsp : uSeg (uintsOf t) (usUpTo t i ++ [x.n]) := by
          refine ⟨List.append_ne_nil_of_right_ne_nil _ (by simp), ?_⟩
          rw [hu, ← hsuc]
          exact usUpTo_pre t (i + 1)
        have hj4 := hJ _ _ _ _ hj hE4.agr
        have hc1 : ((x.k : Int) == 1) = true := by simp [hk1]
        simp [e0, e9, e10, e11, hlt, ix, hA'.c0, hA'.c1, hA'.c2, hA'.c3, hA'.c4, hc1]
        refine CV.mono (hyl C (usUpTo t i) x.n _ hsp hj4) ?_
        rintro _ w4 (⟨rfl, C', hj', hown⟩ | ⟨rfl, C', hj', hown⟩)
        · have hAg' : Agr (fun k => k < W.heap.size ∧ ¬ C0 k) w3 w4 := hE4.agr.trans (hown.mod.agr (S' := fun k => k < W.heap.size ∧ ¬ C0 k) (fun k hk hc => by rcases hC k hc with h | h; exact hk.2 h; omega))
          simp [e0, e9, e10, e11, hw1]
          refine ⟨t.l.length - (i + 1), by omega, i + 1, rfl, by omega, by push_cast; rfl, C', by rw [hsuc]; exact hj', ?_, hAg.trans hAg'⟩
          intro k hk
          rcases hown.own k hk with h | h
          · exact hC k h
          · exact .inr (Nat.le_trans hAg.size (Nat.le_trans hE4.size h))
        · simp
          exact ⟨C', .inr ⟨_, hsp, hj'⟩⟩
      · rw [if_neg hk1, List.append_nil] at hsuc
        have hj4 := hJ _ _ _ _ hj hE4.agr
        have hc1 : ((x.k : Int) == 1) = false := by simp [hk1]
        simp [e0, e9, e10, e11, hlt, ix, hA'.c0, hA'.c1, hA'.c2, hA'.c3, hA'.c4, hc1, hw1]
        exact ⟨t.l.length - (i + 1), by omega, i + 1, rfl, by omega, by push_cast; rfl, C, by rw [hsuc]; exact hj4, hC, hAg.trans hE4.agr⟩
    · simp [e10, e11, hlt]
      have hil : i = t.l.length := by omega
      rw [hil] at hj
      exact ⟨C, .inl (by rw [hu]; exact hj)⟩
  · have hu : uintsOf t = [] := by unfold uintsOf; rw [if_neg hk]
    simp
    refine WC_scope 0 _ rfl ?_
    simp [bne_dec, hbW.cell 0 _ rfl, hk]
    exact ⟨C0, .inl (by rw [hu]; exact h0)⟩
theorem uints_c {w : World} {t : It} {cs : List Value} (ht : ItC w t cs) : FN Tryz.prog 168 [.agg cs.toArray] w fun e w' => ∃ b, e = .returned (.func (.func 184) #[] #[ptr b]) ∧ Blk w' b cs ∧ w.heap.size ≤ b ∧ Ext w w' := by
  obtain ⟨ba, bc, la, lc, css, hO⟩ := itO ht
  have e := hO.cs
  subst e
  refine FN_enter Tryz.func168 rfl rfl (by kernel_rfl) ?_
  simp
  exact ⟨Blk.new w [i64 t.k, u64 t.n, .slice ba t.b.length bc, .string t.s, .slice la t.l.length lc] _, (Ext.refl _).alloc _⟩
/-- Numbers that are gathered in a row of one's own, kept in a cell. -/
structure Acc (w0 w : World) (bl : Nat) (v : Value) (acc : List Int) : Prop where
  var : Var w bl v
  own : w.ownsRow (bl + 1) 26 1 v acc.length (acc.map u64)
  ext : Ext w0 w
theorem Acc.more {w0 w w' : World} {bl : Nat} {v : Value} {acc : List Int} (h : Acc w0 w bl v acc) (hE : Ext w w') : Acc w0 w' bl v acc := ⟨h.var.ext hE, own_ext h.own hE, h.ext.trans hE⟩
def AccS (bl : Nat) (v : Value) (k : Nat) : Prop := k = bl ∨ (slN v = false ∧ k = slB v)
def Grew (w : World) (v v' : Value) : Prop := slN v' = false → (slN v = false ∧ slB v' = slB v) ∨ w.heap.size ≤ slB v'
theorem Acc.row {w0 w : World} {bl : Nat} {v : Value} {acc : List Int} (h : Acc w0 w bl v acc) (hn : slN v = false) : bl < slB v ∧ slB v < w.heap.size := by
  obtain ⟨c, hc⟩ := own_obj h.own hn
  exact ⟨by have := own_ge h.own hn; omega, (Array.getElem?_eq_some_iff.1 hc).1⟩
set_option maxHeartbeats 1000000 in
theorem add_c {w0 w : World} {bl : Nat} {v : Value} {acc : List Int} {t : It} {cs : List Value} (ht : ItC w0 t cs) (h : Acc w0 w bl v acc) (hbl : w0.heap.size ≤ bl) (hlen : (acc ++ uintsOf t).length ≤ 1048576) :
    FN Tryz.prog 167 [.agg cs.toArray, ptr bl] w fun e w' => (∃ u, e = .returned u) ∧ ∃ v', Acc w0 w' bl v' (acc ++ uintsOf t) ∧ Mod (AccS bl v) w w' ∧ Grew w v v' := by
  obtain ⟨hv, ho, hE⟩ := h
  have htw := ItP.ext ht hE
  obtain ⟨ba, bc, la, lc, css, hO⟩ := itO htw
  have e := hO.cs
  refine FN_enter Tryz.func167 rfl rfl (by kernel_rfl) ?_
  have hcs : cs.toArray = #[i64 t.k, u64 t.n, .slice ba t.b.length bc, .string t.s, .slice la t.l.length lc] := by rw [e]
  rw [hcs]
  simp
  have hE1 : Ext w (w.alloc (.cells #[i64 t.k, u64 t.n, .slice ba t.b.length bc, .string t.s, .slice la t.l.length lc] 51)) := (Ext.refl _).alloc _
  have hu := uints_c (ItP.ext htw hE1)
  rw [hcs] at hu
  have hbw := hv.lt
  refine FN.mono (hu) ?_
  rintro _ w2 ⟨b, rfl, hb, hb2, hE2⟩
  have hX := hE1.trans hE2
  have hX0 := hE.trans hX
  have v2 := hv.ext hX
  have o2 := own_ext ho hX
  have z1 := hE1.size
  have z2 := hE2.size
  have hit := uints_it hX0 hb ht
  have hrow : slN v = false → slB v < w.heap.size := fun hn => by
    obtain ⟨c, hc⟩ := own_obj ho hn
    exact (Array.getElem?_eq_some_iff.1 hc).1
  have hcap : ∀ k, (k < w0.heap.size ∨ k = b) → k < w2.heap.size := fun k hk => by
    rcases hk with hk | rfl
    · have := hX0.size; omega
    · exact hb.lt
  simp
  refine WC_rangeFunc (gf := 184) (first := #[]) (caps := #[ptr b]) (enc := fun x : Int => [u64 x]) (by simp) (fun _ _ => callFunc_enter Tryz.func184 rfl rfl _ _) hit (by simp) (fun k => k = bl ∨ (slN v = false ∧ k = slB v))
    (fun C pre W => ∃ u, Var W bl u ∧ W.ownsRow (bl + 1) 26 1 u (acc ++ pre).length ((acc ++ pre).map u64) ∧ (∀ k, C k ↔ k = bl ∨ (slN u = false ∧ k = slB u)) ∧ Ext w0 W ∧ Mod (AccS bl v) w2 W ∧ Grew w2 v u) (fun _ _ _ _ => False)
    (fun k hk => ⟨hcap k hk, ?_⟩) (fun k hk => ?_) ?_ (fun _ _ _ _ _ h _ => h.elim) ⟨v, v2, by simpa using o2, fun _ => Iff.rfl, hX0, Mod.refl _ _, fun hn => .inl ⟨hn, rfl⟩⟩ ?ρ ?ha ?_ ?_ (fun _ _ _ _ _ h _ => h.elim)
  case ha =>
    intro l x W
    simp
    exact rfl
  · rintro (rfl | ⟨h1, rfl⟩)
    · rcases hk with hk | hk <;> omega
    · have := own_ge ho h1
      have := hrow h1
      rcases hk with hk | hk <;> omega
  · rcases hk with rfl | ⟨h1, rfl⟩
    · omega
    · have := hrow h1; omega
  · rintro C pre W W' ⟨u, h1, h2, h3, h4, h6, h7⟩ hag
    refine ⟨u, h1.agr hag (.inr ((h3 _).2 (.inl rfl))), own_keep h2 fun hn hl => hag.blk _ hl (.inr ((h3 _).2 (.inr ⟨hn, rfl⟩))), h3, ?_, ?_, h7⟩
    · exact ⟨hag.os.trans h4.os, hag.tape.trans h4.tape, hag.out.trans h4.out, Nat.le_trans h4.size hag.size, fun i hi => (hag.blk i (Nat.lt_of_lt_of_le hi h4.size) (.inl (by have := hX0.size; omega))).trans (h4.blk i hi)⟩
    · exact ⟨hag.os.trans h6.os, hag.tape.trans h6.tape, hag.out.trans h6.out, Nat.le_trans h6.size hag.size, fun i hi hn => (hag.blk i (Nat.lt_of_lt_of_le hi h6.size) (.inl hi)).trans (h6.blk i hi hn)⟩
  · rintro l C pre x W hsp ⟨u, h1, h2, h3, h4, h6, h7⟩ - - -
    simp [h1.cell]
    have e1 := (Ext.refl W).alloc (.cells #[u64 x] 26)
    have h1' := h1.ext e1
    have h2' := own_ext h2 e1
    have hpl : (acc ++ pre).length + 1 ≤ 1048576 := by
      obtain ⟨_, suf, hs⟩ := hsp
      rw [hs] at hlen
      simp only [List.length_append, List.length_singleton] at hlen ⊢
      omega
    obtain ⟨u', W2, hr, ho', hm, hnew⟩ := append_own (P := Tryz.prog) (t := 121) (ty := 121) (e := 26) (s := 1) (by simp) (by simp) (by kernel_rfl) h2' (Sl.one W (u64 x) 26) (by intro z hz; rw [List.mem_singleton] at hz; subst hz; rfl) hpl (by have := h1'.lt; omega)
    simp [hr]
    have g1 := h1'.mod hm (fun h => by have := own_ge h2' h.1; omega)
    obtain ⟨a', c', rfl⟩ := own_val ho'
    simp [g1.cell, g1.thaw]
    have hM := Mod.setCell (S := fun k => k = bl) (Mod.refl _ W2) ⟨bl, 0, none⟩ (.slice a' ((acc ++ pre).length + 1) c') (.inl rfl)
    have hCge : ∀ i, C i → w0.heap.size ≤ i := fun i hi => by
      rcases (h3 i).1 hi with h | ⟨h, h'⟩
      · omega
      · have := own_ge h2 h; omega
    have hm' : Pk.Mod C W W2 := e1.mod.trans' hm (S := C) (fun i hi => .inl ((h3 i).2 (.inr hi)))
    have hx : Ext w0 W2 := ((h4.mod (S := fun k => w0.heap.size ≤ k)).trans (hm'.weaken hCge)).ext (fun _ h => h)
    have hmk : ∀ k, k = bl → C k := fun k hk => (h3 k).2 (.inl hk)
    obtain ⟨N, hN⟩ : ∃ N, N = (acc ++ pre).length + 1 := ⟨_, rfl⟩
    have ho2 : W2.ownsRow (bl + 1) 26 1 (.slice a' N c') (acc ++ (pre ++ [x])).length ((acc ++ (pre ++ [x])).map u64) := by
      rw [hN]
      simpa [Nat.add_assoc] using ho'
    rw [show acc.length + pre.length + 1 = N by rw [hN]; simp] 
    have hgs := g1.set (.slice a' N c')
    have hM' := Mod.setCell (S := fun k => k = bl) (Mod.refl _ W2) ⟨bl, 0, none⟩ (.slice a' N c') (.inl rfl)
    refine ⟨fun k => k = bl ∨ (slN (.slice a' N c') = false ∧ k = slB (.slice a' N c')), ⟨_, hgs, ?_, fun k => Iff.rfl, ?_, ?_, ?_⟩, ?_, ?_⟩
    · have := own_keep ho2 (w' := W2.setCell ⟨bl, 0, none⟩ (.slice a' N c')) fun hn hl => hM'.blk _ hl (by have := own_ge ho2 hn; omega)
      simpa using this
    · exact hx.setCell _ _ hbl
    · refine (h6.trans' hm' fun k hk => ?_).trans (hM'.weaken fun k hk => .inl hk)
      rcases (h3 k).1 hk with h | ⟨h, rfl⟩
      · exact .inl (.inl h)
      · rcases h7 h with ⟨h8, h9⟩ | h8
        · exact .inl (.inr ⟨h8, h9⟩)
        · exact .inr h8
    · rw [← hN] at hnew
      intro hn
      rcases hnew hn with ⟨h5, h8⟩ | h5
      · rcases h7 h5 with ⟨h9, h10⟩ | h9
        · exact .inl ⟨h9, h8.trans h10⟩
        · rw [h8]; exact .inr h9
      · exact .inr (by have := h6.size; have := e1.size; omega)
    · exact hm'.trans (hM'.weaken hmk)
    · rw [← hN] at hnew
      rintro k (h | ⟨h, rfl⟩)
      · exact .inl (hmk k h)
      · rcases hnew h with ⟨h5, h6⟩ | h5
        · exact .inl ((h3 _).2 (.inr ⟨h5, h6⟩))
        · have := e1.size; exact .inr (by omega)
  · rintro C xs W rfl ⟨u, h1, h2, h3, h4, h6, h7⟩ hD
    simp
    refine LV_mark hD (by simp) ?_
    simp
    have hDb := (Array.getElem?_eq_some_iff.1 hD).1
    have nbl : w2.heap.size ≠ bl := by omega
    have hz2 : w.heap.size ≤ w2.heap.size := hX.size
    refine ⟨u, ⟨h1.keep (World.putObj_heap_other (by omega)), own_keep h2 fun hn hl => World.putObj_heap_other ?_, h4.putObj _ _ (by have := hX0.size; omega)⟩, (hX.mod.trans h6).trans' (Mod.putObj _ _) (fun k hk => .inr (by rw [hk]; exact hz2)), fun hn => ?_⟩
    rotate_left
    · rcases h7 hn with h8 | h8
      · exact .inl h8
      · exact .inr (by omega)
    intro e
    obtain ⟨c, hc⟩ := own_obj h2 hn
    rw [e, hD] at hc
    cases hc
end Go.Proofs
namespace Go.Proofs
open Pk
set_option maxRecDepth 10000
/-- THE OWNER's append of zeros: a nil or an own row grows by k values. -/
theorem append_zeros {P : Program} {w : World} {base n k : Nat} {t tn ty e : TypeId} {kn kq : IntKind} {i : TypeInfo} {z : Value} {v : Value} {xs zs : List Value} (ht : P.underlying t = some (.slice e)) (htn : P.underlying tn = some (.int kn)) (hi : P.info? e = some i) (hz : i.zero = some z) (hz1 : z.cells.size = 1) (hs1 : i.size = 1) (hby : i.bytes ≤ 8)
    (hown : w.ownsRow base e 1 v n xs) (hk : 0 < k) (hzs : Builtin.zeroCells z.cells k = zs.toArray) (h1 : ∀ u ∈ zs, u.oneCell' = true) (hb : n + k ≤ 1048576) (hbase : base ≤ w.heap.size) :
    ∃ v' w', (Builtin.append_ #[t, tn] ty #[v, .int kq k]).run P w = .ok v' w' ∧ w'.ownsRow base e 1 v' (n + k) (xs ++ zs) ∧ Mod (fun j => slN v = false ∧ j = slB v) w w' ∧ (slN v' = false → (slN v = false ∧ slB v' = slB v) ∨ w.heap.size ≤ slB v') := by
  have hzl : zs.length = k := by
    have h2 := congrArg Array.size hzs
    rw [size_zeroCells, hz1] at h2
    simpa using h2.symm
  have hxl : xs.length = n := by have := hown.1; simpa using this
  have hw : IntKind.i64.wrap (k : Int) = k := wrap64 _ (by omega) (by omega)
  have hlen : (xs ++ zs).length = (n + k) * 1 := by rw [List.length_append, hxl, hzl]; omega
  have grow : ∀ (old : Nat) (a : Option Addr), old < n + k → v = .slice a n old → (Builtin.firstCells i.size n (.slice a n old)).run P w.drew = .ok xs.toArray w.drew →
      ∃ v' w', (Builtin.append_ #[t, tn] ty #[v, .int kq k]).run P w = .ok v' w' ∧ w'.ownsRow base e 1 v' (n + k) (xs ++ zs) ∧ Mod (fun j => slN v = false ∧ j = slB v) w w' ∧ (slN v' = false → (slN v = false ∧ slB v' = slB v) ∨ w.heap.size ≤ slB v') := by
    intro old a ho hv hold
    subst hv
    have hfit : Builtin.nextslicecap (n + k) old * i.bytes ≤ 281474976710656 := growslice_fits (by omega) (by have := Nat.mul_le_mul hb hby; omega)
    have hr := Go.Lib.run_append_grow_zeros (P := P) w t tn ty e i z kq kn ht htn hi hz a n old xs hold k hk (by omega) (by omega) (by omega) (by have := Nat.mul_le_mul (show k ≤ 1048576 by omega) hby; omega) hfit
    have hge := grownCap_ge w (n + k) old e
    have hcm := grownCap_le_maxLen w (n + k) old e (by simp only [maxLen]; omega)
    refine ⟨_, _, hr, ⟨hlen, .inr ⟨w.heap.size, _, _, rfl, hbase, World.alloc_heap_new w.drew _, hge, hcm, ?_, ?_⟩⟩, ((Ext.drew w).alloc _).mod, fun _ => .inr (Nat.le_refl _)⟩
    · rw [hzs]
      simp only [Array.size_append, List.size_toArray, size_zeroCells, hz1, hxl, hzl]
      omega
    · rw [hzs]
      simp only [Array.toList_append, List.append_assoc]
      rw [← List.append_assoc, ← hlen]
      exact List.take_left
  rcases hown.2 with ⟨rfl, rfl⟩ | ⟨g, cap, cur, rfl, hbg, hg, hnc, hcm, hcs, htake⟩
  · have hx : xs = [] := List.eq_nil_of_length_eq_zero hxl
    subst hx
    exact grow 0 none (by omega) rfl (run_firstCells_none _ _ _ _ _)
  · by_cases hroom : n + k ≤ cap
    · have hst := run_storeCells_at P g n e zs 0 cur w hg (by rw [hzl, hcs]; omega) h1
      simp only [Nat.add_zero] at hst
      have hneg : ¬ ((k : Int) < 0) := by omega
      have hk0 : ¬ k = 0 := by omega
      have hst' := hst
      rw [show zs = (Builtin.zeroCells z.cells k).toList by rw [hzs]] at hst'
      dsimp only [Value.cells] at hst'
      have hns : ¬ (k * i.size = 0) := by rw [hs1]; omega
      have h48i : ¬ (281474976710656 < (k : Int) * (i.bytes : Int)) := by
        rw [← Int.natCast_mul]
        have := Nat.mul_le_mul (show k ≤ 1048576 by omega) hby
        omega
      have hr : (Builtin.append_ #[t, tn] ty #[.slice (some ⟨g, 0, none⟩) n cap, .int kq k]).run P w = .ok (.slice (some ⟨g, 0, none⟩) (n + k) cap) (w.setRow g (cur.toList.take n ++ zs ++ cur.toList.drop (n + zs.length)).toArray) := by
        simp [Builtin.append_, run_underlying ht, run_underlying htn, sizeOf, typeInfo, zeroValue, hi, hz, asInt, asIntOf, hw, hneg, h48i, hroom, hs1, hk0, hst']
        exact (congrArg (fun (a : Array Value) => w.setRow g (List.take n cur.toList ++ (a.toList ++ List.drop (n + a.size) cur.toList)).toArray) hzs).trans (by simp)
      refine ⟨_, _, hr, ⟨hlen, .inr ⟨g, cap, _, rfl, hbg, setRow_heap w g cur _ e _ hg, hroom, hcm, ?_, ?_⟩⟩, ⟨rfl, rfl, rfl, by simp, fun j _ hj => setRow_other w g j _ (fun e => hj ⟨rfl, e⟩)⟩, fun _ => .inl ⟨rfl, rfl⟩⟩
      · simp only [List.size_toArray, List.length_append, List.length_take, List.length_drop, Array.length_toList]
        omega
      · rw [Nat.mul_one] at htake
        rw [htake, ← hlen]
        exact List.take_left
    · refine grow cap (some ⟨g, 0, none⟩) (by omega) rfl ?_
      rw [hs1]
      exact run_firstCells_some w.drew 1 n ⟨g, 0, none⟩ n cap xs hown.1 (fun j u hj => by simpa using hown.cells (g := g) rfl j u hj)
end Go.Proofs
namespace Go.Proofs
open Pk
set_option maxRecDepth 10000
theorem five_mod (w : World) (c : Nat) (a0 a1 a2 a3 a4 : Value) : Mod (fun k => k = c) w (((((w.setCell ⟨c, 0, none⟩ a0).setCell ⟨c, 1, none⟩ a1).setCell ⟨c, 2, none⟩ a2).setCell ⟨c, 3, none⟩ a3).setCell ⟨c, 4, none⟩ a4) :=
  (((((Mod.refl _ _).setC _ _).setC _ _).setC _ _).setC _ _).setC _ _
theorem five_ext {w0 w : World} (h : Ext w0 w) {c : Nat} (hc : w0.heap.size ≤ c) (a0 a1 a2 a3 a4 : Value) : Ext w0 (((((w.setCell ⟨c, 0, none⟩ a0).setCell ⟨c, 1, none⟩ a1).setCell ⟨c, 2, none⟩ a2).setCell ⟨c, 3, none⟩ a3).setCell ⟨c, 4, none⟩ a4) :=
  ((((h.setCell _ _ hc).setCell _ _ hc).setCell _ _ hc).setCell _ _ hc).setCell _ _ hc
/-! ### Items that are made -/
def uintI (n : Int) : It := .mk 1 n [] ⟨#[]⟩ []
def listI (l : List It) : It := .mk 4 0 [] ⟨#[]⟩ l
theorem leaf_it {Pd : Nat → Prop} {W : World} (k n : Int) : ItP Pd W (.mk k n [] ⟨#[]⟩ []) (leafC k n) :=
  itP_mk.2 ⟨_, _, [], rfl, SlB.nil W 1 0, SlB.nil W 5 0, fun h => (h rfl).elim, fun h => (h rfl).elim, itPs_nil, by simp, by simp⟩
theorem list_it {Pd : Nat → Prop} {W : World} {l : List It} {css : List (List Value)} {lv : Value} (h : SlB W 5 lv l.length css.flatten) (hc : ItPs Pd W l css) (hp : l ≠ [] → Pd (slB lv)) (hl : l.length ≤ 9223372036854775807) :
    ItP Pd W (listI l) [i64 4, u64 0, .slice none 0 0, .string ⟨#[]⟩, lv] :=
  itP_mk.2 ⟨_, _, css, rfl, SlB.nil W 1 0, h, fun h => (h rfl).elim, hp, hc, by simp, hl⟩
theorem made_it {Pd : Nat → Prop} {w : World} {l : List It} {css : List (List Value)} (hc : ItPs Pd w l css) (n : Nat) (hn : l.length = n) (hf : css.flatten.length = n * 5) (hp : Pd w.heap.size) (hn' : n ≤ 1000) (ty : TypeId) :
    ItP Pd (w.alloc (.cells css.flatten.toArray ty)) (listI l) [i64 4, u64 0, .slice none 0 0, .string ⟨#[]⟩, .slice (some ⟨w.heap.size, 0, none⟩) n n] := by
  subst hn
  exact list_it (Sl.made w css.flatten ty 5 l.length hf).toB (hc.ext ((Ext.refl _).alloc _)) (fun _ => hp) (by omega)
theorem item64_c (x : Int) (w : World) : FN Tryz.prog 139 [u64 x] w fun e w' => e = .returned (leafV 1 x) ∧ Ext w w' := by
  refine FN_enter Tryz.func139 rfl rfl (by kernel_rfl) ?_
  simp
  exact (Ext.refl w).alloc _
theorem item32_c (x : Int) (hx : 0 ≤ x ∧ x ≤ 4294967295) (w : World) : FN Tryz.prog 140 [u32 x] w fun e w' => e = .returned (leafV 1 x) ∧ Ext w w' := by
  refine FN_enter Tryz.func140 rfl rfl (by kernel_rfl) ?_
  have q1 : IntKind.u64.wrap x = x := by simp [IntKind.wrap, IntKind.signed, IntKind.bits]; omega
  simp [q1]
  exact (Ext.refl w).alloc _
theorem itemi_c (x : Int) (hx : 0 ≤ x ∧ x ≤ 4294967295) (w : World) : FN Tryz.prog 166 [i64 x] w fun e w' => e = .returned (leafV 1 x) ∧ Ext w w' := by
  refine FN_enter Tryz.func166 rfl rfl (by kernel_rfl) ?_
  have q1 : IntKind.u64.wrap x = x := by simp [IntKind.wrap, IntKind.signed, IntKind.bits]; omega
  simp [q1]
  exact (Ext.refl w).alloc _
theorem nlist_c (a : Option Addr) (n c : Nat) (w : World) : FN Tryz.prog 137 [.slice a n c] w fun e w' => e = .returned (.agg #[i64 4, u64 0, .slice none 0 0, .string ⟨#[]⟩, .slice a n c]) ∧ Ext w w' := by
  refine FN_enter Tryz.func137 rfl rfl (by kernel_rfl) ?_
  simp
  exact (Ext.refl w).alloc _
/-! ### Names -/
structure Nam where
  nn : Int
  ns : Int
  nt : Int
  nq : Int
structure NamOk (n : Nam) : Prop where
  nn : 0 ≤ n.nn ∧ n.nn ≤ 4294967295
  ns : 0 ≤ n.ns ∧ n.ns ≤ 4294967295
  nq : 0 ≤ n.nq ∧ n.nq ≤ 4294967295
abbrev namC (n : Nam) : List Value := [u32 n.nn, u32 n.ns, u64 n.nt, u32 n.nq]
abbrev namV (n : Nam) : Value := .agg #[u32 n.nn, u32 n.ns, u64 n.nt, u32 n.nq]
def nameE (n : Nam) : Int := if n.nn = 0 then 2 else if 4611686018427387903 < n.nt then 2 else 0
def endI (n s : Int) : It := if n = 0 then listI [uintI 1, uintI 0] else listI [uintI 2, listI [uintI n, uintI s]]
def nameI (n : Nam) : It := listI [endI n.nn n.ns, uintI n.nt, uintI n.nq]
theorem checkName_c (n : Nam) (w : World) : FN Tryz.prog 108 [namV n] w fun e w' => e = .returned (i64 (nameE n)) ∧ Ext w w' := by
  refine FN_enter Tryz.func108 rfl rfl (by kernel_rfl) ?_
  unfold nameE
  by_cases h1 : n.nn = 0
  · simp [h1]
    exact (Ext.refl w).alloc _
  · have hb : (n.nn == 0) = false := by simp [h1]
    by_cases h2 : 4611686018427387903 < n.nt
    · simp [h1, h2, hb]
      exact (Ext.refl w).alloc _
    · simp [h1, h2, hb]
      exact (Ext.refl w).alloc _
set_option maxHeartbeats 1000000 in
theorem itemOf_c {n s : Int} (hn : 0 ≤ n ∧ n ≤ 4294967295) (hs : 0 ≤ s ∧ s ≤ 4294967295) (w : World) : FN Tryz.prog 138 [.agg #[u32 n, u32 s]] w fun e w' => ∃ v, e = .returned (.agg #[i64 4, u64 0, .slice none 0 0, .string ⟨#[]⟩, v]) ∧ (∃ a m c, v = .slice a m c) ∧ ItP (fun k => w.heap.size ≤ k) w' (endI n s) [i64 4, u64 0, .slice none 0 0, .string ⟨#[]⟩, v] ∧ Ext w w' := by
  refine FN_enter Tryz.func138 rfl rfl (by kernel_rfl) ?_
  simp
  have hE1 : Ext w ((w.alloc (.cells #[u32 n, u32 s] 25)).alloc (.cells #[i64 0, u64 0, .slice none 0 0, .string ⟨#[]⟩, .slice none 0 0] 51)) := ((Ext.refl _).alloc _).alloc _
  have o1 : Blk ((w.alloc (.cells #[u32 n, u32 s] 25)).alloc (.cells #[i64 0, u64 0, .slice none 0 0, .string ⟨#[]⟩, .slice none 0 0] 51)) w.heap.size [u32 n, u32 s] := (Blk.new w _ _).ext ((Ext.refl _).alloc _)
  have o2 : Blk ((w.alloc (.cells #[u32 n, u32 s] 25)).alloc (.cells #[i64 0, u64 0, .slice none 0 0, .string ⟨#[]⟩, .slice none 0 0] 51)) (w.heap.size + 1) (leafC 0 0) := by
    have := Blk.new (w.alloc (.cells #[u32 n, u32 s] 25)) (leafC 0 0) 51
    simpa using this
  have z1 : ((w.alloc (.cells #[u32 n, u32 s] 25)).alloc (.cells #[i64 0, u64 0, .slice none 0 0, .string ⟨#[]⟩, .slice none 0 0] 51)).heap.size = w.heap.size + 1 + 1 := by simp
  generalize ((w.alloc (.cells #[u32 n, u32 s] 25)).alloc (.cells #[i64 0, u64 0, .slice none 0 0, .string ⟨#[]⟩, .slice none 0 0] 51)) = w1 at *
  have fin : ∀ (w5 : World) (t : It) (v : Value), Ext w1 w5 → ItP (fun k => w1.heap.size ≤ k) w5 t [i64 4, u64 0, .slice none 0 0, .string ⟨#[]⟩, v] → ItP (fun k => w.heap.size ≤ k) (((((w5.setCell ⟨(w.heap.size + 1), 0, none⟩ (i64 4)).setCell ⟨(w.heap.size + 1), 1, none⟩ (u64 0)).setCell ⟨(w.heap.size + 1), 2, none⟩ (.slice none 0 0)).setCell ⟨(w.heap.size + 1), 3, none⟩ (.string ⟨#[]⟩)).setCell ⟨(w.heap.size + 1), 4, none⟩ v) t [i64 4, u64 0, .slice none 0 0, .string ⟨#[]⟩, v] ∧ Ext w (((((w5.setCell ⟨(w.heap.size + 1), 0, none⟩ (i64 4)).setCell ⟨(w.heap.size + 1), 1, none⟩ (u64 0)).setCell ⟨(w.heap.size + 1), 2, none⟩ (.slice none 0 0)).setCell ⟨(w.heap.size + 1), 3, none⟩ (.string ⟨#[]⟩)).setCell ⟨(w.heap.size + 1), 4, none⟩ v) := by
    intro w5 t v h5 hi
    exact ⟨hi.go (five_mod w5 (w.heap.size + 1) _ _ _ _ _) (fun k _ hk => ⟨by omega, by omega⟩), five_ext (hE1.trans h5) (by omega) _ _ _ _ _⟩
  by_cases h0 : n = 0
  · have hb : (n == 0) = true := by simp [h0]
    have e0 : endI n s = listI [uintI 1, uintI 0] := by unfold endI; rw [if_pos h0]
    rw [e0]
    simp [hb]
    refine FN.mono (itemi_c 1 (by omega) w1) ?_
    rintro _ w2 ⟨rfl, hE2⟩
    simp
    refine FN.mono (itemi_c 0 (by omega) w2) ?_
    rintro _ w3 ⟨rfl, hE3⟩
    simp
    have z3 := (hE2.trans hE3).size
    have hm : ItP (fun k => w1.heap.size ≤ k) (w3.alloc (.cells #[i64 1, u64 1, .slice none 0 0, .string ⟨#[]⟩, .slice none 0 0, i64 1, u64 0, .slice none 0 0, .string ⟨#[]⟩, .slice none 0 0] 51)) (listI [uintI 1, uintI 0]) [i64 4, u64 0, .slice none 0 0, .string ⟨#[]⟩, .slice (some ⟨w3.heap.size, 0, none⟩) 2 2] :=
      made_it (css := [leafC 1 1, leafC 1 0]) (((itPs_nil).cons (leaf_it 1 0)).cons (leaf_it 1 1)) 2 rfl rfl z3 (by omega) 51
    have hE4 := (hE2.trans hE3).trans ((Ext.refl w3).alloc (.cells #[i64 1, u64 1, .slice none 0 0, .string ⟨#[]⟩, .slice none 0 0, i64 1, u64 0, .slice none 0 0, .string ⟨#[]⟩, .slice none 0 0] 51))
    generalize (w3.alloc (.cells #[i64 1, u64 1, .slice none 0 0, .string ⟨#[]⟩, .slice none 0 0, i64 1, u64 0, .slice none 0 0, .string ⟨#[]⟩, .slice none 0 0] 51)) = w4 at *
    refine FN.mono (nlist_c _ _ _ w4) ?_
    rintro _ w5 ⟨rfl, hE5⟩
    have o5 := (o2.ext hE4).ext hE5
    simp [o5.cell 0 _ rfl, o5.cell 1 _ rfl, o5.cell 2 _ rfl, o5.cell 3 _ rfl, o5.cell 4 _ rfl, o5.thaw, cell_setCell]
    exact fin w5 _ _ (hE4.trans hE5) (hm.ext hE5)
  · have hb : (n == 0) = false := by simp [h0]
    have e0 : endI n s = listI [uintI 2, listI [uintI n, uintI s]] := by unfold endI; rw [if_neg h0]
    rw [e0]
    simp [hb]
    refine WC_drawC 6 (.F 1 <| .F 2 <| .F 4 <| .F 5 <| .C 0 <| .C 3 <| .Z) (fun _ => false) rfl (by kernel_rfl) fun W hW => ?_
    have hWE : Ext w1 W := hW ▸ Ext.drew _
    have p1 := o1.ext hWE
    simp [p1.cell 0 _ rfl, p1.cell 1 _ rfl]
    refine FN.mono (itemi_c 2 (by omega) W) ?_
    rintro _ w2 ⟨rfl, hE2⟩
    simp
    refine KR_ext hE2 ?_
    simp
    refine FN.mono (item32_c n hn w2) ?_
    rintro _ w3 ⟨rfl, hE3⟩
    simp
    refine KR_ext hE3 ?_
    simp
    refine FN.mono (item32_c s hs w3) ?_
    rintro _ w4 ⟨rfl, hE4⟩
    simp
    have hX4 := (hWE.trans hE2).trans (hE3.trans hE4)
    have z4 := hX4.size
    have hm : ItP (fun k => w1.heap.size ≤ k) (w4.alloc (.cells #[i64 1, u64 n, .slice none 0 0, .string ⟨#[]⟩, .slice none 0 0, i64 1, u64 s, .slice none 0 0, .string ⟨#[]⟩, .slice none 0 0] 51)) (listI [uintI n, uintI s]) [i64 4, u64 0, .slice none 0 0, .string ⟨#[]⟩, .slice (some ⟨w4.heap.size, 0, none⟩) 2 2] :=
      made_it (css := [leafC 1 n, leafC 1 s]) (((itPs_nil).cons (leaf_it 1 s)).cons (leaf_it 1 n)) 2 rfl rfl z4 (by omega) 51
    have hE5 := hX4.trans ((Ext.refl w4).alloc (.cells #[i64 1, u64 n, .slice none 0 0, .string ⟨#[]⟩, .slice none 0 0, i64 1, u64 s, .slice none 0 0, .string ⟨#[]⟩, .slice none 0 0] 51))
    generalize (w4.alloc (.cells #[i64 1, u64 n, .slice none 0 0, .string ⟨#[]⟩, .slice none 0 0, i64 1, u64 s, .slice none 0 0, .string ⟨#[]⟩, .slice none 0 0] 51)) = w5 at *
    refine FN.mono (nlist_c _ _ _ w5) ?_
    rintro _ w6 ⟨rfl, hE6⟩
    have z6 := hE6.size
    have z5 := hE5.size
    have hm2 : ItP (fun k => w1.heap.size ≤ k) (w6.alloc (.cells #[i64 1, u64 2, .slice none 0 0, .string ⟨#[]⟩, .slice none 0 0, i64 4, u64 0, .slice none 0 0, .string ⟨#[]⟩, .slice (some ⟨w4.heap.size, 0, none⟩) 2 2] 51)) (listI [uintI 2, listI [uintI n, uintI s]]) [i64 4, u64 0, .slice none 0 0, .string ⟨#[]⟩, .slice (some ⟨w6.heap.size, 0, none⟩) 2 2] :=
      made_it (css := [leafC 1 2, [i64 4, u64 0, .slice none 0 0, .string ⟨#[]⟩, .slice (some ⟨w4.heap.size, 0, none⟩) 2 2]]) (((itPs_nil).cons (hm.ext hE6)).cons (leaf_it 1 2)) 2 rfl rfl (by omega) (by omega) 51
    have hE7 := (hE5.trans hE6).trans ((Ext.refl w6).alloc (.cells #[i64 1, u64 2, .slice none 0 0, .string ⟨#[]⟩, .slice none 0 0, i64 4, u64 0, .slice none 0 0, .string ⟨#[]⟩, .slice (some ⟨w4.heap.size, 0, none⟩) 2 2] 51))
    simp
    generalize (w6.alloc (.cells #[i64 1, u64 2, .slice none 0 0, .string ⟨#[]⟩, .slice none 0 0, i64 4, u64 0, .slice none 0 0, .string ⟨#[]⟩, .slice (some ⟨w4.heap.size, 0, none⟩) 2 2] 51)) = w7 at *
    refine FN.mono (nlist_c _ _ _ w7) ?_
    rintro _ w8 ⟨rfl, hE8⟩
    have o8 := (o2.ext hE7).ext hE8
    simp [o8.cell 0 _ rfl, o8.cell 1 _ rfl, o8.cell 2 _ rfl, o8.cell 3 _ rfl, o8.cell 4 _ rfl, o8.thaw, cell_setCell]
    exact fin w8 _ _ (hE7.trans hE8) (hm2.ext hE8)
set_option maxHeartbeats 1000000 in
theorem nitem1_c {n : Nam} (h : NamOk n) (w : World) : FN Tryz.prog 136 [namV n] w fun e w' => ∃ v, e = .returned (.agg #[i64 4, u64 0, .slice none 0 0, .string ⟨#[]⟩, v]) ∧ (∃ a m c, v = .slice a m c) ∧ ItP (fun k => w.heap.size ≤ k) w' (nameI n) [i64 4, u64 0, .slice none 0 0, .string ⟨#[]⟩, v] ∧ Ext w w' := by
  refine FN_enter Tryz.func136 rfl rfl (by kernel_rfl) ?_
  simp
  have hE1 : Ext w ((w.alloc (.cells #[u32 n.nn, u32 n.ns, u64 n.nt, u32 n.nq] 28)).alloc (.cells #[i64 0, u64 0, .slice none 0 0, .string ⟨#[]⟩, .slice none 0 0] 51)) := ((Ext.refl _).alloc _).alloc _
  have o1 : Blk ((w.alloc (.cells #[u32 n.nn, u32 n.ns, u64 n.nt, u32 n.nq] 28)).alloc (.cells #[i64 0, u64 0, .slice none 0 0, .string ⟨#[]⟩, .slice none 0 0] 51)) w.heap.size (namC n) := (Blk.new w _ _).ext ((Ext.refl _).alloc _)
  have o2 : Blk ((w.alloc (.cells #[u32 n.nn, u32 n.ns, u64 n.nt, u32 n.nq] 28)).alloc (.cells #[i64 0, u64 0, .slice none 0 0, .string ⟨#[]⟩, .slice none 0 0] 51)) (w.heap.size + 1) (leafC 0 0) := by
    have := Blk.new (w.alloc (.cells #[u32 n.nn, u32 n.ns, u64 n.nt, u32 n.nq] 28)) (leafC 0 0) 51
    simpa using this
  have z1 : ((w.alloc (.cells #[u32 n.nn, u32 n.ns, u64 n.nt, u32 n.nq] 28)).alloc (.cells #[i64 0, u64 0, .slice none 0 0, .string ⟨#[]⟩, .slice none 0 0] 51)).heap.size = w.heap.size + 1 + 1 := by simp
  generalize ((w.alloc (.cells #[u32 n.nn, u32 n.ns, u64 n.nt, u32 n.nq] 28)).alloc (.cells #[i64 0, u64 0, .slice none 0 0, .string ⟨#[]⟩, .slice none 0 0] 51)) = w1 at *
  have fin : ∀ (w5 : World) (t : It) (v : Value), Ext w1 w5 → ItP (fun k => w1.heap.size ≤ k) w5 t [i64 4, u64 0, .slice none 0 0, .string ⟨#[]⟩, v] → ItP (fun k => w.heap.size ≤ k) (((((w5.setCell ⟨(w.heap.size + 1), 0, none⟩ (i64 4)).setCell ⟨(w.heap.size + 1), 1, none⟩ (u64 0)).setCell ⟨(w.heap.size + 1), 2, none⟩ (.slice none 0 0)).setCell ⟨(w.heap.size + 1), 3, none⟩ (.string ⟨#[]⟩)).setCell ⟨(w.heap.size + 1), 4, none⟩ v) t [i64 4, u64 0, .slice none 0 0, .string ⟨#[]⟩, v] ∧ Ext w (((((w5.setCell ⟨(w.heap.size + 1), 0, none⟩ (i64 4)).setCell ⟨(w.heap.size + 1), 1, none⟩ (u64 0)).setCell ⟨(w.heap.size + 1), 2, none⟩ (.slice none 0 0)).setCell ⟨(w.heap.size + 1), 3, none⟩ (.string ⟨#[]⟩)).setCell ⟨(w.heap.size + 1), 4, none⟩ v) := by
    intro w5 t v h5 hi
    exact ⟨hi.go (five_mod w5 (w.heap.size + 1) _ _ _ _ _) (fun k _ hk => ⟨by omega, by omega⟩), five_ext (hE1.trans h5) (by omega) _ _ _ _ _⟩
  refine WC_drawC 8 (.F 0 <| .F 1 <| .F 3 <| .F 4 <| .F 6 <| .F 7 <| .C 2 <| .C 5 <| .Z) (fun _ => false) rfl (by kernel_rfl) fun W hW => ?_
  have hWE : Ext w1 W := hW ▸ Ext.drew _
  have p1 := o1.ext hWE
  simp [p1.cell 0 _ rfl, p1.cell 1 _ rfl, p1.cell 2 _ rfl, p1.cell 3 _ rfl]
  refine FN.mono (itemOf_c h.nn h.ns W) ?_
  rintro _ w2 ⟨v2, rfl, ⟨a2, m2, c2, rfl⟩, hi2, hE2⟩
  simp
  refine KR_ext hE2 ?_
  simp
  refine FN.mono (item64_c n.nt w2) ?_
  rintro _ w3 ⟨rfl, hE3⟩
  simp
  refine KR_ext hE3 ?_
  simp
  refine FN.mono (item32_c n.nq h.nq w3) ?_
  rintro _ w4 ⟨rfl, hE4⟩
  simp
  have hX2 := hWE.trans hE2
  have hX4 := hX2.trans (hE3.trans hE4)
  have z4 := hX4.size
  have zW := hWE.size
  have hi4 : ItP (fun k => w1.heap.size ≤ k) w4 (endI n.nn n.ns) [i64 4, u64 0, .slice none 0 0, .string ⟨#[]⟩, .slice a2 m2 c2] := hi2.go ((hE3.trans hE4).mod (S := fun _ => False)) fun k _ hk => ⟨by omega, _root_.id⟩
  have hm : ItP (fun k => w1.heap.size ≤ k) (w4.alloc (.cells #[i64 4, u64 0, .slice none 0 0, .string ⟨#[]⟩, .slice a2 m2 c2, i64 1, u64 n.nt, .slice none 0 0, .string ⟨#[]⟩, .slice none 0 0, i64 1, u64 n.nq, .slice none 0 0, .string ⟨#[]⟩, .slice none 0 0] 51)) (nameI n) [i64 4, u64 0, .slice none 0 0, .string ⟨#[]⟩, .slice (some ⟨w4.heap.size, 0, none⟩) 3 3] :=
    made_it (css := [[i64 4, u64 0, .slice none 0 0, .string ⟨#[]⟩, .slice a2 m2 c2], leafC 1 n.nt, leafC 1 n.nq]) ((((itPs_nil).cons (leaf_it 1 n.nq)).cons (leaf_it 1 n.nt)).cons hi4) 3 rfl rfl z4 (by omega) 51
  have hE5 := hX4.trans ((Ext.refl w4).alloc (.cells #[i64 4, u64 0, .slice none 0 0, .string ⟨#[]⟩, .slice a2 m2 c2, i64 1, u64 n.nt, .slice none 0 0, .string ⟨#[]⟩, .slice none 0 0, i64 1, u64 n.nq, .slice none 0 0, .string ⟨#[]⟩, .slice none 0 0] 51))
  generalize (w4.alloc (.cells #[i64 4, u64 0, .slice none 0 0, .string ⟨#[]⟩, .slice a2 m2 c2, i64 1, u64 n.nt, .slice none 0 0, .string ⟨#[]⟩, .slice none 0 0, i64 1, u64 n.nq, .slice none 0 0, .string ⟨#[]⟩, .slice none 0 0] 51)) = w5 at *
  refine FN.mono (nlist_c _ _ _ w5) ?_
  rintro _ w6 ⟨rfl, hE6⟩
  have o6 := (o2.ext hE5).ext hE6
  simp [o6.cell 0 _ rfl, o6.cell 1 _ rfl, o6.cell 2 _ rfl, o6.cell 3 _ rfl, o6.cell 4 _ rfl, o6.thaw, cell_setCell]
  exact fin w6 _ _ (hE5.trans hE6) (hm.ext hE6)
def itemZ : It := .mk 0 0 [] ⟨#[]⟩ []
/-- What a function that answers an item and an error has answered: the item's rows are new. -/
def ItAns (w w' : World) (t : It) (cs : List Value) : Prop := ItP (fun k => w.heap.size ≤ k) w' t cs ∧ (∃ k x v s u, cs = [i64 k, u64 x, v, .string s, u] ∧ (∃ a m c, v = .slice a m c) ∧ (∃ a m c, u = .slice a m c)) ∧ Ext w w'
set_option maxHeartbeats 1000000 in
theorem nmade_c {n : Nam} (h : NamOk n) (E : Int) (w : World) : FN Tryz.prog 135 [namV n, i64 E, .func (.func 136) #[] #[]] w fun e w' => ∃ cs, e = .returned (.tuple #[.agg cs.toArray, i64 E]) ∧ ItAns w w' (if E = 0 then nameI n else itemZ) cs := by
  refine FN_enter Tryz.func135 rfl rfl (by kernel_rfl) ?_
  simp
  have hE1 : Ext w ((w.alloc (.cells #[u32 n.nn, u32 n.ns, u64 n.nt, u32 n.nq] 28)).alloc (.cells #[i64 0, u64 0, .slice none 0 0, .string ⟨#[]⟩, .slice none 0 0] 51)) := ((Ext.refl _).alloc _).alloc _
  have o1 : Blk ((w.alloc (.cells #[u32 n.nn, u32 n.ns, u64 n.nt, u32 n.nq] 28)).alloc (.cells #[i64 0, u64 0, .slice none 0 0, .string ⟨#[]⟩, .slice none 0 0] 51)) w.heap.size (namC n) := (Blk.new w _ _).ext ((Ext.refl _).alloc _)
  have o2 : Blk ((w.alloc (.cells #[u32 n.nn, u32 n.ns, u64 n.nt, u32 n.nq] 28)).alloc (.cells #[i64 0, u64 0, .slice none 0 0, .string ⟨#[]⟩, .slice none 0 0] 51)) (w.heap.size + 1) (leafC 0 0) := by
    have := Blk.new (w.alloc (.cells #[u32 n.nn, u32 n.ns, u64 n.nt, u32 n.nq] 28)) (leafC 0 0) 51
    simpa using this
  have z1 : ((w.alloc (.cells #[u32 n.nn, u32 n.ns, u64 n.nt, u32 n.nq] 28)).alloc (.cells #[i64 0, u64 0, .slice none 0 0, .string ⟨#[]⟩, .slice none 0 0] 51)).heap.size = w.heap.size + 1 + 1 := by simp
  generalize ((w.alloc (.cells #[u32 n.nn, u32 n.ns, u64 n.nt, u32 n.nq] 28)).alloc (.cells #[i64 0, u64 0, .slice none 0 0, .string ⟨#[]⟩, .slice none 0 0] 51)) = w1 at *
  by_cases h0 : E = 0
  · subst h0
    simp [o1.cell 0 _ rfl, o1.cell 1 _ rfl, o1.cell 2 _ rfl, o1.cell 3 _ rfl]
    refine FN.mono (nitem1_c h w1) ?_
    rintro _ w2 ⟨v2, rfl, ⟨a2, m2, c2, rfl⟩, hi2, hE2⟩
    have o3 := o2.ext hE2
    simp [o3.cell 0 _ rfl, o3.cell 1 _ rfl, o3.cell 2 _ rfl, o3.cell 3 _ rfl, o3.cell 4 _ rfl, o3.thaw, cell_setCell]
    refine ⟨hi2.go (five_mod w2 (w.heap.size + 1) _ _ _ _ _) (fun k _ hk => ⟨by omega, by omega⟩), ⟨_, _, _, _, _, rfl, ⟨_, _, _, rfl⟩, ⟨_, _, _, rfl⟩⟩, five_ext (hE1.trans hE2) (by omega) _ _ _ _ _⟩
  · have hb : (E != 0) = true := by simp [h0]
    rw [if_neg h0]
    simp [hb, o2.cell 0 _ rfl, o2.cell 1 _ rfl, o2.cell 2 _ rfl, o2.cell 3 _ rfl, o2.cell 4 _ rfl, o2.thaw, cell_setCell]
    exact ⟨leaf_it 0 0, ⟨_, _, _, _, _, rfl, ⟨_, _, _, rfl⟩, ⟨_, _, _, rfl⟩⟩, five_ext hE1 (by omega) _ _ _ _ _⟩
set_option maxHeartbeats 1000000 in
theorem nameItem_c {n : Nam} (h : NamOk n) (w : World) : FN Tryz.prog 102 [namV n] w fun e w' => ∃ cs, e = .returned (.tuple #[.agg cs.toArray, i64 (nameE n)]) ∧ ItAns w w' (if nameE n = 0 then nameI n else itemZ) cs := by
  refine FN_enter Tryz.func102 rfl rfl (by kernel_rfl) ?_
  simp
  have hE1 : Ext w ((w.alloc (.cells #[u32 n.nn, u32 n.ns, u64 n.nt, u32 n.nq] 28)).alloc (.cells #[i64 0, u64 0, .slice none 0 0, .string ⟨#[]⟩, .slice none 0 0] 51)) := ((Ext.refl _).alloc _).alloc _
  have o1 : Blk ((w.alloc (.cells #[u32 n.nn, u32 n.ns, u64 n.nt, u32 n.nq] 28)).alloc (.cells #[i64 0, u64 0, .slice none 0 0, .string ⟨#[]⟩, .slice none 0 0] 51)) w.heap.size (namC n) := (Blk.new w _ _).ext ((Ext.refl _).alloc _)
  have o2 : Blk ((w.alloc (.cells #[u32 n.nn, u32 n.ns, u64 n.nt, u32 n.nq] 28)).alloc (.cells #[i64 0, u64 0, .slice none 0 0, .string ⟨#[]⟩, .slice none 0 0] 51)) (w.heap.size + 1) (leafC 0 0) := by
    have := Blk.new (w.alloc (.cells #[u32 n.nn, u32 n.ns, u64 n.nt, u32 n.nq] 28)) (leafC 0 0) 51
    simpa using this
  have z1 : ((w.alloc (.cells #[u32 n.nn, u32 n.ns, u64 n.nt, u32 n.nq] 28)).alloc (.cells #[i64 0, u64 0, .slice none 0 0, .string ⟨#[]⟩, .slice none 0 0] 51)).heap.size = w.heap.size + 1 + 1 := by simp
  generalize ((w.alloc (.cells #[u32 n.nn, u32 n.ns, u64 n.nt, u32 n.nq] 28)).alloc (.cells #[i64 0, u64 0, .slice none 0 0, .string ⟨#[]⟩, .slice none 0 0] 51)) = w1 at *
  refine WC_drawC 6 (.F 0 <| .F 1 <| .C 2 <| .C 3 <| .F 4 <| .F 5 <| .Z) (fun _ => false) rfl (by kernel_rfl) fun W hW => ?_
  have hWE : Ext w1 W := hW ▸ Ext.drew _
  have p1 := o1.ext hWE
  simp [p1.cell 0 _ rfl, p1.cell 1 _ rfl, p1.cell 2 _ rfl, p1.cell 3 _ rfl]
  refine FN.mono (checkName_c n W) ?_
  rintro _ w2 ⟨rfl, hE2⟩
  simp
  refine KR_ext hE2 ?_
  simp
  refine FN.mono (nmade_c h (nameE n) w2) ?_
  rintro _ w3 ⟨cs, rfl, hi3, ⟨k, x, v, s, u, rfl, ⟨a, m, c, rfl⟩, ⟨a', m', c', rfl⟩⟩, hE3⟩
  have o3 := (o2.ext (hWE.trans hE2)).ext hE3
  have z2 := (hWE.trans hE2).size
  simp
  refine KR_ext hE3 ?_
  simp [o3.cell 0 _ rfl, o3.cell 1 _ rfl, o3.cell 2 _ rfl, o3.cell 3 _ rfl, o3.cell 4 _ rfl, o3.thaw, cell_setCell]
  refine ⟨hi3.go (five_mod w3 (w.heap.size + 1) _ _ _ _ _) (fun k _ hk => ⟨by omega, by omega⟩), ⟨_, _, _, _, _, rfl, ⟨_, _, _, rfl⟩, ⟨_, _, _, rfl⟩⟩, five_ext (hE1.trans ((hWE.trans hE2).trans hE3)) (by omega) _ _ _ _ _⟩
end Go.Proofs
namespace Go.Proofs
open Pk
set_option maxRecDepth 10000
def nam0 : Nam := ⟨0, 0, 0, 0⟩
def namOfL (l : List Int) : Nam := ⟨IntKind.u32.wrap (l[3]?.getD 0), IntKind.u32.wrap (l[4]?.getD 0), l[0]?.getD 0, IntKind.u32.wrap (l[1]?.getD 0)⟩
set_option maxHeartbeats 1000000 in
theorem nameOf1_c {w : World} {v : Value} {l : List Int} (h : Sl w 1 v l.length (l.map u64)) (hl : 5 ≤ l.length) (hb : l.length ≤ 2000000) : FN Tryz.prog 142 [v] w fun e w' => e = .returned (namV (namOfL l)) ∧ Ext w w' := by
  refine FN_enter Tryz.func142 rfl rfl (by kernel_rfl) ?_
  simp
  have hE1 : Ext w (w.alloc (.cells #[u32 0, u32 0, u64 0, u32 0] 28)) := (Ext.refl _).alloc _
  have o1 : Blk (w.alloc (.cells #[u32 0, u32 0, u64 0, u32 0] 28)) w.heap.size [u32 0, u32 0, u64 0, u32 0] := Blk.new w _ _
  generalize (w.alloc (.cells #[u32 0, u32 0, u64 0, u32 0] 28)) = w1 at *
  refine WC_drawC 16 (.F 0 <| .F 1 <| .F 2 <| .F 3 <| .F 4 <| .F 5 <| .F 6 <| .F 7 <| .F 8 <| .F 9 <| .F 10 <| .F 11 <| .F 12 <| .F 13 <| .F 14 <| .F 15 <| .Z) (fun _ => false) rfl (by kernel_rfl) fun W hW => ?_
  have hWE : Ext w1 W := hW ▸ Ext.drew _
  have hS := (h.ext hE1).ext hWE
  have ix := fun (i : Nat) (hi : i < l.length) => by
    have := hS.index (P := Tryz.prog) (t := 121) (by simp) .i64 i (by omega) (by omega) W
    simp at this
    exact this
  have c := fun (i : Nat) (hi : i < l.length) => hS.at_ i (u64 (l[i]?.getD 0)) (by rw [List.getElem?_map, List.getElem?_eq_getElem hi]; rfl)
  have c0 := c 0 (by omega)
  rw [Nat.add_zero] at c0
  have i0 := ix 0 (by omega)
  have i1 := ix 1 (by omega)
  have i3 := ix 3 (by omega)
  have i4 := ix 4 (by omega)
  simp at i0 i1 i3 i4
  have o2 := o1.ext hWE
  simp [i0, i1, i3, i4, c0, c 1 (by omega), c 3 (by omega), c 4 (by omega), o2.cell 0 _ rfl, o2.cell 1 _ rfl, o2.cell 2 _ rfl, o2.cell 3 _ rfl, o2.thaw, cell_setCell]
  have zc := (Nat.le_refl w.heap.size)
  exact ⟨⟨rfl, rfl, rfl, rfl⟩, ((((hE1.trans hWE).setCell _ _ zc).setCell _ _ zc).setCell _ _ zc).setCell _ _ zc⟩
theorem flat_take_le {α β : Type} (l : List α) (f : α → List β) (i : Nat) : ((l.take i).flatMap f).length ≤ (l.flatMap f).length := by
  conv => rhs; rw [← List.take_append_drop i l]
  rw [List.flatMap_append, List.length_append]
  omega
theorem flat_take_succ {α β : Type} {l : List α} (f : α → List β) {i : Nat} {x : α} (h : l[i]? = some x) : (l.take (i + 1)).flatMap f = (l.take i).flatMap f ++ f x := by
  rw [List.take_add_one, h, Option.toList_some, List.flatMap_append, List.flatMap_singleton]
/-- The numbers of an item, as a name's reader gathers them. -/
def numsY (y : It) : List Int := uintsOf y ++ y.l.flatMap uintsOf
def numsOf (t : It) : List Int := uintsOf t ++ t.l.flatMap numsY
def namN (t : It) : Nam := namOfL (numsOf t ++ [0, 0, 0, 0, 0])
noncomputable def namF (t : It) : Bool := decide (nameE (namN t) = 0) && decide (t = nameI (namN t))
theorem wrap32b (x : Int) : 0 ≤ IntKind.u32.wrap x ∧ IntKind.u32.wrap x ≤ 4294967295 := by
  simp only [IntKind.wrap, IntKind.bits, IntKind.signed]
  have := Int.emod_nonneg x (b := 2 ^ 32) (by decide)
  have := Int.emod_lt_of_pos x (b := 2 ^ 32) (by decide)
  simp
  omega
theorem namOfL_ok (l : List Int) : NamOk (namOfL l) := ⟨wrap32b _, wrap32b _, wrap32b _⟩
set_option maxHeartbeats 4000000 in
theorem nread_c {w : World} {t : It} {cs : List Value} (ht : ItC w t cs) (hn : (numsOf t).length ≤ 1000000) :
    FN Tryz.prog 141 [.agg cs.toArray, .func (.func 102) #[] #[], .func (.func 142) #[] #[]] w fun e w' => e = .returned (if namF t then .tuple #[namV (namN t), i64 0] else .tuple #[namV nam0, i64 130]) ∧ Ext w w' := by
  obtain ⟨ba, bc, la, lc, css, hO⟩ := itO ht
  have ecs := hO.cs
  have hcs : cs.toArray = #[i64 t.k, u64 t.n, .slice ba t.b.length bc, .string t.s, .slice la t.l.length lc] := by rw [ecs]
  rw [hcs]
  refine FN_enter Tryz.func141 rfl rfl (by kernel_rfl) ?_
  simp
  have hE1 : Ext w (((w.alloc (.cells #[i64 t.k, u64 t.n, .slice ba t.b.length bc, .string t.s, .slice la t.l.length lc] 51)).alloc (.cells #[u32 0, u32 0, u64 0, u32 0] 28)).alloc (.cells #[.slice none 0 0] 121)) := (((Ext.refl _).alloc _).alloc _).alloc _
  have o3 : Blk (((w.alloc (.cells #[i64 t.k, u64 t.n, .slice ba t.b.length bc, .string t.s, .slice la t.l.length lc] 51)).alloc (.cells #[u32 0, u32 0, u64 0, u32 0] 28)).alloc (.cells #[.slice none 0 0] 121)) w.heap.size cs := by
    have := (Blk.new w cs 51).ext (((Ext.refl _).alloc (.cells #[u32 0, u32 0, u64 0, u32 0] 28)).alloc (.cells #[.slice none 0 0] 121))
    rw [hcs] at this; exact this
  have o6 : Blk (((w.alloc (.cells #[i64 t.k, u64 t.n, .slice ba t.b.length bc, .string t.s, .slice la t.l.length lc] 51)).alloc (.cells #[u32 0, u32 0, u64 0, u32 0] 28)).alloc (.cells #[.slice none 0 0] 121)) (w.heap.size + 1) [u32 0, u32 0, u64 0, u32 0] := by
    have := (Blk.new (w.alloc (.cells #[i64 t.k, u64 t.n, .slice ba t.b.length bc, .string t.s, .slice la t.l.length lc] 51)) [u32 0, u32 0, u64 0, u32 0] 28).ext ((Ext.refl _).alloc (.cells #[.slice none 0 0] 121))
    simpa using this
  have o8 : Var (((w.alloc (.cells #[i64 t.k, u64 t.n, .slice ba t.b.length bc, .string t.s, .slice la t.l.length lc] 51)).alloc (.cells #[u32 0, u32 0, u64 0, u32 0] 28)).alloc (.cells #[.slice none 0 0] 121)) (w.heap.size + 1 + 1) (.slice none 0 0) := by
    have := Var.new ((w.alloc (.cells #[i64 t.k, u64 t.n, .slice ba t.b.length bc, .string t.s, .slice la t.l.length lc] 51)).alloc (.cells #[u32 0, u32 0, u64 0, u32 0] 28)) (.slice none 0 0) 121
    simpa using this
  have z1 : (((w.alloc (.cells #[i64 t.k, u64 t.n, .slice ba t.b.length bc, .string t.s, .slice la t.l.length lc] 51)).alloc (.cells #[u32 0, u32 0, u64 0, u32 0] 28)).alloc (.cells #[.slice none 0 0] 121)).heap.size = w.heap.size + 1 + 1 + 1 := by simp
  have hA0 : Acc w (((w.alloc (.cells #[i64 t.k, u64 t.n, .slice ba t.b.length bc, .string t.s, .slice la t.l.length lc] 51)).alloc (.cells #[u32 0, u32 0, u64 0, u32 0] 28)).alloc (.cells #[.slice none 0 0] 121)) (w.heap.size + 1 + 1) (.slice none 0 0) [] := ⟨o8, World.ownsRow_nil _ _ _ _, hE1⟩
  generalize (((w.alloc (.cells #[i64 t.k, u64 t.n, .slice ba t.b.length bc, .string t.s, .slice la t.l.length lc] 51)).alloc (.cells #[u32 0, u32 0, u64 0, u32 0] 28)).alloc (.cells #[.slice none 0 0] 121)) = w1 at *
  subst ecs
  obtain ⟨bl, hbl⟩ : ∃ bl, bl = w.heap.size + 1 + 1 := ⟨_, rfl⟩
  rw [← hbl] at hA0 z1 o8 ⊢
  have lenu : (uintsOf t).length ≤ 1000000 := by unfold numsOf at hn; simp only [List.length_append] at hn; omega
  refine FN.mono (add_c ht hA0 (by omega) (by simpa using (show (uintsOf t).length ≤ 1048576 by omega))) ?_
  rintro _ w2 ⟨⟨u2, rfl⟩, v2, hA2, hM2, hg2⟩
  have p3 := o3.mod hM2 (by rintro (h | ⟨h, -⟩) <;> simp [slN] at *; omega)
  have hlen := fun ty W => hO.l.isLen (P := Tryz.prog) (t := 48) (by simp) ty W
  simp [p3.cell 4 _ rfl, hlen]
  rw [List.nil_append] at hA2
  refine WC_loop (fun k ρ ds w' => ∃ (i : Nat) (v : Value), k = t.l.length - i ∧ i ≤ t.l.length ∧ ρ 1 = .func (.func 102) #[] #[] ∧ ρ 2 = .func (.func 142) #[] #[] ∧ ρ 3 = ptr w.heap.size ∧ ρ 6 = ptr (w.heap.size + 1) ∧ ρ 8 = ptr bl ∧ ρ 9 = .func (.func 167) #[] #[ptr bl] ∧ ρ 22 = .slice la t.l.length lc ∧ ρ 23 = i64 t.l.length ∧ ρ 24 = i64 i ∧ ds = [] ∧
    Acc w w' bl v (uintsOf t ++ (t.l.take i).flatMap numsY) ∧ Mod (fun k => bl ≤ k) w1 w') t.l.length ⟨0, v2, by simp, by simp, by simp, by simp, by simp, by simp, by simp, by simp, by simp, by simp, by simp, rfl, by simpa using hA2, hM2.weaken fun k hk => ?_⟩ ?_
  · rcases hk with h | ⟨h, -⟩
    · omega
    · simp [slN] at h
  rintro k ρ ds w3 ⟨i, v, rfl, hi, e1, e2, e3, e6, e8, e9, e22, e23, e24, rfl, hA, hM⟩
  by_cases hlt : i < t.l.length
  · have hq := List.getElem?_eq_getElem hlt
    obtain ⟨y, hy⟩ : ∃ y, y = t.l[i] := ⟨_, rfl⟩
    rw [← hy] at hq
    obtain ⟨ba', bc', la', lc', css', hyO, hyA⟩ := itRowO hO.l hO.c hq
    have hyA3 := hyA.ext hA.ext
    have ix := hO.l.index (P := Tryz.prog) (t := 48) (by simp) .i64 i (by omega) (by omega) w3
    simp at ix
    have hsuc := flat_take_succ numsY hq
    have hle := flat_take_le t.l numsY (i + 1)
    have htot : (uintsOf t ++ (t.l.take i).flatMap numsY ++ numsY y).length ≤ 1000000 := by
      unfold numsOf at hn
      rw [List.append_assoc, ← hsuc]
      simp only [List.length_append] at hn ⊢
      omega
    have hny : (numsY y).length = (uintsOf y).length + (y.l.flatMap uintsOf).length := by unfold numsY; rw [List.length_append]
    simp [e9, e22, e23, e24, hlt, ix, hyA3.c0, hyA3.c1, hyA3.c2, hyA3.c3, hyA3.c4]
    have hE4 : Ext w3 (w3.alloc (.cells #[i64 y.k, u64 y.n, .slice ba' y.b.length bc', .string y.s, .slice la' y.l.length lc'] 51)) := (Ext.refl _).alloc _
    have o11 := Blk.new w3 [i64 y.k, u64 y.n, .slice ba' y.b.length bc', .string y.s, .slice la' y.l.length lc'] 51
    have hyi := hyO.itC
    generalize (w3.alloc (.cells #[i64 y.k, u64 y.n, .slice ba' y.b.length bc', .string y.s, .slice la' y.l.length lc'] 51)) = w4 at *
    have hl2 : (uintsOf t ++ (t.l.take i).flatMap numsY ++ uintsOf y).length ≤ 1048576 := by
      simp only [List.length_append] at htot ⊢
      omega
    refine FN.mono (add_c hyi (hA.more hE4) (by omega) hl2) ?_
    rintro _ w5 ⟨⟨u5, rfl⟩, v5, hA5, hM5, hg5⟩
    have hrow := hA.row
    have hbl3 := hA.var.lt
    have p11 := o11.mod hM5 (by
      rintro (h | ⟨h, h'⟩)
      · omega
      · have := (hrow h).2; omega)
    have hlen' := fun ty W => hyO.l.isLen (P := Tryz.prog) (t := 48) (by simp) ty W
    simp [p11.cell 4 _ rfl, hlen']
    have hM5' : Mod (fun k => bl ≤ k) w1 w5 := (hM.trans hE4.mod).trans (hM5.weaken fun k hk => by
      rcases hk with h | ⟨h, h'⟩
      · omega
      · have := (hrow h).1; omega)
    refine WC_loop (fun k ρ ds w' => ∃ (j : Nat) (v : Value), k = y.l.length - j ∧ j ≤ y.l.length ∧ ρ 1 = .func (.func 102) #[] #[] ∧ ρ 2 = .func (.func 142) #[] #[] ∧ ρ 3 = ptr w.heap.size ∧ ρ 6 = ptr (w.heap.size + 1) ∧ ρ 8 = ptr bl ∧ ρ 9 = .func (.func 167) #[] #[ptr bl] ∧ ρ 22 = .slice la t.l.length lc ∧ ρ 23 = i64 t.l.length ∧ ρ 24 = i64 i ∧
      ρ 32 = .slice la' y.l.length lc' ∧ ρ 33 = i64 y.l.length ∧ ρ 34 = i64 j ∧ ds = [] ∧ Acc w w' bl v (uintsOf t ++ (t.l.take i).flatMap numsY ++ (uintsOf y ++ (y.l.take j).flatMap uintsOf)) ∧ Mod (fun k => bl ≤ k) w1 w') y.l.length
      ⟨0, v5, by simp, by simp, by simp [e1], by simp [e2], by simp [e3], by simp [e6], by simp [e8], by simp [e9], by simp [e22], by simp [e23], by simp [e24], by simp, by simp, by simp, rfl, by simpa using hA5, hM5'⟩ ?_
    rintro k ρ ds w6 ⟨j, v6, rfl, hj, f1, f2, f3, f6, f8, f9, f22, f23, f24, f32, f33, f34, rfl, hA6, hM6⟩
    by_cases hjt : j < y.l.length
    · have hqz := List.getElem?_eq_getElem hjt
      obtain ⟨x, hx⟩ : ∃ x, x = y.l[j] := ⟨_, rfl⟩
      rw [← hx] at hqz
      obtain ⟨ba2, bc2, la2, lc2, css2, hxO, hxA⟩ := itRowO hyO.l hyO.c hqz
      have hxA6 := hxA.ext hA6.ext
      have ix2 := hyO.l.index (P := Tryz.prog) (t := 48) (by simp) .i64 j (by omega) (by omega) w6
      simp at ix2
      have hsuc2 := flat_take_succ uintsOf hqz
      have hle2 := flat_take_le y.l uintsOf (j + 1)
      have hl6 : (uintsOf t ++ (t.l.take i).flatMap numsY ++ (uintsOf y ++ (y.l.take j).flatMap uintsOf) ++ uintsOf x).length ≤ 1048576 := by
        rw [List.append_assoc, List.append_assoc (uintsOf y), ← hsuc2]
        simp only [List.length_append] at htot ⊢
        omega
      simp [f9, f32, f33, f34, hjt, ix2, hxA6.c0, hxA6.c1, hxA6.c2, hxA6.c3, hxA6.c4]
      have hE7 : Ext w6 (w6.alloc (.cells #[i64 x.k, u64 x.n, .slice ba2 x.b.length bc2, .string x.s, .slice la2 x.l.length lc2] 51)) := (Ext.refl _).alloc _
      have hxi := hxO.itC
      generalize (w6.alloc (.cells #[i64 x.k, u64 x.n, .slice ba2 x.b.length bc2, .string x.s, .slice la2 x.l.length lc2] 51)) = w7 at *
      refine FN.mono (add_c hxi (hA6.more hE7) (by omega) hl6) ?_
      rintro _ w8 ⟨⟨u8', rfl⟩, v8, hA8, hM8, hg8⟩
      have hrow6 := hA6.row
      have hw1 : IntKind.i64.wrap ((j : Int) + 1) = j + 1 := wrap64 _ (by omega) (by have := hyO.ll; omega)
      simp [f1, f2, f3, f6, f8, f9, f22, f23, f24, f32, f33, f34, hw1]
      have hA8' : Acc w w8 bl v8 (uintsOf t ++ ((t.l.take i).flatMap numsY ++ (uintsOf y ++ (y.l.take (j + 1)).flatMap uintsOf))) := by
        rw [hsuc2]
        simpa [List.append_assoc] using hA8
      exact ⟨y.l.length - (j + 1), by omega, j + 1, rfl, by omega, by push_cast; rfl, ⟨v8, hA8'⟩, (hM6.trans hE7.mod).trans (hM8.weaken fun k hk => by
        rcases hk with h | ⟨h, h'⟩
        · omega
        · have := (hrow6 h).1; omega)⟩
    · obtain rfl : j = y.l.length := by omega
      have hw1 : IntKind.i64.wrap ((i : Int) + 1) = i + 1 := wrap64 _ (by omega) (by have := hO.ll; omega)
      simp [f1, f2, f3, f6, f8, f9, f22, f23, f24, f33, f34, hw1]
      rw [List.take_length] at hA6
      have hA6' : Acc w w6 bl v6 (uintsOf t ++ (t.l.take (i + 1)).flatMap numsY) := by
        rw [hsuc]
        unfold numsY at hA6 ⊢
        simpa [List.append_assoc] using hA6
      exact ⟨t.l.length - (i + 1), by omega, i + 1, rfl, by omega, by push_cast; rfl, ⟨v6, hA6'⟩, hM6⟩
  · obtain rfl : i = t.l.length := by omega
    rw [List.take_length] at hA
    have hA' : Acc w w3 bl v (numsOf t) := hA
    obtain ⟨⟨inf, z, hi1, hi2, hi3, hi4, hi5⟩, -⟩ := elOk_inv (show elOk (Tryz.prog.info? 26) 1 = true by kernel_rfl)
    have hzz : ((Tryz.prog.info? 26).bind fun i => i.zero) = some (u64 0) := by kernel_rfl
    have hbb : ((Tryz.prog.info? 26).map fun i => i.bytes) = some 8 := by kernel_rfl
    rw [hi1] at hzz hbb
    simp only [Option.bind_some, Option.map_some, Option.some.injEq] at hzz hbb
    rw [hi2] at hzz
    obtain rfl : z = u64 0 := Option.some.inj hzz
    have hblw := hA'.var.lt
    obtain ⟨v9, w9, hr9, ho9, hM9, hg9⟩ := append_zeros (P := Tryz.prog) (t := 121) (tn := 3) (ty := 121) (e := 26) (kn := .i64) (kq := .i64) (z := u64 0) (zs := [u64 0, u64 0, u64 0, u64 0, u64 0]) (k := 5) (by simp) (by simp) hi1 hi2 rfl hi3 (by omega) hA'.own (by omega) (by kernel_rfl) (by intro u hu; simp at hu; subst hu; rfl) (by omega) (by omega)
    have hrow := hA'.row
    have hM9' : Mod (fun k => bl ≤ k) w1 w9 := hM.trans (hM9.weaken fun k hk => by have := hrow hk.1; omega)
    have hE19 : Ext w w9 := ((hE1.mod (S := fun k => w.heap.size ≤ k)).trans (hM9'.weaken fun k hk => by omega)).ext fun _ h => h
    have hS9 : Sl w9 1 v9 (numsOf t ++ [0, 0, 0, 0, 0]).length ((numsOf t ++ [0, 0, 0, 0, 0]).map u64) := by
      have := sl_of_own ho9
      simpa using this
    simp at hr9
    simp [e2, e8, e23, e24, hA'.var.cell, hr9]
    refine FN.mono (nameOf1_c hS9 (by simp) (by simp; omega)) ?_
    rintro _ w10 ⟨rfl, hE10⟩
    rw [show namOfL (numsOf t ++ [0, 0, 0, 0, 0]) = namN t from rfl]
    have hNok : NamOk (namN t) := namOfL_ok _
    obtain ⟨N, hN⟩ : ∃ N, N = namN t := ⟨_, rfl⟩
    have hF : namF t = (decide (nameE N = 0) && decide (t = nameI N)) := by rw [hN]; rfl
    rw [← hN] at hNok ⊢
    rw [hF]
    have q3 := (o3.mod hM9' (by omega)).ext hE10
    have q6 := (o6.mod hM9' (by omega)).ext hE10
    have hX10 := hE19.trans hE10
    have b14 := Blk.new w10 [u32 N.nn, u32 N.ns, u64 N.nt, u32 N.nq] 28
    have hE11 : Ext w10 (w10.alloc (.cells #[u32 N.nn, u32 N.ns, u64 N.nt, u32 N.nq] 28)) := (Ext.refl _).alloc _
    simp [e1]
    generalize (w10.alloc (.cells #[u32 N.nn, u32 N.ns, u64 N.nt, u32 N.nq] 28)) = w11 at *
    refine FN.mono (nameItem_c hNok w11) ?_
    rintro _ w12 ⟨cs', rfl, hi12, ⟨k', x', bv', s', lv', rfl, ⟨a1, m1, c1, rfl⟩, ⟨a2, m2, c2, rfl⟩⟩, hE12⟩
    have b15 := Blk.new w12 [i64 k', u64 x', .slice a1 m1 c1, .string s', .slice a2 m2 c2] 51
    have hE13 : Ext w12 (w12.alloc (.cells #[i64 k', u64 x', .slice a1 m1 c1, .string s', .slice a2 m2 c2] 51)) := (Ext.refl _).alloc _
    simp
    generalize (w12.alloc (.cells #[i64 k', u64 x', .slice a1 m1 c1, .string s', .slice a2 m2 c2] 51)) = w13 at *
    have hX13 := hE11.trans (hE12.trans hE13)
    have q3' := q3.ext hX13
    have q6' := q6.ext hX13
    have b14' := b14.ext (hE12.trans hE13)
    have hXw := hX10.trans hX13
    have z0 : w.heap.size ≤ w.heap.size + 1 := by omega
    have hti := ItP.ext ht (hXw)
    by_cases h0 : nameE N = 0
    · have hb : (!nameE N != 0) = true := by simp [h0]
      have hb0 : (nameE N != 0) = false := by simp [h0]
      rw [if_pos h0] at hi12
      simp [h0, e3, q3'.cell 0 _ rfl, q3'.cell 1 _ rfl, q3'.cell 2 _ rfl, q3'.cell 3 _ rfl, q3'.cell 4 _ rfl, b15.cell 0 _ rfl, b15.cell 1 _ rfl, b15.cell 2 _ rfl, b15.cell 3 _ rfl, b15.cell 4 _ rfl]
      have hsm := same_c hti (ItP.any (ItP.ext hi12 hE13))
      refine FN.mono (hsm) ?_
      rintro _ w14 ⟨rfl, hE14⟩
      have q6'' := q6'.ext hE14
      have b14'' := b14'.ext hE14
      have hX14 := hXw.trans hE14
      by_cases ht' : t = nameI N
      · have hd := decide_eq_true ht'
        simp [hd, e6, q6''.cell 0 _ rfl, q6''.cell 1 _ rfl, q6''.cell 2 _ rfl, q6''.cell 3 _ rfl, q6''.thaw, b14''.cell 0 _ rfl, b14''.cell 1 _ rfl, b14''.cell 2 _ rfl, b14''.cell 3 _ rfl, cell_setCell]
        exact ⟨⟨h0, ht'⟩, (((hX14.setCell _ _ z0).setCell _ _ z0).setCell _ _ z0).setCell _ _ z0⟩
      · have hd := decide_eq_false ht'
        simp [hd, e6, q6''.cell 0 _ rfl, q6''.cell 1 _ rfl, q6''.cell 2 _ rfl, q6''.cell 3 _ rfl, q6''.thaw, cell_setCell]
        rw [if_neg (fun e => ht' e.2)]
        exact ⟨rfl, (((hX14.setCell _ _ z0).setCell _ _ z0).setCell _ _ z0).setCell _ _ z0⟩
    · have hb : (!nameE N != 0) = false := by simp [h0]
      have hb0 : (nameE N != 0) = true := by simp [h0]
      have hif : ¬ (nameE N = 0 ∧ t = nameI N) := fun e => h0 e.1
      rw [if_neg hif]
      simp [hb0, e6, q6'.cell 0 _ rfl, q6'.cell 1 _ rfl, q6'.cell 2 _ rfl, q6'.cell 3 _ rfl, q6'.thaw, cell_setCell]
      exact ⟨by simp [nam0], (((hXw.setCell _ _ z0).setCell _ _ z0).setCell _ _ z0).setCell _ _ z0⟩
/-- The name of an item, or that it is none's. -/
theorem nameOf_c {w : World} {t : It} {cs : List Value} (ht : ItC w t cs) (hn : (numsOf t).length ≤ 1000000) : FN Tryz.prog 105 [.agg cs.toArray] w fun e w' => e = .returned (if namF t then .tuple #[namV (namN t), i64 0] else .tuple #[namV nam0, i64 130]) ∧ Ext w w' := by
  obtain ⟨ba, bc, la, lc, css, hO⟩ := itO ht
  have ecs := hO.cs
  have hcs : cs.toArray = #[i64 t.k, u64 t.n, .slice ba t.b.length bc, .string t.s, .slice la t.l.length lc] := by rw [ecs]
  rw [hcs]
  refine FN_enter Tryz.func105 rfl rfl (by kernel_rfl) ?_
  simp
  have hE1 : Ext w ((w.alloc (.cells #[i64 t.k, u64 t.n, .slice ba t.b.length bc, .string t.s, .slice la t.l.length lc] 51)).alloc (.cells #[u32 0, u32 0, u64 0, u32 0] 28)) := ((Ext.refl _).alloc _).alloc _
  have o2 : Blk ((w.alloc (.cells #[i64 t.k, u64 t.n, .slice ba t.b.length bc, .string t.s, .slice la t.l.length lc] 51)).alloc (.cells #[u32 0, u32 0, u64 0, u32 0] 28)) (w.heap.size + 1) [u32 0, u32 0, u64 0, u32 0] := by
    have := Blk.new (w.alloc (.cells #[i64 t.k, u64 t.n, .slice ba t.b.length bc, .string t.s, .slice la t.l.length lc] 51)) [u32 0, u32 0, u64 0, u32 0] 28
    simpa using this
  generalize ((w.alloc (.cells #[i64 t.k, u64 t.n, .slice ba t.b.length bc, .string t.s, .slice la t.l.length lc] 51)).alloc (.cells #[u32 0, u32 0, u64 0, u32 0] 28)) = w1 at *
  have hr := nread_c (ItP.ext ht hE1) hn
  rw [hcs] at hr
  refine FN.mono (hr) ?_
  rintro _ w2 ⟨rfl, hE2⟩
  have q6 := o2.ext hE2
  have hX := hE1.trans hE2
  have z0 : w.heap.size ≤ w.heap.size + 1 := by omega
  cases hf : namF t with
  | true =>
    simp [q6.cell 0 _ rfl, q6.cell 1 _ rfl, q6.cell 2 _ rfl, q6.cell 3 _ rfl, q6.thaw, cell_setCell]
    exact (((hX.setCell _ _ z0).setCell _ _ z0).setCell _ _ z0).setCell _ _ z0
  | false =>
    simp [q6.cell 0 _ rfl, q6.cell 1 _ rfl, q6.cell 2 _ rfl, q6.cell 3 _ rfl, q6.thaw, cell_setCell]
    exact (((hX.setCell _ _ z0).setCell _ _ z0).setCell _ _ z0).setCell _ _ z0
end Go.Proofs
namespace Go.Proofs
open Pk
set_option maxRecDepth 10000
/-- A reader: what is left lies where it lay when it was begun. -/
structure Rd (w0 w : World) (b : Nat) (l : List It) : Prop where
  row : ∃ v css, Blk w b [v] ∧ SlB w0 5 v l.length css.flatten ∧ ItCs w0 l css
  ext : Ext w0 w
  lt : w0.heap.size ≤ b
  nn : ∀ x ∈ l, 0 ≤ x.n
theorem Rd.ext' {w0 w w' : World} {b : Nat} {l : List It} (h : Rd w0 w b l) (hM : Mod (fun k => w0.heap.size ≤ k ∧ k ≠ b) w w') : Rd w0 w' b l := by
  obtain ⟨⟨v, css, h1, h2, h3⟩, h4, h5, h6⟩ := h
  exact ⟨⟨v, css, h1.mod hM (fun h => h.2 rfl), h2, h3⟩, ((h4.mod (S := fun k => w0.heap.size ≤ k)).trans (hM.weaken fun k hk => hk.1)).ext fun _ h => h, h5, h6⟩
theorem Rd.more {w0 w w' : World} {b : Nat} {l : List It} (h : Rd w0 w b l) (hE : Ext w w') : Rd w0 w' b l := h.ext' hE.mod
def RdPost {α : Type} (w0 w w' : World) (b : Nat) (o : Option (α × List It)) (f : α → Value) (e : Ending) : Prop :=
  Mod (fun k => k = b) w w' ∧ match o with | none => e = .panicked (panV 180) | some (x, r) => e = .returned (f x) ∧ Rd w0 w' b r
theorem SlB.back {w0 w : World} {s : Nat} {v : Value} {n : Nat} {cs : List Value} (h : SlB w s v n cs) (hE : Ext w0 w) (hl : cs ≠ [] → slB v < w0.heap.size) : SlB w0 s v n cs := by
  refine ⟨h.len, h.val, fun j u hj => ?_⟩
  have hb := hl (fun e => by rw [e] at hj; simp at hj)
  have := h.at_ j u hj
  unfold World.cell? at this ⊢
  rw [hE.blk _ hb] at this
  exact this
theorem rd_next {w0 w : World} {b : Nat} {l : List It} (h : Rd w0 w b l) : FN Tryz.prog 106 [ptr b] w fun e w' => Mod (fun k => k = b) w w' ∧
    match l with
    | [] => e = .panicked (panV 180)
    | x :: r => (∃ cs ba bc la lc css, e = .returned (.agg cs.toArray) ∧ ItO w0 x cs (.slice ba x.b.length bc) (.slice la x.l.length lc) css) ∧ Rd w0 w' b r := by
  obtain ⟨⟨v, css, hb, hv, hc⟩, hE, hlt, hn⟩ := h
  cases l with
  | nil =>
    have hcss : css = [] := by simpa [ItPs] using hc
    subst hcss
    obtain ⟨va, vc, rfl⟩ := hv.isSlice
    refine FN_enter Tryz.func106 rfl rfl (by kernel_rfl) ?_
    have hlen := fun ty W => hv.isLen (P := Tryz.prog) (t := 48) (by simp) ty W
    have hE1 := (Ext.refl w).alloc (.cells #[i64 0, u64 0, .slice none 0 0, .string ⟨#[]⟩, .slice none 0 0] 51)
    simp [hb.cell 0 _ rfl]
    generalize (w.alloc (.cells #[i64 0, u64 0, .slice none 0 0, .string ⟨#[]⟩, .slice none 0 0] 51)) = w1 at *
    refine FN.mono (must_f 180 w1) ?_
    rintro _ w2 ⟨rfl, h2⟩
    subst h2
    simp
    exact hE1.mod
  | cons x r =>
    have hc' : ItPs (fun _ => True) w0 (x :: r) css := hc
    rw [ItPs] at hc'
    obtain ⟨c, rs, rfl, hx, hr⟩ := hc'
    obtain ⟨ba, bc, la, lc, css', hO⟩ := itO hx
    have ec := hO.cs
    have hS : Sl w 5 v (r.length + 1) (c ++ rs.flatten) := by
      have := (hv.toSl (by simp)).ext hE
      simpa using this
    have hvb : slB v < w0.heap.size := (hv.toSl (by simp)).lt (by rw [hv.len]; simp)
    refine FN.mono (next_t (k := x.k) (x := x.n) (c2 := .slice ba x.b.length bc) (c3 := .string x.s) (c4 := .slice la x.l.length lc) hb hS (by omega) ec ⟨_, _, _, rfl⟩ ⟨_, rfl⟩ ⟨_, _, _, rfl⟩) ?_
    rintro _ w' ⟨rfl, v', hb', hS', hsb, hM⟩
    have hE' : Ext w0 w' := ((hE.mod (S := fun k => w0.heap.size ≤ k)).trans (hM.weaken fun k hk => by omega)).ext fun _ h => h
    refine ⟨hM, ⟨c, ba, bc, la, lc, css', by rw [ec], hO⟩, ⟨v', rs, hb', SlB.back hS'.toB hE' (fun _ => by omega), hr⟩, hE', hlt, fun y hy => hn y (List.mem_cons_of_mem _ hy)⟩
def upI (l : List It) (bd : Int) : Option (Int × List It) := match l with | [] => none | x :: r => if x.k = 1 ∧ x.n ≤ bd then some (x.n, r) else none
def yesI (l : List It) : Option (Bool × List It) := match l with | [] => none | x :: r => if x.k = 5 then some (decide (x.n = 1), r) else none
theorem rdUpu64 {w0 w : World} {b : Nat} {l : List It} (h : Rd w0 w b l) (bd : Int) (hbd : ∀ x, 0 ≤ x → x ≤ bd → IntKind.u64.wrap x = x) :
    FN Tryz.prog 62 [ptr b, u64 bd] w fun e w' => RdPost w0 w w' b (upI l bd) (fun x => .int .u64 x) e := by
  refine FN_enter Tryz.func62 rfl rfl (by kernel_rfl) ?_
  simp
  refine FN.mono (rd_next h) ?_
  rintro e w1 ⟨hM1, hp⟩
  cases l with
  | nil =>
    obtain rfl : e = _ := hp
    simp
    exact ⟨hM1, rfl⟩
  | cons x r =>
    obtain ⟨ba, bc, la, lc, rfl, hR⟩ : ∃ ba bc la lc, e = .returned (.agg #[i64 x.k, u64 x.n, .slice ba x.b.length bc, .string x.s, .slice la x.l.length lc]) ∧ Rd w0 w1 b r := by
      obtain ⟨⟨cs, ba, bc, la, lc, css, rfl, hO⟩, hR⟩ := hp
      have := hO.cs
      subst this
      exact ⟨_, _, _, _, rfl, hR⟩
    have hn := h.nn x List.mem_cons_self
    have hE2 : Ext w1 (w1.alloc (.cells #[i64 x.k, u64 x.n, .slice ba x.b.length bc, .string x.s, .slice la x.l.length lc] 51)) := (Ext.refl _).alloc _
    have o2 : Blk (w1.alloc (.cells #[i64 x.k, u64 x.n, .slice ba x.b.length bc, .string x.s, .slice la x.l.length lc] 51)) w1.heap.size [i64 x.k, u64 x.n, .slice ba x.b.length bc, .string x.s, .slice la x.l.length lc] := Blk.new w1 _ _
    simp
    generalize (w1.alloc (.cells #[i64 x.k, u64 x.n, .slice ba x.b.length bc, .string x.s, .slice la x.l.length lc] 51)) = w2 at *
    by_cases hk : x.k = 1 ∧ x.n ≤ bd
    · have hw := hbd x.n hn hk.2
      have hu : upI (x :: r) bd = some (x.n, r) := if_pos hk
      simp [o2.cell 1 _ rfl, hk.1, hk.2]
      refine FN.mono (must_t 180 w2) ?_
      rintro _ w3 ⟨⟨u, rfl⟩, h3⟩
      subst h3
      simp [o2.cell 1 _ rfl]
      rw [hu]
      exact ⟨hM1.trans hE2.mod, rfl, hR.more hE2⟩
    · have hu : upI (x :: r) bd = none := if_neg hk
      rw [hu]
      by_cases hk1 : x.k = 1
      · have hx' : ¬ x.n ≤ bd := fun e => hk ⟨hk1, e⟩
        simp [o2.cell 1 _ rfl, hk1, hx']
        refine FN.mono (must_f 180 w2) ?_
        rintro _ w3 ⟨rfl, h3⟩
        subst h3
        simp
        exact ⟨hM1.trans hE2.mod, rfl⟩
      · simp [beq_dec, hk1]
        refine FN.mono (must_f 180 w2) ?_
        rintro _ w3 ⟨rfl, h3⟩
        subst h3
        simp
        exact ⟨hM1.trans hE2.mod, rfl⟩
theorem rdUpu32 {w0 w : World} {b : Nat} {l : List It} (h : Rd w0 w b l) (bd : Int) (hbd : ∀ x, 0 ≤ x → x ≤ bd → IntKind.u32.wrap x = x) :
    FN Tryz.prog 109 [ptr b, u64 bd] w fun e w' => RdPost w0 w w' b (upI l bd) (fun x => .int .u32 x) e := by
  refine FN_enter Tryz.func109 rfl rfl (by kernel_rfl) ?_
  simp
  refine FN.mono (rd_next h) ?_
  rintro e w1 ⟨hM1, hp⟩
  cases l with
  | nil =>
    obtain rfl : e = _ := hp
    simp
    exact ⟨hM1, rfl⟩
  | cons x r =>
    obtain ⟨ba, bc, la, lc, rfl, hR⟩ : ∃ ba bc la lc, e = .returned (.agg #[i64 x.k, u64 x.n, .slice ba x.b.length bc, .string x.s, .slice la x.l.length lc]) ∧ Rd w0 w1 b r := by
      obtain ⟨⟨cs, ba, bc, la, lc, css, rfl, hO⟩, hR⟩ := hp
      have := hO.cs
      subst this
      exact ⟨_, _, _, _, rfl, hR⟩
    have hn := h.nn x List.mem_cons_self
    have hE2 : Ext w1 (w1.alloc (.cells #[i64 x.k, u64 x.n, .slice ba x.b.length bc, .string x.s, .slice la x.l.length lc] 51)) := (Ext.refl _).alloc _
    have o2 : Blk (w1.alloc (.cells #[i64 x.k, u64 x.n, .slice ba x.b.length bc, .string x.s, .slice la x.l.length lc] 51)) w1.heap.size [i64 x.k, u64 x.n, .slice ba x.b.length bc, .string x.s, .slice la x.l.length lc] := Blk.new w1 _ _
    simp
    generalize (w1.alloc (.cells #[i64 x.k, u64 x.n, .slice ba x.b.length bc, .string x.s, .slice la x.l.length lc] 51)) = w2 at *
    by_cases hk : x.k = 1 ∧ x.n ≤ bd
    · have hw := hbd x.n hn hk.2
      have hu : upI (x :: r) bd = some (x.n, r) := if_pos hk
      simp [o2.cell 1 _ rfl, hk.1, hk.2]
      refine FN.mono (must_t 180 w2) ?_
      rintro _ w3 ⟨⟨u, rfl⟩, h3⟩
      subst h3
      simp [o2.cell 1 _ rfl, hw]
      rw [hu]
      exact ⟨hM1.trans hE2.mod, rfl, hR.more hE2⟩
    · have hu : upI (x :: r) bd = none := if_neg hk
      rw [hu]
      by_cases hk1 : x.k = 1
      · have hx' : ¬ x.n ≤ bd := fun e => hk ⟨hk1, e⟩
        simp [o2.cell 1 _ rfl, hk1, hx']
        refine FN.mono (must_f 180 w2) ?_
        rintro _ w3 ⟨rfl, h3⟩
        subst h3
        simp
        exact ⟨hM1.trans hE2.mod, rfl⟩
      · simp [beq_dec, hk1]
        refine FN.mono (must_f 180 w2) ?_
        rintro _ w3 ⟨rfl, h3⟩
        subst h3
        simp
        exact ⟨hM1.trans hE2.mod, rfl⟩
theorem rdUpu8 {w0 w : World} {b : Nat} {l : List It} (h : Rd w0 w b l) (bd : Int) (hbd : ∀ x, 0 ≤ x → x ≤ bd → IntKind.u8.wrap x = x) :
    FN Tryz.prog 73 [ptr b, u64 bd] w fun e w' => RdPost w0 w w' b (upI l bd) (fun x => .int .u8 x) e := by
  refine FN_enter Tryz.func73 rfl rfl (by kernel_rfl) ?_
  simp
  refine FN.mono (rd_next h) ?_
  rintro e w1 ⟨hM1, hp⟩
  cases l with
  | nil =>
    obtain rfl : e = _ := hp
    simp
    exact ⟨hM1, rfl⟩
  | cons x r =>
    obtain ⟨ba, bc, la, lc, rfl, hR⟩ : ∃ ba bc la lc, e = .returned (.agg #[i64 x.k, u64 x.n, .slice ba x.b.length bc, .string x.s, .slice la x.l.length lc]) ∧ Rd w0 w1 b r := by
      obtain ⟨⟨cs, ba, bc, la, lc, css, rfl, hO⟩, hR⟩ := hp
      have := hO.cs
      subst this
      exact ⟨_, _, _, _, rfl, hR⟩
    have hn := h.nn x List.mem_cons_self
    have hE2 : Ext w1 (w1.alloc (.cells #[i64 x.k, u64 x.n, .slice ba x.b.length bc, .string x.s, .slice la x.l.length lc] 51)) := (Ext.refl _).alloc _
    have o2 : Blk (w1.alloc (.cells #[i64 x.k, u64 x.n, .slice ba x.b.length bc, .string x.s, .slice la x.l.length lc] 51)) w1.heap.size [i64 x.k, u64 x.n, .slice ba x.b.length bc, .string x.s, .slice la x.l.length lc] := Blk.new w1 _ _
    simp
    generalize (w1.alloc (.cells #[i64 x.k, u64 x.n, .slice ba x.b.length bc, .string x.s, .slice la x.l.length lc] 51)) = w2 at *
    by_cases hk : x.k = 1 ∧ x.n ≤ bd
    · have hw := hbd x.n hn hk.2
      have hu : upI (x :: r) bd = some (x.n, r) := if_pos hk
      simp [o2.cell 1 _ rfl, hk.1, hk.2]
      refine FN.mono (must_t 180 w2) ?_
      rintro _ w3 ⟨⟨u, rfl⟩, h3⟩
      subst h3
      simp [o2.cell 1 _ rfl, hw]
      rw [hu]
      exact ⟨hM1.trans hE2.mod, rfl, hR.more hE2⟩
    · have hu : upI (x :: r) bd = none := if_neg hk
      rw [hu]
      by_cases hk1 : x.k = 1
      · have hx' : ¬ x.n ≤ bd := fun e => hk ⟨hk1, e⟩
        simp [o2.cell 1 _ rfl, hk1, hx']
        refine FN.mono (must_f 180 w2) ?_
        rintro _ w3 ⟨rfl, h3⟩
        subst h3
        simp
        exact ⟨hM1.trans hE2.mod, rfl⟩
      · simp [beq_dec, hk1]
        refine FN.mono (must_f 180 w2) ?_
        rintro _ w3 ⟨rfl, h3⟩
        subst h3
        simp
        exact ⟨hM1.trans hE2.mod, rfl⟩
theorem rdUpi64 {w0 w : World} {b : Nat} {l : List It} (h : Rd w0 w b l) (bd : Int) (hbd : ∀ x, 0 ≤ x → x ≤ bd → IntKind.i64.wrap x = x) :
    FN Tryz.prog 82 [ptr b, u64 bd] w fun e w' => RdPost w0 w w' b (upI l bd) (fun x => .int .i64 x) e := by
  refine FN_enter Tryz.func82 rfl rfl (by kernel_rfl) ?_
  simp
  refine FN.mono (rd_next h) ?_
  rintro e w1 ⟨hM1, hp⟩
  cases l with
  | nil =>
    obtain rfl : e = _ := hp
    simp
    exact ⟨hM1, rfl⟩
  | cons x r =>
    obtain ⟨ba, bc, la, lc, rfl, hR⟩ : ∃ ba bc la lc, e = .returned (.agg #[i64 x.k, u64 x.n, .slice ba x.b.length bc, .string x.s, .slice la x.l.length lc]) ∧ Rd w0 w1 b r := by
      obtain ⟨⟨cs, ba, bc, la, lc, css, rfl, hO⟩, hR⟩ := hp
      have := hO.cs
      subst this
      exact ⟨_, _, _, _, rfl, hR⟩
    have hn := h.nn x List.mem_cons_self
    have hE2 : Ext w1 (w1.alloc (.cells #[i64 x.k, u64 x.n, .slice ba x.b.length bc, .string x.s, .slice la x.l.length lc] 51)) := (Ext.refl _).alloc _
    have o2 : Blk (w1.alloc (.cells #[i64 x.k, u64 x.n, .slice ba x.b.length bc, .string x.s, .slice la x.l.length lc] 51)) w1.heap.size [i64 x.k, u64 x.n, .slice ba x.b.length bc, .string x.s, .slice la x.l.length lc] := Blk.new w1 _ _
    simp
    generalize (w1.alloc (.cells #[i64 x.k, u64 x.n, .slice ba x.b.length bc, .string x.s, .slice la x.l.length lc] 51)) = w2 at *
    by_cases hk : x.k = 1 ∧ x.n ≤ bd
    · have hw := hbd x.n hn hk.2
      have hu : upI (x :: r) bd = some (x.n, r) := if_pos hk
      simp [o2.cell 1 _ rfl, hk.1, hk.2]
      refine FN.mono (must_t 180 w2) ?_
      rintro _ w3 ⟨⟨u, rfl⟩, h3⟩
      subst h3
      simp [o2.cell 1 _ rfl, hw]
      rw [hu]
      exact ⟨hM1.trans hE2.mod, rfl, hR.more hE2⟩
    · have hu : upI (x :: r) bd = none := if_neg hk
      rw [hu]
      by_cases hk1 : x.k = 1
      · have hx' : ¬ x.n ≤ bd := fun e => hk ⟨hk1, e⟩
        simp [o2.cell 1 _ rfl, hk1, hx']
        refine FN.mono (must_f 180 w2) ?_
        rintro _ w3 ⟨rfl, h3⟩
        subst h3
        simp
        exact ⟨hM1.trans hE2.mod, rfl⟩
      · simp [beq_dec, hk1]
        refine FN.mono (must_f 180 w2) ?_
        rintro _ w3 ⟨rfl, h3⟩
        subst h3
        simp
        exact ⟨hM1.trans hE2.mod, rfl⟩
theorem wrap64u (x : Int) (h0 : 0 ≤ x) (h1 : x ≤ 18446744073709551615) : IntKind.u64.wrap x = x := by simp [IntKind.wrap, IntKind.signed, IntKind.bits]; omega
theorem rd_node {w0 w : World} {b : Nat} {l : List It} (h : Rd w0 w b l) : FN Tryz.prog 63 [ptr b] w fun e w' => RdPost w0 w w' b (upI l 4294967295) u32 e := by
  refine FN_enter Tryz.func63 rfl rfl (by kernel_rfl) ?_
  simp
  refine FN.mono (rdUpu32 h 4294967295 fun x h0 h1 => wrap32u x h0 h1) ?_
  rintro e w1 ⟨hM, hp⟩
  cases ho : upI l 4294967295 with
  | none =>
    rw [ho] at hp
    obtain rfl : e = _ := hp
    simp
    exact ⟨hM, rfl⟩
  | some p =>
    obtain ⟨x, r⟩ := p
    rw [ho] at hp
    obtain ⟨rfl, hR⟩ := hp
    simp
    exact ⟨hM, rfl, hR⟩
theorem rd_time {w0 w : World} {b : Nat} {l : List It} (h : Rd w0 w b l) : FN Tryz.prog 69 [ptr b] w fun e w' => RdPost w0 w w' b (upI l 4611686018427387903) u64 e := by
  refine FN_enter Tryz.func69 rfl rfl (by kernel_rfl) ?_
  simp
  refine FN.mono (rdUpu64 h 4611686018427387903 fun x h0 h1 => wrap64u x h0 (by omega)) ?_
  rintro e w1 ⟨hM, hp⟩
  cases ho : upI l 4611686018427387903 with
  | none =>
    rw [ho] at hp
    obtain rfl : e = _ := hp
    simp
    exact ⟨hM, rfl⟩
  | some p =>
    obtain ⟨x, r⟩ := p
    rw [ho] at hp
    obtain ⟨rfl, hR⟩ := hp
    simp
    exact ⟨hM, rfl, hR⟩
theorem rd_yes {w0 w : World} {b : Nat} {l : List It} (h : Rd w0 w b l) : FN Tryz.prog 68 [ptr b] w fun e w' => RdPost w0 w w' b (yesI l) (fun x => .bool x) e := by
  refine FN_enter Tryz.func68 rfl rfl (by kernel_rfl) ?_
  simp
  refine FN.mono (rd_next h) ?_
  rintro e w1 ⟨hM1, hp⟩
  cases l with
  | nil =>
    obtain rfl : e = _ := hp
    simp
    exact ⟨hM1, rfl⟩
  | cons x r =>
    obtain ⟨ba, bc, la, lc, rfl, hR⟩ : ∃ ba bc la lc, e = .returned (.agg #[i64 x.k, u64 x.n, .slice ba x.b.length bc, .string x.s, .slice la x.l.length lc]) ∧ Rd w0 w1 b r := by
      obtain ⟨⟨cs, ba, bc, la, lc, css, rfl, hO⟩, hR⟩ := hp
      have := hO.cs
      subst this
      exact ⟨_, _, _, _, rfl, hR⟩
    have hE2 : Ext w1 (w1.alloc (.cells #[i64 x.k, u64 x.n, .slice ba x.b.length bc, .string x.s, .slice la x.l.length lc] 51)) := (Ext.refl _).alloc _
    have o2 : Blk (w1.alloc (.cells #[i64 x.k, u64 x.n, .slice ba x.b.length bc, .string x.s, .slice la x.l.length lc] 51)) w1.heap.size [i64 x.k, u64 x.n, .slice ba x.b.length bc, .string x.s, .slice la x.l.length lc] := Blk.new w1 _ _
    simp
    generalize (w1.alloc (.cells #[i64 x.k, u64 x.n, .slice ba x.b.length bc, .string x.s, .slice la x.l.length lc] 51)) = w2 at *
    by_cases hk : x.k = 5
    · have hu : yesI (x :: r) = some (decide (x.n = 1), r) := if_pos hk
      simp [hk]
      refine FN.mono (must_t 180 w2) ?_
      rintro _ w3 ⟨⟨u, rfl⟩, h3⟩
      subst h3
      simp [beq_dec, o2.cell 1 _ rfl]
      rw [hu]
      exact ⟨hM1.trans hE2.mod, rfl, hR.more hE2⟩
    · have hu : yesI (x :: r) = none := if_neg hk
      rw [hu]
      simp [beq_dec, hk]
      refine FN.mono (must_f 180 w2) ?_
      rintro _ w3 ⟨rfl, h3⟩
      subst h3
      simp
      exact ⟨hM1.trans hE2.mod, rfl⟩
end Go.Proofs
