/-
  Contracts of the functions that the law reaches, step by step.
-/
import Derived.Test.YtoeklmmapjhaaaaGreatDoorProg
import Derived.Test.YtoeklmmapjhaaaaGreatDoorEngZ
import Derived.Test.YtoeklmmapjhaaaaGreatDoorEngW
import Derived.Test.YtoeklmmapjhaaaaGreatDoorEngS
import Derived.Test.YtoeklmmapjhaaaaGreatDoorEngQ
import Derived.Test.YtoeklmmapjhaaaaGreatDoorEngU
import Derived.Test.YtoeklmmapjhaaaaGreatDoorEngT
import Derived.Test.YtoeklmmapjhaaaaGreatDoorEngAA
namespace Go.Proofs
open Pk
set_option maxRecDepth 10000
abbrev u32 (x : Int) : Value := .int .u32 x
abbrev u64 (x : Int) : Value := .int .u64 x
abbrev i64 (x : Int) : Value := .int .i64 x
abbrev u8 (x : Int) : Value := .int .u8 x
abbrev ptr (b : Nat) : Value := .pointer (some ⟨b, 0, none⟩)
/-! ### Items -/
inductive It where
  | mk (k n : Int) (b : List Int) (s : ByteArray) (l : List It)
noncomputable instance : DecidableEq It := fun _ _ => Classical.propDecidable _
mutual
/-- The cells of an item; its rows stand where `Pd` holds. -/
def ItP (Pd : Nat → Prop) (W : World) : It → List Value → Prop
  | .mk k n b s l, cs => ∃ bv lv css, cs = [i64 k, u64 n, bv, .string s, lv] ∧ SlB W 1 bv b.length (b.map u8) ∧ SlB W 5 lv l.length css.flatten ∧ (b ≠ [] → Pd (slB bv)) ∧ (l ≠ [] → Pd (slB lv)) ∧ ItPs Pd W l css ∧ b.length ≤ 9223372036854775807 ∧ l.length ≤ 9223372036854775807
def ItPs (Pd : Nat → Prop) (W : World) : List It → List (List Value) → Prop
  | [], css => css = []
  | x :: l, css => ∃ c r, css = c :: r ∧ ItP Pd W x c ∧ ItPs Pd W l r
end
abbrev ItC (W : World) (t : It) (cs : List Value) : Prop := ItP (fun _ => True) W t cs
abbrev ItCs (W : World) (l : List It) (css : List (List Value)) : Prop := ItPs (fun _ => True) W l css
theorem itP_mk {Pd : Nat → Prop} {W : World} {k n : Int} {b : List Int} {s : ByteArray} {l : List It} {cs : List Value} : ItP Pd W (.mk k n b s l) cs ↔ ∃ bv lv css, cs = [i64 k, u64 n, bv, .string s, lv] ∧ SlB W 1 bv b.length (b.map u8) ∧ SlB W 5 lv l.length css.flatten ∧ (b ≠ [] → Pd (slB bv)) ∧ (l ≠ [] → Pd (slB lv)) ∧ ItPs Pd W l css ∧ b.length ≤ 9223372036854775807 ∧ l.length ≤ 9223372036854775807 := by
  rw [ItP]
theorem itC_mk {W : World} {k n : Int} {b : List Int} {s : ByteArray} {l : List It} {cs : List Value} : ItC W (.mk k n b s l) cs ↔ ∃ bv lv css, cs = [i64 k, u64 n, bv, .string s, lv] ∧ SlB W 1 bv b.length (b.map u8) ∧ SlB W 5 lv l.length css.flatten ∧ ItCs W l css ∧ b.length ≤ 9223372036854775807 ∧ l.length ≤ 9223372036854775807 := by
  rw [ItC, itP_mk]
  constructor
  · rintro ⟨bv, lv, css, h1, h2, h3, -, -, h4⟩; exact ⟨bv, lv, css, h1, h2, h3, h4⟩
  · rintro ⟨bv, lv, css, h1, h2, h3, h4⟩; exact ⟨bv, lv, css, h1, h2, h3, fun _ => trivial, fun _ => trivial, h4⟩
theorem itPs_iff {Pd : Nat → Prop} {W : World} : ∀ {l : List It} {css : List (List Value)}, ItPs Pd W l css ↔ css.length = l.length ∧ ∀ (i : Nat) (x : It) (c : List Value), l[i]? = some x → css[i]? = some c → ItP Pd W x c
  | [], css => by
    rw [ItPs]
    constructor
    · rintro rfl; exact ⟨rfl, fun i x c h => by simp at h⟩
    · rintro ⟨h, -⟩; exact List.eq_nil_of_length_eq_zero h
  | x :: l, css => by
    rw [ItPs]
    constructor
    · rintro ⟨c, r, rfl, h1, h2⟩
      obtain ⟨h3, h4⟩ := itPs_iff.1 h2
      refine ⟨by simp [h3], fun i y d hy hd => ?_⟩
      cases i with
      | zero => simp at hy hd; subst hy; subst hd; exact h1
      | succ i => simp at hy hd; exact h4 i y d hy hd
    · rintro ⟨h1, h2⟩
      cases css with
      | nil => simp at h1
      | cons c r =>
        refine ⟨c, r, rfl, h2 0 x c rfl rfl, itPs_iff.2 ⟨by simpa using h1, fun i y d hy hd => h2 (i + 1) y d (by simpa using hy) (by simpa using hd)⟩⟩
theorem itCs_iff {W : World} {l : List It} {css : List (List Value)} : ItCs W l css ↔ css.length = l.length ∧ ∀ (i : Nat) (x : It) (c : List Value), l[i]? = some x → css[i]? = some c → ItC W x c := itPs_iff
theorem It.lt {l : List It} {x : It} (h : x ∈ l) (k n : Int) (b : List Int) (s : ByteArray) : SizeOf.sizeOf x < SizeOf.sizeOf (It.mk k n b s l) := by
  have := List.sizeOf_lt_of_mem h
  simp
  omega
theorem itC_len {W : World} : ∀ {t : It} {cs : List Value}, ItC W t cs → cs.length = 5
  | .mk _ _ _ _ _, _, h => by obtain ⟨bv, lv, css, rfl, -⟩ := itC_mk.1 h; rfl
theorem sl_keep {W W' : World} {S : Nat → Prop} {s n : Nat} {v : Value} {xs : List Value} (h : Sl W s v n xs) (hM : Mod S W W') (hS : xs ≠ [] → ¬ S (slB v)) : Sl W' s v n xs := by
  by_cases hx : xs = []
  · subst hx
    exact ⟨h.len, h.val, fun _ _ h => by simp at h⟩
  · exact h.mod hM (hS hx)
/-- An item goes on: what has changed is not where its rows stand. -/
theorem itP_go {Pd Pd' S : Nat → Prop} {W W' : World} (hM : Mod S W W') (hP : ∀ k, k < W.heap.size → Pd k → Pd' k ∧ ¬ S k) : ∀ (m : Nat) (t : It) (cs : List Value), SizeOf.sizeOf t ≤ m → ItP Pd W t cs → ItP Pd' W' t cs := by
  intro m
  induction m with
  | zero => intro t cs h; cases t; simp at h
  | succ m ih =>
    intro t cs h hc
    obtain ⟨k, n, b, s, l⟩ := t
    obtain ⟨bv, lv, css, rfl, h1, h2, p1, p2, h3, h4⟩ := itP_mk.1 hc
    obtain ⟨h5, h6⟩ := itPs_iff.1 h3
    have l1 : b ≠ [] → slB bv < W.heap.size := fun hb => h1.lt (by simpa using List.length_pos_iff.2 hb)
    have l2 : l ≠ [] → slB lv < W.heap.size := fun hb => h2.lt (by have := List.length_pos_iff.2 hb; have := h2.len; omega)
    refine itP_mk.2 ⟨bv, lv, css, rfl, h1.mod hM fun hx => (hP _ (l1 (by simpa using hx)) (p1 (by simpa using hx))).2, h2.mod hM fun hx => ?_, fun hb => (hP _ (l1 hb) (p1 hb)).1, fun hb => (hP _ (l2 hb) (p2 hb)).1, itPs_iff.2 ⟨h5, fun i x c hx hcc => ih x c ?_ (h6 i x c hx hcc)⟩, h4⟩
    · have hl : l ≠ [] := fun e => hx (by subst e; have := h2.len; exact List.eq_nil_of_length_eq_zero (by simpa using this))
      exact (hP _ (l2 hl) (p2 hl)).2
    · have := It.lt (List.mem_of_getElem? hx) k n b s
      omega
theorem ItP.go {Pd Pd' S : Nat → Prop} {W W' : World} {t : It} {cs : List Value} (h : ItP Pd W t cs) (hM : Mod S W W') (hP : ∀ k, k < W.heap.size → Pd k → Pd' k ∧ ¬ S k) : ItP Pd' W' t cs := itP_go hM hP _ t cs (Nat.le_refl _) h
theorem ItP.ext {Pd : Nat → Prop} {W W' : World} {t : It} {cs : List Value} (h : ItP Pd W t cs) (hE : Ext W W') : ItP Pd W' t cs := h.go (hE.mod (S := fun _ => False)) fun _ _ h => ⟨h, id⟩
theorem ItC.ext {W W' : World} {t : It} {cs : List Value} (h : ItC W t cs) (hE : Ext W W') : ItC W' t cs := ItP.ext h hE
theorem ItP.any {Pd : Nat → Prop} {W : World} {t : It} {cs : List Value} (h : ItP Pd W t cs) : ItC W t cs := h.go (Mod.refl (fun _ => False) W) fun _ _ _ => ⟨trivial, id⟩
theorem ItPs.go {Pd Pd' S : Nat → Prop} {W W' : World} {l : List It} {css : List (List Value)} (h : ItPs Pd W l css) (hM : Mod S W W') (hP : ∀ k, k < W.heap.size → Pd k → Pd' k ∧ ¬ S k) : ItPs Pd' W' l css := by
  obtain ⟨h1, h2⟩ := itPs_iff.1 h
  exact itPs_iff.2 ⟨h1, fun i x c hx hc => (h2 i x c hx hc).go hM hP⟩
theorem ItPs.ext {Pd : Nat → Prop} {W W' : World} {l : List It} {css : List (List Value)} (h : ItPs Pd W l css) (hE : Ext W W') : ItPs Pd W' l css := h.go (hE.mod (S := fun _ => False)) fun _ _ h => ⟨h, id⟩
theorem ItCs.ext {W W' : World} {l : List It} {css : List (List Value)} (h : ItCs W l css) (hE : Ext W W') : ItCs W' l css := ItPs.ext h hE
theorem ItPs.any {Pd : Nat → Prop} {W : World} {l : List It} {css : List (List Value)} (h : ItPs Pd W l css) : ItCs W l css := h.go (Mod.refl (fun _ => False) W) fun _ _ _ => ⟨trivial, id⟩
theorem ItPs.snoc {Pd : Nat → Prop} {W : World} {l : List It} {css : List (List Value)} (h : ItPs Pd W l css) {x : It} {c : List Value} (hx : ItP Pd W x c) : ItPs Pd W (l ++ [x]) (css ++ [c]) := by
  obtain ⟨h1, h2⟩ := itPs_iff.1 h
  refine itPs_iff.2 ⟨by simp [h1], fun i y d hy hd => ?_⟩
  by_cases hi : i < l.length
  · rw [List.getElem?_append_left hi] at hy
    rw [List.getElem?_append_left (by omega)] at hd
    exact h2 i y d hy hd
  · rw [List.getElem?_append_right (by omega)] at hy
    rw [List.getElem?_append_right (by omega), h1] at hd
    cases hj : i - l.length with
    | zero => rw [hj] at hy hd; simp at hy hd; subst hy; subst hd; exact hx
    | succ j => rw [hj] at hy; simp at hy
theorem ItPs.cons {Pd : Nat → Prop} {W : World} {l : List It} {css : List (List Value)} (h : ItPs Pd W l css) {x : It} {c : List Value} (hx : ItP Pd W x c) : ItPs Pd W (x :: l) (c :: css) := by
  rw [ItPs]; exact ⟨c, css, rfl, hx, h⟩
theorem itPs_nil {Pd : Nat → Prop} {W : World} : ItPs Pd W [] [] := by rw [ItPs]
theorem itCs_five {W : World} {l : List It} {css : List (List Value)} (h : ItCs W l css) : ∀ c ∈ css, c.length = 5 := by
  intro c hc
  obtain ⟨h1, h2⟩ := itCs_iff.1 h
  obtain ⟨i, hi, rfl⟩ := List.getElem_of_mem hc
  exact itC_len (h2 i l[i] _ (List.getElem?_eq_getElem (by omega)) (List.getElem?_eq_getElem hi))
theorem flat5 : ∀ {css : List (List Value)} (_ : ∀ c ∈ css, c.length = 5) (i j : Nat) (c : List Value), css[i]? = some c → j < 5 → css.flatten[i * 5 + j]? = c[j]?
  | [], _, i, _, _, hc, _ => by simp at hc
  | d :: css, h, i, j, c, hc, hj => by
    have hd := h d (by simp)
    cases i with
    | zero =>
      simp at hc; subst hc
      rw [List.flatten_cons, List.getElem?_append_left (by omega)]; simp
    | succ i =>
      rw [List.flatten_cons, List.getElem?_append_right (by omega)]
      have := flat5 (css := css) (fun c hc => h c (by simp [hc])) i j c (by simpa using hc) hj
      rw [← this]; congr 1; omega
/-- An item in a row. -/
structure ItAt (W : World) (v : Value) (i : Nat) (k n : Int) (bv : Value) (s : ByteArray) (lv : Value) : Prop where
  c0 : W.cell? ⟨slB v, slO v + i * 5, none⟩ = some (i64 k)
  c1 : W.cell? ⟨slB v, slO v + i * 5 + 1, none⟩ = some (u64 n)
  c2 : W.cell? ⟨slB v, slO v + i * 5 + 2, none⟩ = some bv
  c3 : W.cell? ⟨slB v, slO v + i * 5 + 3, none⟩ = some (.string s)
  c4 : W.cell? ⟨slB v, slO v + i * 5 + 4, none⟩ = some lv
theorem ItAt.ext {W W' : World} {v : Value} {i : Nat} {k n : Int} {bv : Value} {s : ByteArray} {lv : Value} (h : ItAt W v i k n bv s lv) (hE : Ext W W') : ItAt W' v i k n bv s lv :=
  ⟨hE.cell_eq h.c0, hE.cell_eq h.c1, hE.cell_eq h.c2, hE.cell_eq h.c3, hE.cell_eq h.c4⟩
theorem itRow {W : World} {v : Value} {l : List It} {css : List (List Value)} (h : SlB W 5 v l.length css.flatten) (hc : ItCs W l css) {i : Nat} (hi : i < l.length) :
    ∃ k n bv s lv, css[i]? = some [i64 k, u64 n, bv, .string s, lv] ∧ ItC W l[i] [i64 k, u64 n, bv, .string s, lv] ∧ ItAt W v i k n bv s lv := by
  obtain ⟨h1, h2⟩ := itCs_iff.1 hc
  have hci := List.getElem?_eq_getElem (l := css) (i := i) (by omega)
  have hx := h2 i l[i] _ (List.getElem?_eq_getElem hi) hci
  obtain ⟨k, n, b, s, l', hl⟩ : ∃ k n b s l', l[i] = It.mk k n b s l' := by
    cases l[i] with
    | mk k n b s l' => exact ⟨k, n, b, s, l', rfl⟩
  rw [hl] at hx
  obtain ⟨bv, lv, css', hcs, -⟩ := itC_mk.1 hx
  rw [hcs] at hci hx
  have d := fun (j : Nat) (u : Value) (hj : j < 5) (e : ([i64 k, u64 n, bv, .string s, lv] : List Value)[j]? = some u) => h.at_ (i * 5 + j) u ((flat5 (itCs_five hc) i j _ hci hj).trans e)
  simp only [← Nat.add_assoc] at d
  exact ⟨k, n, bv, s, lv, hci, by rw [hl]; exact hx, d 0 _ (by omega) rfl, d 1 _ (by omega) rfl, d 2 _ (by omega) rfl, d 3 _ (by omega) rfl, d 4 _ (by omega) rfl⟩
theorem itC_slices {W : World} {t : It} {k n : Int} {bv : Value} {s : ByteArray} {lv : Value} (h : ItC W t [i64 k, u64 n, bv, .string s, lv]) : (∃ a m c, bv = .slice a m c) ∧ ∃ a m c, lv = .slice a m c := by
  obtain ⟨k', n', b', s', l'⟩ := t
  obtain ⟨bv', lv', css, hcs, h1, h2, -⟩ := itC_mk.1 h
  simp at hcs
  obtain ⟨-, -, rfl, -, rfl⟩ := hcs
  obtain ⟨a, c, ha⟩ := h1.isSlice
  obtain ⟨a', c', ha'⟩ := h2.isSlice
  exact ⟨⟨a, _, c, ha⟩, ⟨a', _, c', ha'⟩⟩
/-- An item in a block of its own. -/
structure ItBx (W : World) (b : Nat) (k n : Int) (bv : Value) (s : ByteArray) (lv : Value) : Prop where
  c0 : W.cell? ⟨b, 0, none⟩ = some (i64 k)
  c1 : W.cell? ⟨b, 1, none⟩ = some (u64 n)
  c2 : W.cell? ⟨b, 2, none⟩ = some bv
  c3 : W.cell? ⟨b, 3, none⟩ = some (.string s)
  c4 : W.cell? ⟨b, 4, none⟩ = some lv
  fz : ∀ j, W.frozen? ⟨b, j, none⟩ = false
theorem ItBx.new (W : World) (k n : Int) (bv : Value) (s : ByteArray) (lv : Value) (ty : TypeId) : ItBx (W.alloc (.cells #[i64 k, u64 n, bv, .string s, lv] ty)) W.heap.size k n bv s lv := by
  have ho := World.alloc_heap_new W (.cells #[i64 k, u64 n, bv, .string s, lv] ty)
  refine ⟨by simp, by simp, by simp, by simp, by simp, fun j => ?_⟩
  simp only [World.frozen?, ho]
  show (decide (0 ≤ j) && decide (j < 0)) = false
  simp
theorem ItBx.keep {W W' : World} {b : Nat} {k n : Int} {bv : Value} {s : ByteArray} {lv : Value} (h : ItBx W b k n bv s lv) (hb : W'.heap[b]? = W.heap[b]?) : ItBx W' b k n bv s lv := by
  refine ⟨?_, ?_, ?_, ?_, ?_, fun j => ?_⟩
  · rw [← h.c0]; unfold World.cell?; rw [hb]
  · rw [← h.c1]; unfold World.cell?; rw [hb]
  · rw [← h.c2]; unfold World.cell?; rw [hb]
  · rw [← h.c3]; unfold World.cell?; rw [hb]
  · rw [← h.c4]; unfold World.cell?; rw [hb]
  · rw [← h.fz j]; unfold World.frozen?; rw [hb]
theorem ItBx.lt {W : World} {b : Nat} {k n : Int} {bv : Value} {s : ByteArray} {lv : Value} (h : ItBx W b k n bv s lv) : b < W.heap.size := World.block_lt_of_cell? _ _ h.c0
theorem ItBx.ext {W W' : World} {b : Nat} {k n : Int} {bv : Value} {s : ByteArray} {lv : Value} (h : ItBx W b k n bv s lv) (hE : Ext W W') : ItBx W' b k n bv s lv := h.keep (hE.blk b h.lt)
theorem ItBx.mod {W W' : World} {b : Nat} {k n : Int} {bv : Value} {s : ByteArray} {lv : Value} {S : Nat → Prop} (h : ItBx W b k n bv s lv) (hE : Mod S W W') (hS : ¬ S b) : ItBx W' b k n bv s lv := h.keep (hE.blk b h.lt hS)
end Go.Proofs
