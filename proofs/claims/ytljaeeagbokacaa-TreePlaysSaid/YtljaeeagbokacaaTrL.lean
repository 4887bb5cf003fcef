/-
  Contracts of the functions that the law reaches, step by step.
-/
import Derived.Test.YtljaeeagbokacaaTrK
namespace Go.Proofs
open Pk
set_option maxRecDepth 10000
theorem mget_cons (p : Int × Int) (m : ML) (z : Int) : mget (p :: m) z = if p.1 = z then some p.2 else mget m z := by
  unfold mget
  rw [List.find?_cons]
  by_cases h : p.1 = z <;> simp [h]
theorem mget_map (k v : Int) : ∀ (m : ML) (z : Int), mget (m.map fun p => if p.1 = k then (k, v) else p) z = if z = k then (if (mget m k).isSome then some v else none) else mget m z
  | [], z => by simp [mget]
  | p :: m, z => by
    rw [List.map_cons, mget_cons, mget_map k v m z, mget_cons, mget_cons]
    by_cases h1 : p.1 = k
    · rw [if_pos h1]
      by_cases h2 : z = k
      · subst h2; simp [h1]
      · have h3 : ¬ k = z := fun e => h2 e.symm
        have h4 : ¬ p.1 = z := fun e => h2 (e.symm.trans h1)
        simp [h2, h3, h4]
    · rw [if_neg h1]
      by_cases h2 : z = k
      · subst h2; simp [h1]
      · simp [h2]
theorem mget_append (m : ML) (k v z : Int) (h : mget m k = none) : mget (m ++ [(k, v)]) z = if z = k then some v else mget m z := by
  induction m with
  | nil => simp [mget, List.find?]; by_cases h : k = z <;> simp [h, eq_comm]
  | cons p m ih =>
    rw [mget_cons] at h
    split at h
    · cases h
    · rename_i hp
      rw [List.cons_append, mget_cons, ih h, mget_cons]
      by_cases h1 : p.1 = z
      · have : ¬ z = k := fun e => hp (h1.trans e)
        simp [h1, this]
      · simp [h1]
theorem mget_mset (m : ML) (k v z : Int) : mget (mset m k v) z = if z = k then some v else mget m z := by
  unfold mset
  cases h : mget m k with
  | none => simp only [Option.isSome_none, Bool.false_eq_true, if_false]; exact mget_append m k v z h
  | some u =>
    simp only [Option.isSome_some, if_true]
    rw [mget_map, h]; rfl
theorem mset_len (m : ML) (k v : Int) : (mset m k v).length = if (mget m k).isSome then m.length else m.length + 1 := by
  unfold mset; split <;> simp
/-- A tree that has been set by Set alone. -/
structure Good (m : ML) : Prop where
  line : ∀ x, ∃ l, Lin m x l
  few : m.length ≤ 64
theorem Good.nil : Good [] := ⟨fun x => by
  by_cases h : x = 0
  · subst h; exact ⟨_, .top⟩
  · exact ⟨[x], .on h .top⟩, by simp⟩
theorem Lin.other {m : ML} {k v y : Int} {l : List Int} (h : Lin m y l) (hk : k ∉ l) : Lin (mset m k v) y l := by
  induction h with
  | top => exact .top
  | @on x l hx _ ih =>
    simp at hk
    refine .on hx ?_
    rw [mget_mset, if_neg (fun e => hk.1 e.symm)]
    exact ih hk.2
theorem Good.set {m : ML} {x y : Int} {l : List Int} (h : Good m) (hl : Lin m y l) (he : setE m l x y = 0) : Good (mset m x y) := by
  unfold setE at he
  split at he
  · cases he
  · rename_i h1
    split at he
    · cases he
    · rename_i h2
      split at he
      · cases he
      · rename_i h3
        have hx0 : x ≠ 0 := fun e => h1 (.inl e)
        have hly : Lin (mset m x y) y l := hl.other h2
        refine ⟨fun z => ?_, ?_⟩
        · obtain ⟨lz, hz⟩ := h.line z
          induction hz with
          | top => exact ⟨_, .top⟩
          | @on z lz hz0 _ ih =>
            by_cases hzx : z = x
            · subst hzx
              exact ⟨_, .on hz0 (by rw [mget_mset, if_pos rfl]; exact hly)⟩
            · obtain ⟨l', hl'⟩ := ih
              exact ⟨_, .on hz0 (by rw [mget_mset, if_neg hzx]; exact hl')⟩
        · rw [mset_len]
          have := h.few
          split
          · exact this
          · rename_i h4
            have : ¬ 64 ≤ m.length := fun hc => h3 ⟨by simpa using h4, hc⟩
            omega
end Go.Proofs
