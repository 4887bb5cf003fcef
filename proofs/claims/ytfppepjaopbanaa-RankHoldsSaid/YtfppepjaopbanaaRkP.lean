/-
  Contracts of the functions that the law reaches, step by step.
-/
import Derived.Test.YtfppepjaopbanaaRkN
namespace Go.Proofs
open Pk
set_option maxRecDepth 10000
theorem putE_0 {s : List Wt} {most : Int} {x : Wt} (h : putE s most x = 0) : badN x.1 = false ∧ badR x = false ∧ findN s x.1 = none ∧ (s.length : Int) < most := by
  unfold putE at h
  cases h1 : badN x.1 with
  | true => rw [h1, if_pos rfl] at h; omega
  | false =>
    rw [h1, if_neg (by simp)] at h
    split at h
    · omega
    · cases h2 : badR x with
      | true => rw [h2, if_pos rfl] at h; omega
      | false =>
        rw [h2, if_neg (by simp)] at h
        cases h3 : findN s x.1 with
        | some y => rw [h3] at h; simp at h
        | none =>
          rw [h3] at h
          simp at h
          exact ⟨rfl, rfl, rfl, h⟩
theorem badR_f {x : Wt} (h : badR x = false) : x.2.2.1 = 2 ∨ x.2.2.1 = 1 ∨ x.2.2.1 = 0 := by
  unfold badR at h
  simp only [Bool.or_eq_false_iff, Bool.not_eq_false', decide_eq_true_eq] at h
  omega
/-- What has been put to one neighbour. -/
structure Good (s : List Wt) : Prop where
  node : ∀ y ∈ s, y.2.1 = 7
  rank : ranked s
  name : ∀ y ∈ s, badN y.1 = false
theorem Good.put {s : List Wt} {most : Int} {x : Wt} (h : Good s) (hx : x.2.1 = 7) (he : putE s most x = 0) : Good (s ++ [x]) := by
  obtain ⟨h1, h2, -, -⟩ := putE_0 he
  have key : ∀ {p : Wt → Prop}, (∀ y ∈ s, p y) → p x → ∀ y ∈ s ++ [x], p y := by
    intro p hp hpx y hy
    rcases List.mem_append.1 hy with hy | hy
    · exact hp y hy
    · simp at hy; subst hy; exact hpx
  exact ⟨key h.node hx, key h.rank (badR_f h2), key h.name h1⟩
def left (s : List Wt) (r : Int) (i : Nat) : List Wt := (s.take i).filter (fun y => decide (y.2.2.1 < r)) ++ (s.drop i).filter (fun y => decide (y.2.2.1 ≤ r))
theorem left_mem {s : List Wt} {r : Int} {i : Nat} {y : Wt} (h : y ∈ left s r i) : y ∈ s := by
  rcases List.mem_append.1 h with h | h
  · exact List.mem_of_mem_take (List.mem_filter.1 h).1
  · exact List.mem_of_mem_drop (List.mem_filter.1 h).1
theorem left_len (s : List Wt) (r : Int) (i : Nat) : (left s r i).length ≤ s.length := by
  unfold left
  rw [List.length_append]
  have h1 := List.length_filter_le (fun y : Wt => decide (y.2.2.1 < r)) (s.take i)
  have h2 := List.length_filter_le (fun y : Wt => decide (y.2.2.1 ≤ r)) (s.drop i)
  have h3 : (s.take i).length + (s.drop i).length = s.length := by rw [← List.length_append, List.take_append_drop]
  omega
theorem left_all {s : List Wt} (h : ranked s) : left s 2 0 = s := by
  unfold left
  rw [List.take_zero, List.drop_zero, List.filter_nil, List.nil_append, List.filter_eq_self]
  intro y hy
  have := h y hy
  simp only [decide_eq_true_eq]
  omega
theorem left_next {s : List Wt} {r : Int} : left s r s.length = left s (r - 1) 0 := by
  unfold left
  rw [List.take_length, List.drop_length, List.take_zero, List.drop_zero, List.filter_nil, List.filter_nil, List.append_nil, List.nil_append]
  congr 1
  funext y
  exact decide_eq_decide.2 (by omega)
theorem left_end {s : List Wt} (h : ranked s) : left s (-1) 0 = [] := by
  unfold left
  rw [List.take_zero, List.drop_zero, List.filter_nil, List.nil_append, List.filter_eq_nil_iff]
  intro y hy
  have := h y hy
  simp only [decide_eq_true_eq]
  omega
theorem left_skip {s : List Wt} {r : Int} {i : Nat} (hi : i < s.length) (h : s[i].2.2.1 ≠ r) : left s r (i + 1) = left s r i := by
  unfold left
  rw [List.take_add_one, List.getElem?_eq_getElem hi, List.filter_append, List.drop_eq_getElem_cons hi, List.filter_cons]
  by_cases h1 : s[i].2.2.1 < r
  · have h2 : s[i].2.2.1 ≤ r := by omega
    simp [h1, h2]
  · have h2 : ¬ s[i].2.2.1 ≤ r := by omega
    simp [h1, h2]
theorem left_split {s : List Wt} {r : Int} {i : Nat} (hi : i < s.length) (h : s[i].2.2.1 = r) :
    left s r i = (s.take i).filter (fun y => decide (y.2.2.1 < r)) ++ s[i] :: (s.drop (i + 1)).filter (fun y => decide (y.2.2.1 ≤ r)) ∧
    left s r (i + 1) = (s.take i).filter (fun y => decide (y.2.2.1 < r)) ++ (s.drop (i + 1)).filter (fun y => decide (y.2.2.1 ≤ r)) := by
  constructor
  · unfold left
    rw [List.drop_eq_getElem_cons hi, List.filter_cons, if_pos (by simp; omega)]
  · unfold left
    rw [List.take_add_one, List.getElem?_eq_getElem hi, List.filter_append]
    simp [h]
theorem qof_app (A B : List Wt) (q : Qu) : qof (A ++ B) q = qof A q ++ qof B q := List.filter_append ..
theorem qof_nil {A : List Wt} {nd r : Int} (h : ∀ z ∈ A, z.2.2.1 ≠ r) : qof A (nd, r) = [] := by
  unfold qof
  rw [List.filter_eq_nil_iff]
  intro z hz
  simp only [quOf, Prod.mk.injEq, decide_eq_true_eq]
  exact fun e => h z hz e.2
theorem qof_hit {y : Wt} {nd r : Int} (h1 : y.2.1 = nd) (h2 : y.2.2.1 = r) (B : List Wt) : qof (y :: B) (nd, r) = y :: qof B (nd, r) := by
  unfold qof
  rw [List.filter_cons, if_pos (by simp [quOf, h1, h2])]
theorem head_left {A B : List Wt} {y : Wt} {r : Int} (hr : r = 2 ∨ r = 1 ∨ r = 0) (h1 : y.2.1 = 7) (h2 : y.2.2.1 = r) (hA : ∀ z ∈ A, z.2.2.1 < r) (hB : ∀ z ∈ B, z.2.2.1 ≤ r) : ∃ l, allOf (A ++ y :: B) 7 = y :: l := by
  have up : ∀ r', r < r' → qof (A ++ y :: B) (7, r') = [] := fun r' hr' => qof_nil fun z hz => by
    rcases List.mem_append.1 hz with hz | hz
    · have := hA z hz; omega
    · rcases List.mem_cons.1 hz with rfl | hz
      · omega
      · have := hB z hz; omega
  have at' : qof (A ++ y :: B) (7, r) = y :: qof B (7, r) := by
    rw [qof_app, qof_nil (fun z hz => by have := hA z hz; omega), qof_hit h1 h2, List.nil_append]
  unfold allOf
  rcases hr with rfl | rfl | rfl
  · exact ⟨_, by rw [at', List.cons_append, List.cons_append]⟩
  · exact ⟨_, by rw [up 2 (by omega), at', List.nil_append, List.cons_append]⟩
  · exact ⟨_, by rw [up 2 (by omega), up 1 (by omega), at', List.nil_append, List.nil_append]⟩
theorem first_left {s : List Wt} {r : Int} {i : Nat} (hg : Good s) (hr : r = 2 ∨ r = 1 ∨ r = 0) (hi : i < s.length) (h : s[i].2.2.1 = r) : firstE (left s r i) 7 = 0 ∧ firstV (left s r i) 7 = s[i] := by
  obtain ⟨l, hl⟩ := head_left (A := (s.take i).filter (fun y => decide (y.2.2.1 < r))) (B := (s.drop (i + 1)).filter (fun y => decide (y.2.2.1 ≤ r))) hr (hg.node s[i] (by simp)) h
    (fun z hz => by simpa using (List.mem_filter.1 hz).2) (fun z hz => by simpa using (List.mem_filter.1 hz).2)
  rw [← (left_split hi h).1] at hl
  have h0 : firstE (left s r i) 7 = 0 := by unfold firstE; rw [hl]; simp
  exact ⟨h0, by unfold firstV; rw [if_pos h0, hl]; rfl⟩
theorem mdel_mid {A B : List Wt} {y : Wt} (h : ((A ++ y :: B).map (·.1)).Nodup) : mdel (A ++ y :: B) y.1 = A ++ B := by
  rw [List.map_append, List.map_cons, List.nodup_append] at h
  obtain ⟨-, h2, h3⟩ := h
  have h4 := (List.nodup_cons.1 h2).1
  unfold mdel
  rw [List.filter_append, List.filter_cons]
  have e1 : A.filter (fun p => decide (p.1 ≠ y.1)) = A := List.filter_eq_self.2 fun z hz => by
    have := h3 z.1 (List.mem_map.2 ⟨z, hz, rfl⟩) y.1 (by simp)
    simpa using this
  have e2 : B.filter (fun p => decide (p.1 ≠ y.1)) = B := List.filter_eq_self.2 fun z hz => by
    have : z.1 ≠ y.1 := fun e => h4 (e ▸ List.mem_map.2 ⟨z, hz, rfl⟩)
    simpa using this
  rw [e1, e2]
  simp
theorem drop_left {s : List Wt} {r : Int} {i : Nat} (hg : Good s) (hn : ((left s r i).map (·.1)).Nodup) (hi : i < s.length) (h : s[i].2.2.1 = r) :
    dropE (left s r i) s[i].1 = 0 ∧ dropV (left s r i) s[i].1 = s[i] ∧ mdel (left s r i) s[i].1 = left s r (i + 1) := by
  have hm : s[i] ∈ left s r i := by rw [(left_split hi h).1]; simp
  have hf := findN_of hn hm
  have h0 : dropE (left s r i) s[i].1 = 0 := by unfold dropE; rw [hg.name s[i] (by simp), hf]; rfl
  refine ⟨h0, by unfold dropV; rw [if_pos h0, hf]; rfl, ?_⟩
  have h1 := (left_split hi h).1
  have h2 := (left_split hi h).2
  rw [h1] at hn ⊢
  rw [mdel_mid hn, h2]
theorem drop_more {s : List Wt} {x : Wt} (hn : ((s ++ [x]).map (·.1)).Nodup) (hb : badN x.1 = false) : dropE (s ++ [x]) x.1 = 0 ∧ dropV (s ++ [x]) x.1 = x ∧ mdel (s ++ [x]) x.1 = s := by
  have hf := findN_of hn (show x ∈ s ++ [x] by simp)
  have h0 : dropE (s ++ [x]) x.1 = 0 := by unfold dropE; rw [hb, hf]; rfl
  refine ⟨h0, by unfold dropV; rw [if_pos h0, hf]; rfl, ?_⟩
  rw [mdel_mid hn, List.append_nil]
end Go.Proofs
