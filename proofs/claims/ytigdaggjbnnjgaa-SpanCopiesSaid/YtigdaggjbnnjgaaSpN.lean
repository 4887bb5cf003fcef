/-
  Contracts of the functions that the law reaches, step by step.
-/
import Derived.Test.YtigdaggjbnnjgaaSpJ
import Derived.Test.YtigdaggjbnnjgaaEngAB
namespace Go.Proofs
open Pk
set_option maxRecDepth 10000
abbrev i64 (x : Int) : Value := .int .i64 x
/-! ### The document's table: steps, as they came -/
abbrev TRw (w : World) (v : Value) (l : List St) := Sl w 4 v l.length (l.flatMap stCells)
structure StR (W : World) (v : Value) (i : Nat) (s : St) : Prop where
  c0 : W.cell? ⟨slB v, slO v + i * 4, none⟩ = some (u32 s.f)
  c1 : W.cell? ⟨slB v, slO v + i * 4 + 1, none⟩ = some (u32 s.t)
  c2 : W.cell? ⟨slB v, slO v + i * 4 + 2, none⟩ = some (u64 s.a)
  c3 : W.cell? ⟨slB v, slO v + i * 4 + 3, none⟩ = some (u64 s.k)
theorem TRw.row {w : World} {v : Value} {l : List St} (h : TRw w v l) {i : Nat} {x : St} (hi : l[i]? = some x) : StR w v i x := by
  have d := fun (j : Nat) (u : Value) (hj : j < 4) (e : (stCells x)[j]? = some u) => h.at_ (i * 4 + j) u ((Pk.flat_at stCells (fun _ => rfl) l i j x hi hj).trans e)
  simp only [← Nat.add_assoc] at d
  exact ⟨d 0 _ (by omega) rfl, d 1 _ (by omega) rfl, d 2 _ (by omega) rfl, d 3 _ (by omega) rfl⟩
theorem TRw.index {w : World} {v : Value} {l : List St} (h : TRw w v l) (i : Nat) (hi : i < l.length) (W : World) : (Instr.indexAt 22 v (.int .i64 (i : Int))).run Try.prog W = .ok (.pointer (some ⟨slB v, slO v + i * 4, none⟩)) W := by
  have := Sl.index (P := Try.prog) (t := 22) h (by simp) .i64 i (by omega) (by omega) W
  simpa using this
def hitS (f g a : Int) (s : St) : Bool := decide (s.f = f) && (decide (s.t = g) && decide (s.a = a))
def fndI (l : List St) (f g a : Int) : Int := match l.findIdx? (hitS f g a) with | some i => i | none => -1
theorem fndI_at {l : List St} {f g a : Int} {i : Nat} (hi : i < l.length) (h1 : hitS f g a l[i] = true) (h2 : ∀ j (hj : j < i), hitS f g a l[j] = false) : fndI l f g a = i := by
  unfold fndI
  rw [List.findIdx?_eq_some_iff_getElem.2 ⟨hi, h1, fun j hj => by simp [h2 j hj]⟩]
theorem fndI_none {l : List St} {f g a : Int} (h2 : ∀ j (hj : j < l.length), hitS f g a l[j] = false) : fndI l f g a = -1 := by
  unfold fndI
  rw [List.findIdx?_eq_none_iff.2 fun x hx => by
    obtain ⟨j, hj, rfl⟩ := List.getElem_of_mem hx
    exact h2 j hj]
theorem rright_c (s : St) (hs : StOk s) (w : World) : FN Try.prog 56 [stV s] w fun e w' => e = .returned (.bool (!badS s)) ∧ Ext w w' := by
  refine FN_enter Try.func56 rfl rfl (by kernel_rfl) ?_
  have h0 := hs.f
  have h1 := hs.t
  have e : badS s = !(decide (0 < s.f) && (decide (0 < s.t) && ((s.f != s.t) && (decide (s.a < 4611686018427387903) && decide (s.k ≤ 1099511627776))))) := by
    unfold badS
    rw [Bool.eq_iff_iff]
    simp
    omega
  rw [e]
  simp
  by_cases a0 : 0 < s.f
  · by_cases a1 : 0 < s.t
    · by_cases a2 : s.f = s.t
      · simp [a1, a2]
        exact (Ext.refl w).alloc _
      · by_cases a3 : s.a < 4611686018427387903
        · simp [bne_dec, a0, a1, a2, a3]
          exact (Ext.refl w).alloc _
        · simp [bne_dec, a0, a1, a2, a3]
          exact (Ext.refl w).alloc _
    · simp [bne_dec, a0, a1]
      exact (Ext.refl w).alloc _
  · simp [bne_dec, a0]
    exact (Ext.refl w).alloc _
theorem rfind_c {w : World} {v : Value} {l : List St} (h : TRw w v l) (f g a : Int) (hb : l.length ≤ 1000000) :
    FN Try.prog 42 [.agg #[v], u32 f, u32 g, u64 a] w fun e w' => e = .returned (i64 (fndI l f g a)) ∧ Ext w w' := by
  refine FN_enter Try.func42 rfl rfl (by kernel_rfl) ?_
  obtain ⟨va, vc, rfl⟩ := h.isSlice
  have hlen := fun ty W => h.isLen (P := Try.prog) (t := 22) (by simp) ty W
  simp
  have hE1 : Ext w (w.alloc (.cells #[.slice va l.length vc] 51)) := (Ext.refl w).alloc _
  have o1 : Var (w.alloc (.cells #[.slice va l.length vc] 51)) w.heap.size (.slice va l.length vc) := Var.new w _ _
  generalize (w.alloc (.cells #[.slice va l.length vc] 51)) = w1 at *
  refine WC_loop (fun k ρ ds w' => ∃ i : Nat, k = l.length - i ∧ i ≤ l.length ∧ ρ 1 = u32 f ∧ ρ 2 = u32 g ∧ ρ 3 = u64 a ∧ ρ 4 = ptr w.heap.size ∧ ρ 9 = i64 i ∧ ds = [] ∧ w' = w1 ∧ ∀ j (hj : j < l.length), j < i → hitS f g a l[j] = false) l.length ⟨0, by simp, by simp, by simp, by simp, by simp, by simp, by simp, rfl, rfl, fun j _ h => by omega⟩ ?_
  rintro k ρ ds w2 ⟨i, rfl, hi, e1, e2, e3, e4, e9, rfl, hE, hno⟩
  subst hE
  by_cases hlt : i < l.length
  · have r := TRw.row (h.ext hE1) (List.getElem?_eq_getElem hlt)
    have ix := TRw.index h i hlt w2
    simp [e1, e4, e9, o1.cell, hlen, hlt, ix, r.c0]
    have fin0 : hitS f g a l[i] = false → ∀ j (hj : j < l.length), j < i + 1 → hitS f g a l[j] = false := fun hq j hj hji => by
      rcases Nat.lt_succ_iff_lt_or_eq.1 hji with h1 | rfl
      · exact hno j hj h1
      · exact hq
    by_cases b0 : l[i].f = f
    · by_cases b1 : l[i].t = g
      · by_cases b2 : l[i].a = a
        · simp [b0, b1, b2, e2, e3, e4, e9, o1.cell, ix, r.c1, r.c2]
          exact ⟨(fndI_at hlt (by simp [hitS, b0, b1, b2]) fun j hj => hno j (by omega) hj).symm, hE1⟩
        · simp [beq_dec, b0, b1, b2, e1, e2, e3, e4, e9, o1.cell, ix, r.c1, r.c2]
          exact ⟨l.length - (i + 1), by omega, i + 1, rfl, by omega, by rw [wrap64 _ (by omega) (by omega)]; rfl, fin0 (by simp [hitS, b0, b1, b2])⟩
      · simp [beq_dec, b0, b1, e1, e2, e3, e4, e9, o1.cell, ix, r.c1]
        exact ⟨l.length - (i + 1), by omega, i + 1, rfl, by omega, by rw [wrap64 _ (by omega) (by omega)]; rfl, fin0 (by simp [hitS, b0, b1])⟩
    · simp [beq_dec, b0, e1, e2, e3, e4, e9]
      exact ⟨l.length - (i + 1), by omega, i + 1, rfl, by omega, by rw [wrap64 _ (by omega) (by omega)]; rfl, fin0 (by simp [hitS, b0])⟩
  · have : i = l.length := by omega
    subst this
    simp [e4, e9, o1.cell, hlen]
    exact ⟨(fndI_none fun j hj => hno j hj hj).symm, hE1⟩
/-! ### Ticks, by going over all -/
def tkS (f g a : Int) (st : Int × Int × Bool) (s : St) : Int × Int × Bool :=
  if s.f = f then (if s.t = g then (if s.a ≤ a then (if st.2.2 = false then (s.k, s.a, true) else if st.2.1 ≤ s.a then (s.k, s.a, true) else st) else st) else st) else st
def rtkF (l : List St) (f g a : Int) : Int × Int × Bool := l.foldl (tkS f g a) (0, 0, false)
def rtk (l : List St) (f g a : Int) : Int := (rtkF l f g a).1
theorem rtkF_succ {l : List St} {i : Nat} (hi : i < l.length) (f g a : Int) : rtkF (l.take (i + 1)) f g a = tkS f g a (rtkF (l.take i) f g a) l[i] := by
  unfold rtkF
  rw [List.take_add_one, List.getElem?_eq_getElem hi, List.foldl_append]
  rfl
theorem rticks_c {w : World} {v : Value} {l : List St} (h : TRw w v l) (f g a : Int) (hb : l.length ≤ 1000000) :
    FN Try.prog 40 [.agg #[v], u32 f, u32 g, u64 a] w fun e w' => e = .returned (u64 (rtk l f g a)) ∧ Ext w w' := by
  refine FN_enter Try.func40 rfl rfl (by kernel_rfl) ?_
  obtain ⟨va, vc, rfl⟩ := h.isSlice
  have hlen := fun ty W => h.isLen (P := Try.prog) (t := 22) (by simp) ty W
  simp
  have hE1 : Ext w (w.alloc (.cells #[.slice va l.length vc] 51)) := (Ext.refl w).alloc _
  have o1 : Var (w.alloc (.cells #[.slice va l.length vc] 51)) w.heap.size (.slice va l.length vc) := Var.new w _ _
  generalize (w.alloc (.cells #[.slice va l.length vc] 51)) = w1 at *
  refine WC_loop (fun k ρ ds w' => ∃ (i : Nat) (n la : Int) (is : Bool), k = l.length - i ∧ i ≤ l.length ∧ ρ 1 = u32 f ∧ ρ 2 = u32 g ∧ ρ 3 = u64 a ∧ ρ 4 = ptr w.heap.size ∧ ρ 12 = i64 i ∧ ρ 9 = u64 n ∧ ρ 10 = u64 la ∧ ρ 11 = .bool is ∧ ds = [] ∧ Ext w1 w' ∧ rtkF (l.take i) f g a = (n, la, is)) l.length
    ⟨0, 0, 0, false, by simp, by simp, by simp, by simp, by simp, by simp, by simp, by simp, by simp, by simp, rfl, Ext.refl _, rfl⟩ ?_
  rintro k ρ ds w2 ⟨i, n, la, is, rfl, hi, e1, e2, e3, e4, e12, e9, e10, e11, rfl, hE, hst⟩
  have o2 := o1.ext hE
  by_cases hlt : i < l.length
  · have r := TRw.row (h.ext (hE1.trans hE)) (List.getElem?_eq_getElem hlt)
    have ix := TRw.index h i hlt w2
    have hs := rtkF_succ hlt f g a
    rw [hst] at hs
    simp [e1, e4, e12, o2.cell, hlen, hlt, ix, r.c0, r.c1, r.c2, r.c3]
    have hE2 : Ext w1 (w2.alloc (.cells #[u32 l[i].f, u32 l[i].t, u64 l[i].a, u64 l[i].k] 35)) := hE.trans ((Ext.refl _).alloc _)
    have s2 := StAt.new w2 l[i] 35
    generalize (w2.alloc (.cells #[u32 l[i].f, u32 l[i].t, u64 l[i].a, u64 l[i].k] 35)) = w3 at *
    have nx : IntKind.i64.wrap ((i : Int) + 1) = ((i + 1 : Nat) : Int) := by rw [wrap64 _ (by omega) (by omega)]; rfl
    by_cases b0 : l[i].f = f
    · by_cases b1 : l[i].t = g
      · by_cases b2 : l[i].a ≤ a
        · cases is with
          | false =>
            simp [b0, b1, b2, e2, e3, e11, s2.c1, s2.c2]
            refine WC_drawC 5 (.F 0 <| .F 1 <| .F 2 <| .F 3 <| .F 4 <| .Z) (fun _ => false) rfl (by kernel_rfl) fun W hW => ?_
            have hWE : Ext w3 W := hW ▸ Ext.drew _
            have s3 := s2.ext hWE
            simp [s3.c2, s3.c3, e1, e2, e3, e4, e12, nx]
            exact ⟨l.length - (i + 1), by omega, i + 1, rfl, by omega, by simp, hE2.trans hWE, hs.trans (by simp [tkS, b0, b1, b2])⟩
          | true =>
            by_cases b3 : la ≤ l[i].a
            · simp [b0, b1, b2, b3, e2, e3, e10, e11, s2.c1, s2.c2]
              refine WC_drawC 5 (.F 0 <| .F 1 <| .F 2 <| .F 3 <| .F 4 <| .Z) (fun _ => false) rfl (by kernel_rfl) fun W hW => ?_
              have hWE : Ext w3 W := hW ▸ Ext.drew _
              have s3 := s2.ext hWE
              simp [s3.c2, s3.c3, e1, e2, e3, e4, e12, nx]
              exact ⟨l.length - (i + 1), by omega, i + 1, rfl, by omega, by simp, hE2.trans hWE, hs.trans (by simp [tkS, b0, b1, b2, b3])⟩
            · simp [b0, b1, b2, b3, s2.c1, s2.c2, e1, e2, e3, e4, e9, e10, e11, e12, nx]
              exact ⟨l.length - (i + 1), by omega, i + 1, rfl, by omega, by simp, hE2.trans (Ext.refl _), hs.trans (by simp [tkS, b0, b1, b2, b3])⟩
        · simp [b0, b1, b2, s2.c1, s2.c2, e1, e2, e3, e4, e9, e10, e11, e12, nx]
          exact ⟨l.length - (i + 1), by omega, i + 1, rfl, by omega, by simp, hE2.trans (Ext.refl _), hs.trans (by simp [tkS, b0, b1, b2])⟩
      · simp [beq_dec, b0, b1, s2.c1, e1, e2, e3, e4, e9, e10, e11, e12, nx]
        exact ⟨l.length - (i + 1), by omega, i + 1, rfl, by omega, by simp, hE2.trans (Ext.refl _), hs.trans (by simp [tkS, b0, b1])⟩
    · simp [beq_dec, b0, e1, e2, e3, e4, e9, e10, e11, e12, nx]
      exact ⟨l.length - (i + 1), by omega, i + 1, rfl, by omega, by simp, hE2.trans (Ext.refl _), hs.trans (by simp [tkS, b0])⟩
  · have : i = l.length := by omega
    subst this
    rw [List.take_length] at hst
    simp [e4, e9, e12, o2.cell, hlen, rtk, hst]
    exact hE1.trans hE
theorem ctop_c (n : Int) (w : World) : FN Try.prog 64 [u64 n] w fun e w' => e = .returned (u64 (top n)) ∧ w' = w := by
  refine FN_enter Try.func64 rfl rfl (by kernel_rfl) ?_
  simp [top]
theorem cadd_c (a b : Int) (ha : 0 ≤ a) (hb : 0 ≤ b) (w : World) : FN Try.prog 59 [u64 a, u64 b] w fun e w' => e = .returned (u64 (addT a b)) ∧ w' = w := by
  refine FN_enter Try.func59 rfl rfl (by kernel_rfl) ?_
  simp
  refine FN.mono (ctop_c a w) ?_
  rintro _ w1 ⟨rfl, h1⟩
  subst h1
  simp
  refine FN.mono (ctop_c b w1) ?_
  rintro _ w2 ⟨rfl, h2⟩
  subst h2
  simp
  have h1 := top_le a
  have h2 := top_le b
  have h3 := top_0 ha
  have h4 := top_0 hb
  rw [wrap64u _ (by omega) (by omega)]
  refine FN.mono (ctop_c _ w2) ?_
  rintro _ w3 ⟨rfl, h3⟩
  subst h3
  simp [addT]
def rlnd (l : List St) (f g a : Int) : Int := addT a (rtk l f g a)
theorem rlands_c {w : World} {v : Value} {l : List St} (h : TRw w v l) (f g a : Int) (hb : l.length ≤ 1000000) (ha : 0 ≤ a) (ht : 0 ≤ rtk l f g a) :
    FN Try.prog 41 [.agg #[v], u32 f, u32 g, u64 a] w fun e w' => e = .returned (u64 (rlnd l f g a)) ∧ Ext w w' := by
  refine FN_enter Try.func41 rfl rfl (by kernel_rfl) ?_
  obtain ⟨va, vc, rfl⟩ := h.isSlice
  simp
  have hE1 : Ext w (w.alloc (.cells #[.slice va l.length vc] 51)) := (Ext.refl w).alloc _
  generalize (w.alloc (.cells #[.slice va l.length vc] 51)) = w1 at *
  refine FN.mono (rticks_c (h.ext hE1) f g a hb) ?_
  rintro _ w2 ⟨rfl, hE2⟩
  simp
  refine FN.mono (cadd_c a _ ha ht w2) ?_
  rintro _ w3 ⟨rfl, h3⟩
  subst h3
  simp [rlnd]
  exact hE1.trans hE2
theorem cright_c (s : Sp2) (w : World) : FN Try.prog 57 [spV s] w fun e w' => e = .returned (.bool (spOk s)) ∧ Ext w w' := by
  refine FN_enter Try.func57 rfl rfl (by kernel_rfl) ?_
  simp
  by_cases h : s.from' ≤ s.til
  · simp [h, spOk]
    exact (Ext.refl w).alloc _
  · simp [h, spOk]
    exact (Ext.refl w).alloc _
theorem cin_c (s : Sp2) (a : Int) (w : World) : FN Try.prog 58 [spV s, u64 a] w fun e w' => e = .returned (.bool (inS s a)) ∧ Ext w w' := by
  refine FN_enter Try.func58 rfl rfl (by kernel_rfl) ?_
  simp
  have hE1 := (Ext.refl w).alloc (.cells #[u64 s.from', u64 s.til] 25)
  have c0 : (w.alloc (.cells #[u64 s.from', u64 s.til] 25)).cell? ⟨w.heap.size, 0, none⟩ = some (u64 s.from') := by simp
  have c1 : (w.alloc (.cells #[u64 s.from', u64 s.til] 25)).cell? ⟨w.heap.size, 1, none⟩ = some (u64 s.til) := by simp
  generalize (w.alloc (.cells #[u64 s.from', u64 s.til] 25)) = w1 at *
  refine FN.mono (cright_c s w1) ?_
  rintro _ w2 ⟨rfl, hE2⟩
  have d0 := hE2.cell_eq c0
  have d1 := hE2.cell_eq c1
  cases h : spOk s with
  | false =>
    simp [inS, h]
    exact hE1.trans hE2
  | true =>
    by_cases h1 : s.from' ≤ a
    · simp [inS, h, h1, d0, d1]
      exact hE1.trans hE2
    · simp [inS, h, h1, d0]
      exact hE1.trans hE2
end Go.Proofs
namespace Go.Proofs
open Pk
set_option maxRecDepth 10000
theorem st_one (l : List St) : ∀ u ∈ l.flatMap stCells, u.oneCell' = true := by
  intro u hu
  obtain ⟨s, -, hs⟩ := List.mem_flatMap.1 hu
  simp [stCells] at hs
  rcases hs with rfl | rfl | rfl | rfl <;> rfl
theorem tkS_0 {f g a : Int} {st : Int × Int × Bool} {s : St} (hs : StOk s) (h : 0 ≤ st.1) : 0 ≤ (tkS f g a st s).1 := by
  unfold tkS
  repeat' split
  all_goals first | exact h | exact hs.k
theorem rtk_0 {l : List St} (h : ∀ s ∈ l, StOk s) (f g a : Int) : 0 ≤ rtk l f g a := by
  have : ∀ (l : List St) (st : Int × Int × Bool), (∀ s ∈ l, StOk s) → 0 ≤ st.1 → 0 ≤ (l.foldl (tkS f g a) st).1 := by
    intro l
    induction l with
    | nil => intro st _ h; exact h
    | cons x l ih => intro st h1 h2; exact ih _ (fun s hs => h1 s (by simp [hs])) (tkS_0 (h1 x (by simp)) h2)
  exact this l _ h (by simp)
/-! ### The best sending, by going over all -/
def bstS (l : List St) (f g : Int) (s : Sp2) (b : Int) (x : St) : Int :=
  if x.f = f then (if x.t = g then (if inS s x.a = true then (if rlnd l f g x.a < rlnd l f g b then x.a else if rlnd l f g x.a = rlnd l f g b then (if x.a < b then x.a else b) else b) else b) else b) else b
def rbst (l : List St) (f g : Int) (s : Sp2) : Int := l.foldl (bstS l f g s) s.from'
theorem rbst_succ {l k : List St} {i : Nat} (hi : i < l.length) (f g : Int) (s : Sp2) : (l.take (i + 1)).foldl (bstS k f g s) s.from' = bstS k f g s ((l.take i).foldl (bstS k f g s) s.from') l[i] := by
  rw [List.take_add_one, List.getElem?_eq_getElem hi, List.foldl_append]
  rfl
theorem bstS_0 {l : List St} {f g b : Int} {s : Sp2} {x : St} (h : 0 ≤ b) (hx : StOk x) : 0 ≤ bstS l f g s b x := by
  unfold bstS
  repeat' split
  all_goals first | exact h | exact hx.a
theorem rbst_0 {l : List St} (h : ∀ s ∈ l, StOk s) (k : List St) (f g : Int) (s : Sp2) (hs : 0 ≤ s.from') (i : Nat) : 0 ≤ (l.take i).foldl (bstS k f g s) s.from' := by
  have : ∀ (l : List St) (b : Int), (∀ s ∈ l, StOk s) → 0 ≤ b → 0 ≤ l.foldl (bstS k f g s) b := by
    intro l
    induction l with
    | nil => intro b _ h; exact h
    | cons x l ih => intro b h1 h2; exact ih _ (fun s hs => h1 s (by simp [hs])) (bstS_0 h2 (h1 x (by simp)))
  exact this _ _ (fun x hx => h x (List.mem_of_mem_take hx)) hs
set_option maxHeartbeats 1000000 in
theorem rbest_c {w : World} {v : Value} {l : List St} (h : TRw w v l) (hok : ∀ x ∈ l, StOk x) (f g : Int) (s : Sp2) (hs0 : 0 ≤ s.from') (hb : l.length ≤ 1000000) :
    FN Try.prog 39 [.agg #[v], u32 f, u32 g, spV s] w fun e w' => e = .returned (if inS s s.from' then .tuple #[u64 (rbst l f g s), .bool true] else .tuple #[u64 0, .bool false]) ∧ Ext w w' := by
  refine FN_enter Try.func39 rfl rfl (by kernel_rfl) ?_
  obtain ⟨va, vc, rfl⟩ := h.isSlice
  have hlen := fun ty W => h.isLen (P := Try.prog) (t := 22) (by simp) ty W
  simp
  have hE1 : Ext w ((w.alloc (.cells #[.slice va l.length vc] 51)).alloc (.cells #[u64 s.from', u64 s.til] 25)) := ((Ext.refl w).alloc _).alloc _
  have o1 : Var ((w.alloc (.cells #[.slice va l.length vc] 51)).alloc (.cells #[u64 s.from', u64 s.til] 25)) w.heap.size (.slice va l.length vc) := (Var.new w _ _).ext ((Ext.refl _).alloc _)
  have c0 : ((w.alloc (.cells #[.slice va l.length vc] 51)).alloc (.cells #[u64 s.from', u64 s.til] 25)).cell? ⟨w.heap.size + 1, 0, none⟩ = some (u64 s.from') := by simp
  have c1 : ((w.alloc (.cells #[.slice va l.length vc] 51)).alloc (.cells #[u64 s.from', u64 s.til] 25)).cell? ⟨w.heap.size + 1, 1, none⟩ = some (u64 s.til) := by simp
  generalize ((w.alloc (.cells #[.slice va l.length vc] 51)).alloc (.cells #[u64 s.from', u64 s.til] 25)) = w1 at *
  refine FN.mono (cright_c s w1) ?_
  rintro _ w2 ⟨rfl, hE2⟩
  have d0 := hE2.cell_eq c0
  have d1 := hE2.cell_eq c1
  have o2 := o1.ext hE2
  have hE12 := hE1.trans hE2
  cases hsp : spOk s with
  | false =>
    simp [inS, hsp]
    exact hE12
  | true =>
  by_cases hft : s.from' = s.til
  · have : inS s s.from' = false := by simp [inS, hft]
    simp [hft, d0, d1]
    exact ⟨by rw [← hft]; exact this, hE12⟩
  have hin : inS s s.from' = true := by
    simp only [spOk, Bool.and_eq_true, decide_eq_true_eq] at hsp
    simp [inS, spOk, hsp]
    omega
  simp [hin, beq_dec, hft, d0, d1]
  refine WC_loop (fun k ρ ds w' => ∃ i : Nat, k = l.length - i ∧ i ≤ l.length ∧ ρ 1 = u32 f ∧ ρ 2 = u32 g ∧ ρ 4 = ptr w.heap.size ∧ ρ 7 = ptr (w.heap.size + 1) ∧ ρ 11 = i64 i ∧ ρ 10 = u64 ((l.take i).foldl (bstS l f g s) s.from') ∧ ds = [] ∧ Ext w2 w') l.length
    ⟨0, by simp, by simp, by simp, by simp, by simp, by simp, by simp, by simp, rfl, Ext.refl _⟩ ?_
  rintro k ρ ds w3 ⟨i, rfl, hi, e1, e2, e4, e7, e11, e10, rfl, hE3⟩
  have o3 := o2.ext hE3
  by_cases hlt : i < l.length
  · have hE13 := hE12.trans hE3
    have r := TRw.row (h.ext hE13) (List.getElem?_eq_getElem hlt)
    have ix := TRw.index h i hlt w3
    have hs := rbst_succ (k := l) hlt f g s
    have hB0 := rbst_0 hok l f g s hs0 i
    generalize (l.take i).foldl (bstS l f g s) s.from' = B at *
    have hx0 := hok l[i] (by simp)
    simp [e1, e4, e11, o3.cell, hlen, hlt, ix, r.c0, r.c1, r.c2, r.c3]
    have hE4 : Ext w3 (w3.alloc (.cells #[u32 l[i].f, u32 l[i].t, u64 l[i].a, u64 l[i].k] 35)) := (Ext.refl _).alloc _
    have s2 := StAt.new w3 l[i] 35
    generalize (w3.alloc (.cells #[u32 l[i].f, u32 l[i].t, u64 l[i].a, u64 l[i].k] 35)) = w4 at *
    have nx : IntKind.i64.wrap ((i : Int) + 1) = ((i + 1 : Nat) : Int) := by rw [wrap64 _ (by omega) (by omega)]; rfl
    have hE34 := hE3.trans hE4
    have f0 := hE34.cell_eq d0
    have f1 := hE34.cell_eq d1
    by_cases b0 : l[i].f = f
    · by_cases b1 : l[i].t = g
      · simp [b0, b1, e2, e7, s2.c1, s2.c2, f0, f1]
        refine FN.mono (cin_c s l[i].a w4) ?_
        rintro _ w5 ⟨rfl, hE5⟩
        cases b2 : inS s l[i].a with
        | false =>
          simp [e1, e2, e4, e7, e10, e11, nx]
          exact ⟨l.length - (i + 1), by omega, i + 1, rfl, by omega, by simp, by rw [hs]; simp [bstS, b0, b1, b2], hE34.trans hE5⟩
        | true =>
          simp
          refine WC_drawC 10 (.F 0 <| .F 1 <| .F 2 <| .F 3 <| .F 4 <| .F 6 <| .F 7 <| .F 8 <| .F 9 <| .C 5 <| .Z) (fun _ => false) rfl (by kernel_rfl) fun W hW => ?_
          have hWE : Ext w5 W := hW ▸ Ext.drew _
          have hE5W := hE34.trans (hE5.trans hWE)
          have oW := o2.ext hE5W
          have s5 := s2.ext (hE5.trans hWE)
          simp [e1, e2, e4, e10, oW.cell, s5.c2]
          refine FN.mono (rlands_c (h.ext (hE12.trans hE5W)) f g l[i].a hb hx0.a (rtk_0 hok _ _ _)) ?_
          rintro _ w6 ⟨rfl, hE6⟩
          simp
          refine KR_ext hE6 ?_
          simp [e1, e2, e10]
          refine FN.mono (rlands_c (h.ext (hE12.trans (hE5W.trans hE6))) f g B hb hB0 (rtk_0 hok _ _ _)) ?_
          rintro _ w7 ⟨rfl, hE7⟩
          have s7 := s5.ext (hE6.trans hE7)
          have hE37 := hE5W.trans (hE6.trans hE7)
          by_cases b3 : rlnd l f g l[i].a < rlnd l f g B
          · simp [b3, e1, e2, e4, e7, e11, nx, s7.c2]
            exact ⟨l.length - (i + 1), by omega, i + 1, rfl, by omega, by simp, by rw [hs]; simp [bstS, b0, b1, b2, b3], hE37⟩
          · by_cases b4 : rlnd l f g l[i].a = rlnd l f g B
            · by_cases b5 : l[i].a < B
              · simp [b4, b5, e1, e2, e4, e7, e10, e11, nx, s7.c2]
                exact ⟨l.length - (i + 1), by omega, i + 1, rfl, by omega, by simp, by rw [hs]; simp [bstS, b0, b1, b2, b4, b5], hE37⟩
              · simp [b4, b5, e1, e2, e4, e7, e10, e11, nx, s7.c2]
                exact ⟨l.length - (i + 1), by omega, i + 1, rfl, by omega, by simp, by rw [hs]; simp [bstS, b0, b1, b2, b4, b5], hE37⟩
            · simp [beq_dec, b3, b4, e1, e2, e4, e7, e10, e11, nx]
              exact ⟨l.length - (i + 1), by omega, i + 1, rfl, by omega, by simp, by rw [hs]; simp [bstS, b0, b1, b2, b3, b4], hE37⟩
      · simp [bne_dec, b0, b1, e1, e2, e4, e7, e10, e11, nx, s2.c1]
        exact ⟨l.length - (i + 1), by omega, i + 1, rfl, by omega, by simp, by rw [hs]; simp [bstS, b0, b1], hE34⟩
    · simp [bne_dec, b0, e1, e2, e4, e7, e10, e11, nx]
      exact ⟨l.length - (i + 1), by omega, i + 1, rfl, by omega, by simp, by rw [hs]; simp [bstS, b0], hE34⟩
  · have : i = l.length := by omega
    subst this
    simp only [List.take_length] at e10
    simp [e4, e10, e11, o3.cell, hlen]
    exact ⟨rfl, hE12.trans hE3⟩
end Go.Proofs
