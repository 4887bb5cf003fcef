/-
  Contracts of the functions that the law reaches, step by step.
-/
import Derived.Test.YthamfghcfjhifaaGreatDoorAgF
import Derived.Test.YthamfghcfjhifaaGreatDoorAfL
namespace Go.Proofs
open Pk
set_option maxRecDepth 10000
attribute [local simp] beq_dec bne_dec
/-- The Kinds of a record's parts. -/
def shp : Nat → List Int
  | 1 => [1, 4, 1, 1, 1]
  | 2 => [1, 1, 1, 1]
  | 3 => [1, 1, 1, 1, 5, 1]
  | 4 => [1, 1, 1, 1, 1]
  | _ => [1, 1, 1, 1, 5]
def nAt (l : List It) (j : Nat) : Int := match l[j]? with | some x => x.n | none => 0
/-- A Kind's record of an item's parts. -/
noncomputable def recOfD (k : Int) (l : List It) : Option Rec :=
  if k = 1 then (match l[1]? with | some x => (match nameOfD x with | some n => some { rec0 with kind := 1, nn := n.nn, ns := n.ns, nt := n.nt, nq := n.nq, what := min (nAt l 2) 9, why := min (nAt l 3) 9, at' := nAt l 4 } | none => none) | none => none)
  else if k = 2 then some { rec0 with kind := 2, num := nAt l 1, node := nAt l 2 % 4294967296, reg := nAt l 3 % 4294967296 }
  else if k = 3 then some { rec0 with kind := 3, num := nAt l 1, node := nAt l 2 % 4294967296, reg := nAt l 3 % 4294967296, yes := decide (nAt l 4 = 1), til := nAt l 5 }
  else if k = 4 then some { rec0 with kind := 4, node := nAt l 1 % 4294967296, fro := nAt l 2, til := nAt l 3, lev := nAt l 4 % 256 }
  else some { rec0 with kind := 5, node := nAt l 1 % 4294967296, reg := nAt l 2 % 4294967296, num := nAt l 3, yes := decide (nAt l 4 = 1) }
/-- The record of an item, as the document says. -/
noncomputable def ofD (t : It) : Option Rec := if t.k = 4 then (match t.l with | [] => none | x0 :: _ => if x0.k = 1 ∧ 1 ≤ x0.n ∧ x0.n ≤ 5 then (if shB t (shp x0.n.toNat) then (match recOfD x0.n t.l with | none => none | some r => if rightE r = 0 ∧ t = itemR r then some r else none) else none) else none) else none
def ofV : Option Rec → Value
  | none => .tuple #[recV rec0, .bool false]
  | some r => .tuple #[recV r, .bool true]
def numC (l : List It) (i : Nat) : List Value := [if 0 < i then u64 (nAt l 0) else u64 0, if 1 < i then u64 (nAt l 1) else u64 0, if 2 < i then u64 (nAt l 2) else u64 0, if 3 < i then u64 (nAt l 3) else u64 0, if 4 < i then u64 (nAt l 4) else u64 0, if 5 < i then u64 (nAt l 5) else u64 0]
theorem numC_set {l : List It} {i : Nat} (h : i < l.length) (h6 : i < 6) : (numC l i).set i (u64 l[i].n) = numC l (i + 1) := by
  have e : l[i].n = nAt l i := by unfold nAt; rw [List.getElem?_eq_getElem h]
  rw [e]
  have hc : i = 0 ∨ i = 1 ∨ i = 2 ∨ i = 3 ∨ i = 4 ∨ i = 5 := by omega
  rcases hc with rfl | rfl | rfl | rfl | rfl | rfl <;> rfl
theorem bool_nob (u : Bool) : NoB (boolI u) := .mk 5 _ _ [] (by simp)
theorem name_nob {n : Nam} (h : n.nn ≠ 0) : NoB (nameI n) := by rw [← rnameI_eq h]; exact rname_nob n
theorem itemR_nob {r : Rec} (h : r.kind = 1 → r.nn ≠ 0) : NoB (itemR r) := by
  refine list_nob fun x hx => ?_
  rcases List.mem_cons.1 hx with rfl | hx
  · exact uint_nob _
  unfold partsR at hx
  split at hx
  · rename_i h1
    simp only [repI, List.mem_cons, List.not_mem_nil, or_false] at hx
    rcases hx with rfl | rfl | rfl | rfl
    · exact name_nob (n := namR r) (h h1)
    · exact uint_nob _
    · exact uint_nob _
    · exact uint_nob _
  split at hx
  · simp only [askI, List.mem_cons, List.not_mem_nil, or_false] at hx
    rcases hx with rfl | rfl | rfl <;> exact uint_nob _
  split at hx
  · simp only [tellI, List.mem_cons, List.not_mem_nil, or_false] at hx
    rcases hx with rfl | rfl | rfl | rfl | rfl <;> first | exact uint_nob _ | exact bool_nob _
  split at hx
  · simp only [foreI, List.mem_cons, List.not_mem_nil, or_false] at hx
    rcases hx with rfl | rfl | rfl | rfl <;> exact uint_nob _
  · simp only [memI, List.mem_cons, List.not_mem_nil, or_false] at hx
    rcases hx with rfl | rfl | rfl | rfl <;> first | exact uint_nob _ | exact bool_nob _
theorem nameOfD_ok {t : It} {n : Nam} (h : nameOfD t = some n) (hn : ∀ x ∈ t.l, 0 ≤ x.n ∧ x.n ≤ 18446744073709551615) (hnn : ∀ x ∈ t.l, ∀ y ∈ x.l, ∀ z ∈ y.l, 0 ≤ z.n) : NamOk n ∧ (0 ≤ n.nt ∧ n.nt ≤ 18446744073709551615) := by
  unfold nameOfD at h
  split at h
  · split at h
    · rename_i x0 x1 x2 hl
      split at h
      · cases h
      · rename_i a b he
        split at h
        · cases h
          have := endOfD_ok he (hnn x0 (by rw [hl]; simp))
          have h1 := hn x1 (by rw [hl]; simp)
          exact ⟨⟨this.1, this.2, by show 0 ≤ x2.n % 4294967296 ∧ x2.n % 4294967296 ≤ 4294967295; omega⟩, h1⟩
        · cases h
    · cases h
  · cases h
/-- What stands behind the first k parts of a function. -/
def sq : Nat → Code → Code
  | 0, c => c
  | k + 1, .seq _ b => sq k b
  | _ + 1, c => c
def atCode (f : Func) (k : Nat) : Code := match f.body with | some c => sq k c | none => .skip
theorem atCode_in {P : Program} {f : Func} {k n : Nat} {r : Option Nat} {a c : Code} {Q : Post} {ρ : Env} {ds : List Deferred} {w : World} (h : atCode f k = .seq a c) (hv : vc P n r (.seq a c) Q ρ ds w) : vc P n r (atCode f k) Q ρ ds w := by rw [h]; exact hv
/-- The loop that a part ends with. -/
def loopAt (P : Program) (n : Nat) (r : Option Nat) : Code → Post → Cont
  | .seq (.seq _ b) c, Q => vc P n r b (QS (vc P n r c Q) Q)
  | _, _ => fun _ _ _ => False
theorem loop_in {P : Program} {f : Func} {k n i : Nat} {r : Option Nat} {a b c : Code} {Q : Post} {ρ : Env} {ds : List Deferred} {w : World} (h : atCode f k = .seq (.seq a (.block i b)) c) (hv : vc P n r (.block i b) (QS (vc P n r c Q) Q) ρ ds w) : loopAt P n r (atCode f k) Q ρ ds w := by rw [h]; exact hv
set_option maxHeartbeats 40000000 in
theorem rofTailN {w U0 : World} {t : It} {cs : List Value} {css : List (List Value)} {ba la : Option Addr} {bc lc rb : Nat} (ht : ItC w t cs) (hO : ItO w t cs (.slice ba t.b.length bc) (.slice la t.l.length lc) css) {σ : Env} {ok : Bool} {r : Rec}
    (s1 : σ 1 = ptr w.heap.size) (s2 : σ 2 = ptr (w.heap.size + 1)) (s7 : σ 7 = ptr rb) (s8 : σ 8 = .bool ok) (rU0 : Blk U0 rb (recC r)) (xU0 : Blk U0 w.heap.size [i64 t.k, u64 t.n, .slice ba t.b.length bc, .string t.s, .slice la t.l.length lc]) (oU0 : Blk U0 (w.heap.size + 1) [i64 0, u32 0, u32 0, u64 0, u32 0, i64 0, i64 0, u64 0, u64 0, u32 0, u32 0, .bool false, u64 0, u64 0, u8 0]) (hXU0 : Ext w U0)
    (hyes : ok = true → RecOk r ∧ ofD t = if rightE r = 0 ∧ t = itemR r then some r else none) (hno' : ok = false → ofD t = none) (hno1 : ok = true → rightE r = 0 → t = itemR r → False) : vc Tryz.prog 193 none (atCode Tryz.f22 9) (QF Tryz.prog Tryz.f22.results fun e w' => e = .returned (ofV (ofD t)) ∧ Ext w w') σ [] U0 := by
  have ecs := hO.cs
  have itc : ∀ W, Ext w W → ItC W t [i64 t.k, u64 t.n, .slice ba t.b.length bc, .string t.s, .slice la t.l.length lc] := fun W h => by rw [← ecs]; exact ht.ext h
  refine atCode_in rfl ?_
  simp
  refine WC_drawC 11 (.F 0 <| .F 1 <| .F 2 <| .F 3 <| .C 4 <| .F 5 <| .F 6 <| .F 7 <| .F 8 <| .F 9 <| .C 10 <| .Z) (fun _ => false) rfl (by kernel_rfl) fun U hU => ?_
  have hUE : Ext U0 U := hU ▸ Ext.drew _
  have rU := rU0.ext hUE
  have xU := xU0.ext hUE
  have oU := oU0.ext hUE
  have hXU := hXU0.trans hUE
  cases ok with
  | false =>
    rw [hno' rfl]
    simp [s2, s8, oU.cell 0 _ rfl, oU.cell 1 _ rfl, oU.cell 2 _ rfl, oU.cell 3 _ rfl, oU.cell 4 _ rfl, oU.cell 5 _ rfl, oU.cell 6 _ rfl, oU.cell 7 _ rfl, oU.cell 8 _ rfl, oU.cell 9 _ rfl, oU.cell 10 _ rfl, oU.cell 11 _ rfl, oU.cell 12 _ rfl, oU.cell 13 _ rfl, oU.cell 14 _ rfl, oU.thaw, setCell_id (oU.cell 0 _ rfl), setCell_id (oU.cell 1 _ rfl), setCell_id (oU.cell 2 _ rfl), setCell_id (oU.cell 3 _ rfl), setCell_id (oU.cell 4 _ rfl), setCell_id (oU.cell 5 _ rfl), setCell_id (oU.cell 6 _ rfl), setCell_id (oU.cell 7 _ rfl), setCell_id (oU.cell 8 _ rfl), setCell_id (oU.cell 9 _ rfl), setCell_id (oU.cell 10 _ rfl), setCell_id (oU.cell 11 _ rfl), setCell_id (oU.cell 12 _ rfl), setCell_id (oU.cell 13 _ rfl), setCell_id (oU.cell 14 _ rfl)]
    exact ⟨rfl, hXU⟩
  | true =>
    obtain ⟨hrok, hof⟩ := hyes rfl
    simp [s7, s8, rU.cell 0 _ rfl, rU.cell 1 _ rfl, rU.cell 2 _ rfl, rU.cell 3 _ rfl, rU.cell 4 _ rfl, rU.cell 5 _ rfl, rU.cell 6 _ rfl, rU.cell 7 _ rfl, rU.cell 8 _ rfl, rU.cell 9 _ rfl, rU.cell 10 _ rfl, rU.cell 11 _ rfl, rU.cell 12 _ rfl, rU.cell 13 _ rfl, rU.cell 14 _ rfl]
    refine FN.mono (rright_c hrok U) ?_
    rintro _ U1 ⟨rfl, hEU1⟩
    simp
    refine KR_ext hEU1 ?_
    have rU1 := rU.ext hEU1
    have xU1 := xU.ext hEU1
    have oU1 := oU.ext hEU1
    have hXU1 := hXU.trans hEU1
    by_cases hR : rightE r = 0
    case neg =>
      rw [hof, if_neg (fun h => hR h.1)]
      simp [hR, s2, s8, oU1.cell 0 _ rfl, oU1.cell 1 _ rfl, oU1.cell 2 _ rfl, oU1.cell 3 _ rfl, oU1.cell 4 _ rfl, oU1.cell 5 _ rfl, oU1.cell 6 _ rfl, oU1.cell 7 _ rfl, oU1.cell 8 _ rfl, oU1.cell 9 _ rfl, oU1.cell 10 _ rfl, oU1.cell 11 _ rfl, oU1.cell 12 _ rfl, oU1.cell 13 _ rfl, oU1.cell 14 _ rfl, oU1.thaw, setCell_id (oU1.cell 0 _ rfl), setCell_id (oU1.cell 1 _ rfl), setCell_id (oU1.cell 2 _ rfl), setCell_id (oU1.cell 3 _ rfl), setCell_id (oU1.cell 4 _ rfl), setCell_id (oU1.cell 5 _ rfl), setCell_id (oU1.cell 6 _ rfl), setCell_id (oU1.cell 7 _ rfl), setCell_id (oU1.cell 8 _ rfl), setCell_id (oU1.cell 9 _ rfl), setCell_id (oU1.cell 10 _ rfl), setCell_id (oU1.cell 11 _ rfl), setCell_id (oU1.cell 12 _ rfl), setCell_id (oU1.cell 13 _ rfl), setCell_id (oU1.cell 14 _ rfl)]
      exact ⟨rfl, hXU1⟩
    obtain ⟨d1, d2, d3, d4⟩ := right_doc_item hR
    simp [hR, s1, s7, s8, xU1.cell 0 _ rfl, xU1.cell 1 _ rfl, xU1.cell 2 _ rfl, xU1.cell 3 _ rfl, xU1.cell 4 _ rfl, rU1.cell 0 _ rfl, rU1.cell 1 _ rfl, rU1.cell 2 _ rfl, rU1.cell 3 _ rfl, rU1.cell 4 _ rfl, rU1.cell 5 _ rfl, rU1.cell 6 _ rfl, rU1.cell 7 _ rfl, rU1.cell 8 _ rfl, rU1.cell 9 _ rfl, rU1.cell 10 _ rfl, rU1.cell 11 _ rfl, rU1.cell 12 _ rfl, rU1.cell 13 _ rfl, rU1.cell 14 _ rfl]
    refine FN.mono (docItem_c hrok d1 d2 d3 d4 U1) ?_
    rintro _ U2 ⟨csi, rfl, hit, hEU2⟩
    simp
    refine KR_ext hEU2 ?_
    obtain ⟨ia, im, ic, ia', im', ic', hcsi⟩ := itC_form hit
    have hXU2 := hXU1.trans hEU2
    have hsm := csame_c (itemR_nob d4) (itc U2 hXU2) hit
    simp at hsm
    simp
    refine FN.mono (hsm) ?_
    rintro _ U3 ⟨rfl, hEU3⟩
    have hXU3 := hXU2.trans hEU3
    have oU3 := (oU1.ext hEU2).ext hEU3
    have rU3 := (rU1.ext hEU2).ext hEU3
    by_cases hq : t = itemR r
    case neg =>
      rw [hof, if_neg (fun h => hq h.2)]
      simp only [eq_false hq]
      simp [s2, s8, oU3.cell 0 _ rfl, oU3.cell 1 _ rfl, oU3.cell 2 _ rfl, oU3.cell 3 _ rfl, oU3.cell 4 _ rfl, oU3.cell 5 _ rfl, oU3.cell 6 _ rfl, oU3.cell 7 _ rfl, oU3.cell 8 _ rfl, oU3.cell 9 _ rfl, oU3.cell 10 _ rfl, oU3.cell 11 _ rfl, oU3.cell 12 _ rfl, oU3.cell 13 _ rfl, oU3.cell 14 _ rfl, oU3.thaw, setCell_id (oU3.cell 0 _ rfl), setCell_id (oU3.cell 1 _ rfl), setCell_id (oU3.cell 2 _ rfl), setCell_id (oU3.cell 3 _ rfl), setCell_id (oU3.cell 4 _ rfl), setCell_id (oU3.cell 5 _ rfl), setCell_id (oU3.cell 6 _ rfl), setCell_id (oU3.cell 7 _ rfl), setCell_id (oU3.cell 8 _ rfl), setCell_id (oU3.cell 9 _ rfl), setCell_id (oU3.cell 10 _ rfl), setCell_id (oU3.cell 11 _ rfl), setCell_id (oU3.cell 12 _ rfl), setCell_id (oU3.cell 13 _ rfl), setCell_id (oU3.cell 14 _ rfl)]
      exact ⟨rfl, hXU3⟩
    exact (hno1 rfl hR hq).elim
end Go.Proofs
