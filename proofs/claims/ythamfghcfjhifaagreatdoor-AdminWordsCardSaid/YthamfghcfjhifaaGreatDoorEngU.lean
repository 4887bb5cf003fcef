/-
  The engine, part U: arguments whose cells are numbers, bools and strings, one after the other, opened whatever their shape; rows of such.
-/
import Derived.Test.YthamfghcfjhifaaGreatDoorEngS
import Derived.Deep.SlicePairs
import Derived.OpenShut
import Derived.WideShapes
namespace Pk
open Go Go.WideShapes Go.Deep Go.ChangeShapes
inductive CK
  | int (k : IntKind)
  | bool
  | str
def fits : CK → Value → Prop
  | .int k, v => ∃ n, v = .int k n ∧ (Lit.int k n).wf = true
  | .bool, v => ∃ b, v = .bool b
  | .str, v => ∃ b, v = .string b
def Fit : List CK → List Value → Prop
  | [], [] => True
  | k :: ks, v :: vs => fits k v ∧ Fit ks vs
  | _, _ => False
theorem Fit.length : ∀ {ks : List CK} {vs : List Value}, Fit ks vs → ks.length = vs.length
  | [], [], _ => rfl
  | _ :: _, _ :: _, h => congrArg (· + 1) (Fit.length h.2)
  | [], _ :: _, h => h.elim
  | _ :: _, [], h => h.elim
theorem Fit.cons {k : CK} {ks : List CK} {cs : List Value} (h : Fit (k :: ks) cs) : ∃ v vs, cs = v :: vs ∧ fits k v ∧ Fit ks vs := by
  cases cs with
  | nil => exact h.elim
  | cons v vs => exact ⟨v, vs, rfl, h.1, h.2⟩
theorem Fit.nil {cs : List Value} (h : Fit [] cs) : cs = [] := by
  cases cs with
  | nil => rfl
  | cons v vs => exact h.elim
theorem agg_of {v a b : Value} {l : List Value} (h : v.cells.toList = a :: b :: l) : v = .agg (a :: b :: l).toArray := by
  cases v with
  | agg cs =>
    have : cs.toList = a :: b :: l := h
    rw [← this]
  | _ => simp [Value.cells] at h
theorem Fit.append : ∀ {k1 k2 : List CK} {v1 v2 : List Value}, Fit k1 v1 → Fit k2 v2 → Fit (k1 ++ k2) (v1 ++ v2)
  | [], _, [], _, _, h => h
  | _ :: _, _, _ :: _, _, h, h' => ⟨h.1, Fit.append h.2 h'⟩
  | [], _, _ :: _, _, h, _ => h.elim
  | _ :: _, _, [], _, h, _ => h.elim
def flatFs (P : Program) (g : TypeId → Option (List CK)) : List Field → Nat → Option (List CK)
  | [], _ => some []
  | f :: fs, off => match g f.type, flatFs P g fs (off + P.cellsOf f.type) with
    | some l, some r => if f.offset == off && P.cellsOf f.type == l.length then some (l ++ r) else none
    | _, _ => none
def flat (P : Program) : Nat → TypeId → Option (List CK)
  | 0, _ => none
  | n + 1, t => match P.underlying t with
    | some (.int k) => some [.int k]
    | some .bool => some [.bool]
    | some .string => some [.str]
    | some (.struct ⟨fs⟩) => (flatFs P (flat P n) fs 0).bind fun l => if P.cellsOf t == l.length then some l else none
    | some (.array len e) => (flat P n e).bind fun l => if P.cellsOf e == l.length && P.cellsOf t == len * l.length then some (List.replicate len l).flatten else none
    | _ => none
section
variable {H : Type} {enc : TypeId × Value → H} {P : Program} {w : World} {base : Nat} {spare : Nat → Bool} {held : Bool}
theorem take_drop_split (cs : List Value) (off a : Nat) : cs.drop off = (cs.drop off).take a ++ cs.drop (off + a) := by
  conv => lhs; rw [← List.take_append_drop a (cs.drop off)]
  rw [List.drop_drop]
theorem fit_fields {g : TypeId → Option (List CK)} {cs : List Value} : ∀ (fs : List Field) (off : Nat) (l : List CK), flatFs P g fs off = some l → (∀ f ∈ fs, ∀ l', g f.type = some l' → Fit l' ((cs.drop f.offset).take (P.cellsOf f.type))) →
    Fit l ((cs.drop off).take l.length)
  | [], off, l, h, _ => by
    cases h
    simp [Fit]
  | f :: fs, off, l, h, hf => by
    unfold flatFs at h
    split at h
    · rename_i l1 r h1 h2
      split at h
      · rename_i hc
        simp only [Bool.and_eq_true, beq_iff_eq] at hc
        cases h
        have f1 := hf f (by simp) l1 h1
        have f2 := fit_fields fs _ r h2 fun f' hf' => hf f' (by simp [hf'])
        rw [hc.1, hc.2] at f1
        rw [hc.2] at f2
        have e : (cs.drop off).take (l1 ++ r).length = (cs.drop off).take l1.length ++ (cs.drop (off + l1.length)).take r.length := by
          rw [List.length_append, List.take_add, List.drop_drop]
        rw [e]
        exact f1.append f2
      · cases h
    · cases h
theorem fit_rows {l : List CK} {cs : List Value} : ∀ (n k : Nat), (∀ i, k ≤ i → i < k + n → Fit l ((cs.drop (i * l.length)).take l.length)) → Fit (List.replicate n l).flatten ((cs.drop (k * l.length)).take (n * l.length))
  | 0, k, _ => by simp [Fit]
  | n + 1, k, h => by
    have f1 := h k (Nat.le_refl _) (by omega)
    have f2 := fit_rows n (k + 1) fun i h1 h2 => h i (by omega) (by omega)
    have e : (cs.drop (k * l.length)).take ((n + 1) * l.length) = (cs.drop (k * l.length)).take l.length ++ (cs.drop ((k + 1) * l.length)).take (n * l.length) := by
      have e1 : (n + 1) * l.length = l.length + n * l.length := by rw [Nat.succ_mul]; omega
      have e2 : (k + 1) * l.length = k * l.length + l.length := Nat.succ_mul _ _
      rw [e1, List.take_add, List.drop_drop, e2]
    rw [e, List.replicate_succ, List.flatten_cons]
    exact f1.append f2
theorem trod_flat : ∀ (n : Nat) (t : TypeId) (l : List CK), flat P n t = some l → ∀ (fuel : Nat) (cs : List Value) (x : DataW H × List MemPlace), DataW.trod enc P w base spare held fuel t cs = some x → Fit l cs
  | 0, t, l, h, _, _, _, _ => by cases h
  | n + 1, t, l, h, fuel, cs, x, hx => by
    unfold flat at h
    split at h
    · rename_i k ht
      cases h
      obtain ⟨m, h1, h2, h3⟩ := DataW.trod_int ht hx
      subst h1
      exact ⟨⟨m, rfl, h3⟩, trivial⟩
    · rename_i ht
      cases h
      obtain ⟨b, h1, h2⟩ := DataW.trod_bool ht hx
      subst h1
      exact ⟨⟨b, rfl⟩, trivial⟩
    · rename_i ht
      cases h
      obtain ⟨b, h1, h2⟩ := DataW.trod_string ht hx
      subst h1
      exact ⟨⟨b, rfl⟩, trivial⟩
    · rename_i fs ht
      cases hfs : flatFs P (flat P n) fs 0 with
      | none => rw [hfs] at h; cases h
      | some l' =>
        rw [hfs, Option.bind_some] at h
        split at h
        · rename_i hc
          cases h
          rw [beq_iff_eq] at hc
          obtain ⟨xs, m, _, _, hl, hxl, hf⟩ := DataW.trod_struct ht hx
          have := fit_fields (cs := cs) fs 0 _ hfs fun f hff l2 hl2 => by
            obtain ⟨i, hi⟩ := List.mem_iff_getElem?.1 hff
            have hil := (List.getElem?_eq_some_iff.1 hi).1
            have h2 := hf i f (by simpa using hi)
            rw [List.getElem?_eq_getElem (by rw [hxl]; simpa using hil)] at h2
            exact trod_flat n f.type l2 hl2 _ _ _ h2
          rw [List.drop_zero, ← hc, ← hl, List.take_length] at this
          exact this
        · cases h
    · rename_i len e ht
      cases hfs : flat P n e with
      | none => rw [hfs] at h; cases h
      | some l' =>
        rw [hfs, Option.bind_some] at h
        split at h
        · rename_i hc
          cases h
          simp only [Bool.and_eq_true, beq_iff_eq] at hc
          obtain ⟨xs, m, _, _, hl, hxl, hf⟩ := DataW.trod_array ht hx
          have := fit_rows (cs := cs) len 0 fun i _ hi => by
            have h2 := hf i (by omega)
            rw [List.getElem?_eq_getElem (by omega), hc.1] at h2
            exact trod_flat n e _ hfs _ _ _ h2
          rw [Nat.zero_mul, List.drop_zero, ← hc.2, ← hl, List.take_length] at this
          exact this
        · cases h
    · cases h
end
/-- A row whose address may be whatever where it is empty. -/
structure SlA (w : World) (s : Nat) (v : Value) (n : Nat) (cs : List Value) : Prop where
  len : cs.length = n * s
  val : ∃ ao c, v = .slice ao n c ∧ (0 < n → ∃ b o, ao = some ⟨b, o, none⟩)
  at_ : ∀ j u, cs[j]? = some u → w.cell? ⟨slB v, slO v + j, none⟩ = some u
theorem SlA.ext {w w' : World} {s : Nat} {v : Value} {n : Nat} {cs : List Value} (h : SlA w s v n cs) (he : Ext w w') : SlA w' s v n cs := ⟨h.len, h.val, fun j u hj => he.cell_eq (h.at_ j u hj)⟩
theorem SlA.isLen {P : Program} {w : World} {s : Nat} {v : Value} {n : Nat} {cs : List Value} {t : TypeId} (h : SlA w s v n cs) (hs : isS (P.underlying t) = true) (ty : TypeId) (w' : World) : (Builtin.len_ #[t] ty #[v]).run P w' = .ok (.int .i64 n) w' := by
  obtain ⟨ao, c, rfl, _⟩ := h.val
  exact r_len_slice P w' t ty ao n c hs
theorem SlA.index {P : Program} {w : World} {s : Nat} {v : Value} {n : Nat} {cs : List Value} {t : TypeId} (h : SlA w s v n cs) (hs : isS (P.underlying t) = true) (k : IntKind) (i : Int) (h0 : 0 ≤ i) (h1 : i < n) (w' : World) :
    (Instr.indexAt t v (.int k i)).run P w' = ((Go.sizeOf (elemT (P.underlying t))).run P w').andThen fun n w' => .ok (.pointer (some ⟨slB v, slO v + i.toNat * n, none⟩)) w' := by
  obtain ⟨ao, c, rfl, ha⟩ := h.val
  obtain ⟨b, o, rfl⟩ := ha (by omega)
  exact r_index_slice P w' t b o n c k i hs h0 h1
theorem flatMap_at {s : Nat} (f : Nat → List Value) (n : Nat) : (∀ i, i < n → (f i).length = s) → ((List.range n).flatMap f).length = n * s ∧ ∀ i j, i < n → j < s → ((List.range n).flatMap f)[i * s + j]? = (f i)[j]? := by
  induction n with
  | zero => intro _; simp
  | succ n ih =>
    intro h
    obtain ⟨h1, h2⟩ := ih fun i hi => h i (by omega)
    have e : (List.range (n + 1)).flatMap f = (List.range n).flatMap f ++ f n := by rw [List.range_succ, List.flatMap_append]; simp
    rw [e]
    refine ⟨by rw [List.length_append, h1, h n (by omega), Nat.succ_mul], fun i j hi hj => ?_⟩
    by_cases hin : i < n
    · have hlt : i * s + j < n * s := by
        have : (i + 1) * s ≤ n * s := Nat.mul_le_mul_right s hin
        rw [Nat.succ_mul] at this; omega
      rw [List.getElem?_append_left (by rw [h1]; exact hlt)]
      exact h2 i j hin hj
    · have : i = n := by omega
      subst this
      rw [List.getElem?_append_right (by rw [h1]; omega), h1]
      congr 1; omega
section
variable {H : Type} {enc : TypeId × Value → H} {P : Program}
/-- A row of flat elements, opened. -/
theorem open_rows {W : World} {v : Value} {d : DataW H} {ps : List MemPlace} {base : Nat} {t e : TypeId} {m : Nat} {l : List CK} (ht : P.underlying t = some (.slice e)) (hl : flat P m e = some l) (hc : P.cellsOf e = l.length) (h0 : 0 < l.length)
    (hv : Value.okWide P W .any base t v) (h : DataW.Trod enc P W 0 (fun _ => true) true t v d ps) :
    ∃ (n : Nat) (f : Nat → List Value), SlA W l.length v n ((List.range n).flatMap f) ∧ ∀ i, i < n → Fit l (f i) := by
  obtain ⟨a, len, cap, rfl⟩ := okWide_slice ht hv
  obtain ⟨fuel, hf⟩ := h
  rcases open_slice ht hf with ⟨h1, -⟩ | ⟨a', len', cap', m', n, D, Pl, h1, hb, hle, hm, hmm, hx, hel⟩
  · simp [Value.cells] at h1
    obtain ⟨rfl, rfl, rfl⟩ := h1
    exact ⟨0, fun _ => [], ⟨by simp, ⟨none, 0, rfl, fun h => by simp at h⟩, by simp⟩, fun i hi => by omega⟩
  · simp [Value.cells] at h1
    obtain ⟨rfl, rfl, rfl⟩ := h1
    simp at hmm
    subst hmm
    have each : ∀ i, i < len → ∃ cs : List Value, Fit l cs ∧ ∀ j u, cs[j]? = some u → W.cell? (a'.add (i * l.length + j)) = some u := by
      intro i hi
      obtain ⟨cs', h2, h3⟩ := hel i (by omega)
      rw [hc] at h2
      obtain ⟨_, hlen, hcell⟩ := World.cells?_some h2
      refine ⟨cs', trod_flat m e l hl _ _ _ h3, fun j u hj => ?_⟩
      have hjl := (List.getElem?_eq_some_iff.1 hj).1
      have := hcell j (by omega)
      rw [add_add] at this
      rw [this]; exact hj
    obtain ⟨f, hfx⟩ := choose_lt each
    have hfl : ∀ i, i < len → (f i).length = l.length := fun i hi => ((hfx i hi).1.length).symm
    obtain ⟨g1, g2⟩ := flatMap_at f len hfl
    have hsp : 0 < len → ∃ b o, a' = ⟨b, o, none⟩ := by
      intro h
      have hl0 := hfl 0 h
      have := (hfx 0 h).2 0 (f 0)[0] (by simp [hl0, h0])
      obtain ⟨b, o, sp⟩ := a'
      cases sp with
      | none => exact ⟨b, o, rfl⟩
      | some s => simp [Addr.add, World.cell?] at this; split at this <;> simp_all
    refine ⟨len, f, ⟨g1, ⟨some a', _, rfl, fun h => ?_⟩, ?_⟩, fun i hi => (hfx i hi).1⟩
    · obtain ⟨b, o, rfl⟩ := hsp h
      exact ⟨b, o, rfl⟩
    · intro j u hj
      have hjl := (List.getElem?_eq_some_iff.1 hj).1
      rw [g1] at hjl
      have hi : j / l.length < len := (Nat.div_lt_iff_lt_mul h0).2 hjl
      obtain ⟨b, o, rfl⟩ := hsp (Nat.lt_of_le_of_lt (Nat.zero_le _) hi)
      have hdm := Nat.div_add_mod j l.length
      have hml := Nat.mod_lt j h0
      have e : j / l.length * l.length + j % l.length = j := by rw [Nat.mul_comm]; exact hdm
      have h3 := g2 (j / l.length) (j % l.length) hi hml
      rw [e, hj] at h3
      have := (hfx _ hi).2 _ _ h3.symm
      rw [e] at this
      simpa [slB, slO] using this
/-- A flat argument, opened. -/
theorem open_flat {W : World} {v : Value} {d : DataW H} {ps : List MemPlace} {t : TypeId} {m : Nat} {l : List CK} (hl : flat P m t = some l) (h : DataW.Trod enc P W 0 (fun _ => true) true t v d ps) : Fit l v.cells.toList := by
  obtain ⟨fuel, hf⟩ := h
  exact trod_flat m t l hl _ _ _ hf
end
end Pk
