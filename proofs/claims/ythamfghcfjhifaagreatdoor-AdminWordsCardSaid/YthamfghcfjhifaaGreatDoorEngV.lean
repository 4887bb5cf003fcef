/-
  The engine, part V: values of flat types (their cells are numbers, bools and strings) compared; maps whose keys are such.
-/
import Derived.Test.YthamfghcfjhifaaGreatDoorEngU
import Derived.DeepKeys
namespace Pk
open Go
def shp1 : CK → Value → Bool
  | .int k, .int k' _ => decide (k = k')
  | .bool, .bool _ => true
  | .str, .string _ => true
  | _, _ => false
def shp : List CK → List Value → Bool
  | [], [] => true
  | k :: ks, v :: vs => shp1 k v && shp ks vs
  | _, _ => false
def eqc : Value → Value → Bool
  | .int _ a, .int _ b => a == b
  | .bool a, .bool b => a == b
  | .string a, .string b => a == b
  | _, _ => false
def eqcs : List Value → List Value → Bool
  | [], [] => true
  | x :: xs, y :: ys => eqc x y && eqcs xs ys
  | _, _ => false
theorem shp_len : ∀ {ks : List CK} {vs : List Value}, shp ks vs = true → vs.length = ks.length
  | [], [], _ => rfl
  | _ :: _, _ :: _, h => congrArg (· + 1) (shp_len (Bool.and_eq_true_iff.1 h).2)
  | [], _ :: _, h => by cases h
  | _ :: _, [], h => by cases h
theorem shp_app : ∀ {ks ls : List CK} {vs : List Value}, shp (ks ++ ls) vs = true → shp ks (vs.take ks.length) = true ∧ shp ls (vs.drop ks.length) = true
  | [], ls, vs, h => ⟨rfl, h⟩
  | k :: ks, ls, [], h => by cases h
  | k :: ks, ls, v :: vs, h => by
    obtain ⟨h1, h2⟩ := Bool.and_eq_true_iff.1 h
    obtain ⟨h3, h4⟩ := shp_app h2
    exact ⟨Bool.and_eq_true_iff.2 ⟨h1, h3⟩, h4⟩
theorem eqcs_app : ∀ (a b c d : List Value), a.length = b.length → eqcs (a ++ c) (b ++ d) = (eqcs a b && eqcs c d)
  | [], [], c, d, _ => by simp [eqcs]
  | x :: a, y :: b, c, d, h => by
    simp only [List.cons_append, eqcs, eqcs_app a b c d (by simpa using h), Bool.and_assoc]
  | [], _ :: _, _, _, h => by simp at h
  | _ :: _, [], _, _, h => by simp at h
def aggT (P : Program) (t : TypeId) : Bool := match P.underlying t with | some (.struct _) | some (.array _ _) => true | _ => false
/-- The value of these cells. -/
def mkV (P : Program) (t : TypeId) (cs : List Value) : Value := if aggT P t then .agg cs.toArray else cs.headD undef
def flatQs (P : Program) (g : TypeId → Option (List CK)) : List Field → Nat → Option (List CK)
  | [], _ => some []
  | f :: fs, off => match g f.type, flatQs P g fs (off + P.cellsOf f.type) with
    | some l, some r => if f.offset == off && (P.cellsOf f.type == l.length && decide (f.name ≠ "_")) then some (l ++ r) else none
    | _, _ => none
def flatQ (P : Program) : Nat → TypeId → Option (List CK)
  | 0, _ => none
  | n + 1, t => match P.underlying t with
    | some (.int k) => some [.int k]
    | some .bool => some [.bool]
    | some .string => some [.str]
    | some (.struct ⟨fs⟩) => if P.stoodInHeld t then none else (flatQs P (flatQ P n) fs 0).bind fun l => if P.cellsOf t == l.length then some l else none
    | some (.array len e) => (flatQ P n e).bind fun l => if P.cellsOf e == l.length && P.cellsOf t == len * l.length then some (List.replicate len l).flatten else none
    | _ => none
section
variable {P : Program} (w : World)
theorem flatQ_info {n : Nat} {t : TypeId} {l : List CK} (h : flatQ P n t = some l) : ∃ i, P.info? t = some i := by
  cases n with
  | zero => cases h
  | succ n =>
    unfold flatQ at h
    cases hu : P.underlying t with
    | none => rw [hu] at h; cases h
    | some d => exact info_of_underlying hu
theorem flatQ_len : ∀ {n : Nat} {t : TypeId} {l : List CK}, flatQ P n t = some l → aggT P t = false → ∃ k, l = [k]
  | 0, _, _, h, _ => by cases h
  | n + 1, t, l, h, ha => by
    unfold flatQ at h
    unfold aggT at ha
    split at h
    · cases h; exact ⟨_, rfl⟩
    · cases h; exact ⟨_, rfl⟩
    · cases h; exact ⟨_, rfl⟩
    · rename_i hu; rw [hu] at ha; cases ha
    · rename_i hu; rw [hu] at ha; cases ha
    · cases h
theorem run_part_flat {n : Nat} {e : TypeId} {l : List CK} (h : flatQ P n e = some l) (hc : P.cellsOf e = l.length) (xs : Array Value) (off : Nat) (hx : off + l.length ≤ xs.size) :
    (part e xs off).run P w = .ok (mkV P e ((xs.toList.drop off).take l.length)) w := by
  obtain ⟨i, hi⟩ := flatQ_info h
  have key : (isAgg e).run P w = .ok (aggT P e) w := by
    unfold isAgg aggT
    cases n with
    | zero => cases h
    | succ n =>
      unfold flatQ at h
      cases hu : P.underlying e with
      | none => rw [hu] at h; cases h
      | some d =>
        simp only [Sem.run_bind, run_underlying hu, Result.andThen_ok]
        cases d <;> rfl
  unfold part mkV
  simp only [Sem.run_bind, key, Result.andThen_ok]
  cases ha : aggT P e with
  | true =>
    simp only [if_true, Sem.run_bind, run_sizeOf w hi, Result.andThen_ok, Sem.run_pure, hc]
    congr 2
    apply Array.ext'
    rw [Array.toList_extract]
    simp [List.extract]
  | false =>
    obtain ⟨k, rfl⟩ := flatQ_len h ha
    simp only [Bool.false_eq_true, if_false]
    have hlt : off < xs.size := by simp at hx; omega
    rw [Array.getElem?_eq_getElem hlt]
    simp only [Sem.run_pure]
    congr 1
    rw [List.drop_eq_getElem_cons (by simpa using hlt)]
    simp
theorem shp_int {k : IntKind} {x : List Value} (h : shp [.int k] x = true) : ∃ a, x = [.int k a] := by
  match x, h with
  | [v], h =>
    obtain ⟨h1, _⟩ := Bool.and_eq_true_iff.1 h
    cases v <;> simp [shp1] at h1
    subst h1
    exact ⟨_, rfl⟩
  | [], h => cases h
  | v :: u :: x, h => simp [shp] at h
theorem shp_bool {x : List Value} (h : shp [.bool] x = true) : ∃ a, x = [.bool a] := by
  match x, h with
  | [v], h =>
    obtain ⟨h1, _⟩ := Bool.and_eq_true_iff.1 h
    cases v <;> simp [shp1] at h1
    exact ⟨_, rfl⟩
  | [], h => cases h
  | v :: u :: x, h => simp [shp] at h
theorem shp_str {x : List Value} (h : shp [.str] x = true) : ∃ a, x = [.string a] := by
  match x, h with
  | [v], h =>
    obtain ⟨h1, _⟩ := Bool.and_eq_true_iff.1 h
    cases v <;> simp [shp1] at h1
    exact ⟨_, rfl⟩
  | [], h => cases h
  | v :: u :: x, h => simp [shp] at h
theorem flatQs_inv {g : TypeId → Option (List CK)} {f : Field} {fs : List Field} {off : Nat} {l : List CK} (h : flatQs P g (f :: fs) off = some l) :
    ∃ l1 r, g f.type = some l1 ∧ flatQs P g fs (off + l1.length) = some r ∧ f.offset = off ∧ P.cellsOf f.type = l1.length ∧ f.name ≠ "_" ∧ l = l1 ++ r := by
  unfold flatQs at h
  split at h
  · rename_i l1 r h1 h2
    split at h
    · rename_i hc
      simp only [Bool.and_eq_true, beq_iff_eq, decide_eq_true_eq] at hc
      cases h
      exact ⟨l1, r, h1, by rw [← hc.2.1]; exact h2, hc.1, hc.2.1, hc.2.2, rfl⟩
    · cases h
  · cases h
theorem take_drop_len {α : Type} (xs : List α) (off a b : Nat) : (xs.drop off).take (a + b) = (xs.drop off).take a ++ (xs.drop (off + a)).take b := by
  rw [List.take_add, List.drop_drop]
theorem eqFields_flat {n d : Nat} (ih : ∀ t l, flatQ P n t = some l → ∀ xs ys, shp l xs = true → shp l ys = true → (Op.equalIn d t (mkV P t xs) (mkV P t ys)).run P w = .ok (eqcs xs ys) w) (xs ys : Array Value) : ∀ (fs : List Field) (off : Nat) (l : List CK), flatQs P (flatQ P n) fs off = some l →
    off + l.length ≤ xs.size → off + l.length ≤ ys.size → shp l ((xs.toList.drop off).take l.length) = true → shp l ((ys.toList.drop off).take l.length) = true →
    (Op.eqFields d xs ys fs).run P w = .ok (eqcs ((xs.toList.drop off).take l.length) ((ys.toList.drop off).take l.length)) w
  | [], off, l, h, _, _, _, _ => by
    cases h
    simp [Op.eqFields, eqcs]
  | f :: fs, off, l, h, hx, hy, sx, sy => by
    obtain ⟨l1, r, h1, h2, ho, hc, hn, rfl⟩ := flatQs_inv h
    simp only [List.length_append] at hx hy sx sy ⊢
    rw [take_drop_len] at sx sy ⊢
    rw [take_drop_len ys.toList]
    have tx : ((xs.toList.drop off).take l1.length).length = l1.length := by simp; omega
    have ty : ((ys.toList.drop off).take l1.length).length = l1.length := by simp; omega
    obtain ⟨sx1, sx2⟩ := shp_app sx
    obtain ⟨sy1, sy2⟩ := shp_app sy
    rw [List.take_append_of_le_length (by omega), List.take_of_length_le (by omega)] at sx1 sy1
    have ex : ((xs.toList.drop off).take l1.length ++ (xs.toList.drop (off + l1.length)).take r.length).drop l1.length = (xs.toList.drop (off + l1.length)).take r.length := by
      rw [List.drop_append_of_le_length (by omega), List.drop_of_length_le (by omega)]; rfl
    have ey : ((ys.toList.drop off).take l1.length ++ (ys.toList.drop (off + l1.length)).take r.length).drop l1.length = (ys.toList.drop (off + l1.length)).take r.length := by
      rw [List.drop_append_of_le_length (by omega), List.drop_of_length_le (by omega)]; rfl
    rw [ex] at sx2
    rw [ey] at sy2
    have p1 := run_part_flat w h1 hc xs off (by omega)
    have p2 := run_part_flat w h1 hc ys off (by omega)
    have p3 := ih _ _ h1 _ _ sx1 sy1
    have p4 := eqFields_flat ih xs ys fs _ r h2 (by omega) (by omega) sx2 sy2
    rw [eqcs_app _ _ _ _ (by omega)]
    simp only [Op.eqFields, hn, ne_eq, not_false_eq_true, if_true, Sem.run_bind, ho, p1, p2, p3, Result.andThen_ok]
    cases eqcs (List.take l1.length (List.drop off xs.toList)) (List.take l1.length (List.drop off ys.toList)) with
    | true => simp [p4]
    | false => simp
theorem range'_succ' (k n : Nat) : List.range' k (n + 1) = k :: List.range' (k + 1) n := rfl
theorem eqItems_flat {n d : Nat} {e : TypeId} {l : List CK} (he : flatQ P n e = some l) (hc : P.cellsOf e = l.length) (ih : ∀ xs ys, shp l xs = true → shp l ys = true → (Op.equalIn d e (mkV P e xs) (mkV P e ys)).run P w = .ok (eqcs xs ys) w) (xs ys : Array Value) : ∀ (k j : Nat),
    (j + k) * l.length ≤ xs.size → (j + k) * l.length ≤ ys.size → shp (List.replicate k l).flatten ((xs.toList.drop (j * l.length)).take (k * l.length)) = true → shp (List.replicate k l).flatten ((ys.toList.drop (j * l.length)).take (k * l.length)) = true →
    (Op.eqItems d e (P.cellsOf e) xs ys (List.range' j k)).run P w = .ok (eqcs ((xs.toList.drop (j * l.length)).take (k * l.length)) ((ys.toList.drop (j * l.length)).take (k * l.length))) w
  | 0, j, _, _, _, _ => by simp [Op.eqItems, eqcs]
  | k + 1, j, hx, hy, sx, sy => by
    have e1 : (k + 1) * l.length = l.length + k * l.length := by rw [Nat.succ_mul]; omega
    have e2 : (j + 1) * l.length = j * l.length + l.length := Nat.succ_mul _ _
    have e3 : (j + (k + 1)) * l.length = j * l.length + (l.length + k * l.length) := by rw [Nat.add_mul, e1]
    rw [e3] at hx hy
    rw [e1, take_drop_len, List.replicate_succ, List.flatten_cons] at sx sy
    rw [e1, take_drop_len, take_drop_len ys.toList]
    have tx : ((xs.toList.drop (j * l.length)).take l.length).length = l.length := by simp; omega
    have ty : ((ys.toList.drop (j * l.length)).take l.length).length = l.length := by simp; omega
    obtain ⟨sx1, sx2⟩ := shp_app sx
    obtain ⟨sy1, sy2⟩ := shp_app sy
    rw [List.take_append_of_le_length (by omega), List.take_of_length_le (by omega)] at sx1 sy1
    rw [List.drop_append_of_le_length (by omega), List.drop_of_length_le (by omega)] at sx2 sy2
    simp only [List.nil_append] at sx2 sy2
    rw [← e2] at sx2 sy2 ⊢
    have p1 := run_part_flat w he hc xs (j * l.length) (by omega)
    have p2 := run_part_flat w he hc ys (j * l.length) (by omega)
    have p3 := ih _ _ sx1 sy1
    have p4 := eqItems_flat he hc ih xs ys k (j + 1) (by rw [Nat.add_mul, e2]; omega) (by rw [Nat.add_mul, e2]; omega) sx2 sy2
    rw [eqcs_app _ _ _ _ (by omega), range'_succ']
    simp only [Op.eqItems, Sem.run_bind, hc, p1, p2, p3, Result.andThen_ok]
    rw [hc] at p4
    cases eqcs (List.take l.length (List.drop (j * l.length) xs.toList)) (List.take l.length (List.drop (j * l.length) ys.toList)) with
    | true => simp [p4]
    | false => simp
theorem flat_rep (l : List CK) : ∀ n, (List.replicate n l).flatten.length = n * l.length
  | 0 => by simp
  | n + 1 => by rw [List.replicate_succ, List.flatten_cons, List.length_append, flat_rep l n, Nat.succ_mul]; omega
theorem equalIn_flat (d : Nat) : ∀ (n : Nat) (t : TypeId) (l : List CK), flatQ P n t = some l → ∀ xs ys, shp l xs = true → shp l ys = true → (Op.equalIn (d + n) t (mkV P t xs) (mkV P t ys)).run P w = .ok (eqcs xs ys) w
  | 0, _, _, h, _, _, _, _ => by cases h
  | n + 1, t, l, h, xs, ys, sx, sy => by
    unfold flatQ at h
    rw [show d + (n + 1) = (d + n) + 1 from rfl]
    split at h
    · rename_i k hu
      cases h
      obtain ⟨a, rfl⟩ := shp_int sx
      obtain ⟨b, rfl⟩ := shp_int sy
      simp [mkV, aggT, hu, run_equalIn_int w _ _ _ _ a b hu, eqcs, eqc]
    · rename_i hu
      cases h
      obtain ⟨a, rfl⟩ := shp_bool sx
      obtain ⟨b, rfl⟩ := shp_bool sy
      simp [mkV, aggT, hu, run_equalIn_bool' w _ _ a b hu, eqcs, eqc]
    · rename_i hu
      cases h
      obtain ⟨a, rfl⟩ := shp_str sx
      obtain ⟨b, rfl⟩ := shp_str sy
      simp [mkV, aggT, hu, run_equalIn_string w _ _ a b hu, eqcs, eqc, beq_toListBytes]
    · rename_i fs hu
      split at h
      · cases h
      · rename_i hs
        cases hf : flatQs P (flatQ P n) fs 0 with
        | none => rw [hf] at h; cases h
        | some l' =>
          rw [hf, Option.bind_some] at h
          split at h
          · rename_i hc
            cases h
            have lx := shp_len sx
            have ly := shp_len sy
            have hfs : P.fieldsOf t = ⟨fs⟩ := by simp [Program.fieldsOf, hu]
            have := eqFields_flat w (fun t' l' h' => equalIn_flat d n t' l' h') xs.toArray ys.toArray fs 0 l hf (by simp [lx]) (by simp [ly]) (by simpa [← lx] using sx) (by simpa [← ly] using sy)
            simp only [mkV, aggT, hu, if_true]
            rw [run_equalIn_struct w _ t _ _ (by rw [hfs]; exact hu) (by simpa using hs), hfs, this]
            simp only [List.drop_zero]
            rw [List.take_of_length_le (by omega), List.take_of_length_le (by omega)]
          · cases h
    · rename_i len e hu
      cases hf : flatQ P n e with
      | none => rw [hf] at h; cases h
      | some l' =>
        rw [hf, Option.bind_some] at h
        split at h
        · rename_i hc
          simp only [Bool.and_eq_true, beq_iff_eq] at hc
          cases h
          have lx := shp_len sx
          have ly := shp_len sy
          rw [flat_rep] at lx ly
          obtain ⟨i, hi⟩ := flatQ_info hf
          have := eqItems_flat w hf hc.1 (fun xs ys h1 h2 => equalIn_flat d n e l' hf xs ys h1 h2) xs.toArray ys.toArray len 0 (by simp [lx]) (by simp [ly]) (by rw [← lx]; simpa using sx) (by rw [← ly]; simpa using sy)
          simp only [mkV, aggT, hu, if_true]
          rw [run_equalIn_array w _ _ _ hu hi, List.range_eq_range', this]
          simp only [Nat.zero_mul, List.drop_zero]
          rw [List.take_of_length_le (by omega), List.take_of_length_le (by omega)]
        · cases h
    · cases h
end
/-- What simp asks of a flat type. -/
def flatA (P : Program) (t : TypeId) : Option (List CK) := if aggT P t then flatQ P 12 t else none
theorem equal_flat {P : Program} (w : World) {t : TypeId} {l : List CK} (h : flatA P t = some l) {xs ys : Array Value} (hx : shp l xs.toList = true) (hy : shp l ys.toList = true) :
    (Op.equal t (.agg xs) (.agg ys)).run P w = .ok (eqcs xs.toList ys.toList) w := by
  unfold flatA at h
  split at h
  · rename_i ha
    have := equalIn_flat w 9988 12 t l h _ _ hx hy
    simpa [mkV, ha, Op.equal, Op.maxDepth] using this
  · cases h
theorem run_eql_flat {P : Program} (w : World) {t : TypeId} {l : List CK} (h : flatA P t = some l) (xs ys : Array Value) (hx : shp l xs.toList = true) (hy : shp l ys.toList = true) :
    (binOp .eql t (.agg xs) (.agg ys)).run P w = .ok (.bool (eqcs xs.toList ys.toList)) w := by
  rw [run_eql_struct]
  have := equal_flat w h hx hy
  simp only [Op.equal, Op.maxDepth] at this
  rw [this]
  rfl
theorem run_neq_flat {P : Program} (w : World) {t : TypeId} {l : List CK} (h : flatA P t = some l) (xs ys : Array Value) (hx : shp l xs.toList = true) (hy : shp l ys.toList = true) :
    (binOp .neq t (.agg xs) (.agg ys)).run P w = .ok (.bool (!eqcs xs.toList ys.toList)) w := by
  rw [run_neq_struct]
  have := equal_flat w h hx hy
  simp only [Op.equal, Op.maxDepth] at this
  rw [this]
  rfl
/-! ### Keys -/
section
variable {P : Program} (w : World)
theorem check_flat (em : Bool) (d : Nat) : ∀ (n : Nat) (t : TypeId) (l : List CK), flatQ P n t = some l → ∀ xs, shp l xs = true → (Instr.checkKey em (d + n) t (mkV P t xs)).run P w = .ok () w
  | 0, _, _, h, _, _ => by cases h
  | n + 1, t, l, h, xs, sx => by
    unfold flatQ at h
    rw [show d + (n + 1) = (d + n) + 1 from rfl]
    split at h
    · rename_i k hu
      cases h
      obtain ⟨a, rfl⟩ := shp_int sx
      simp [Instr.checkKey, mkV, aggT, hu, run_underlying hu]
    · rename_i hu
      cases h
      obtain ⟨a, rfl⟩ := shp_bool sx
      simp [Instr.checkKey, mkV, aggT, hu, run_underlying hu]
    · rename_i hu
      cases h
      obtain ⟨a, rfl⟩ := shp_str sx
      simp [Instr.checkKey, mkV, aggT, hu, run_underlying hu]
    · rename_i fs hu
      split at h
      · cases h
      · cases hf : flatQs P (flatQ P n) fs 0 with
        | none => rw [hf] at h; cases h
        | some l' =>
          rw [hf, Option.bind_some] at h
          split at h
          · rename_i hc
            cases h
            have lx := shp_len sx
            simp only [mkV, aggT, hu, if_true, Instr.checkKey, Sem.run_bind, run_underlying hu, Result.andThen_ok]
            rw [← Array.forIn_toList]
            have key : ∀ (fs : List Field) (off : Nat) (l : List CK), flatQs P (flatQ P n) fs off = some l → off + l.length ≤ xs.length → shp l ((xs.drop off).take l.length) = true →
                (ForIn.forIn (m := Sem) fs PUnit.unit fun f _ => do
                  if f.name ≠ "_" then do
                    Instr.checkKey em (d + n) f.type (← part f.type xs.toArray f.offset)
                    pure (ForInStep.yield PUnit.unit)
                  else pure (ForInStep.yield PUnit.unit)).run P w = .ok PUnit.unit w := by
              intro fs
              induction fs with
              | nil => intro off l h _ _; simp
              | cons f fs ih =>
                intro off l h hx sx
                obtain ⟨l1, r, h1, h2, ho, hcc, hn, rfl⟩ := flatQs_inv h
                simp only [List.length_append] at hx sx
                rw [take_drop_len] at sx
                have tx : ((xs.drop off).take l1.length).length = l1.length := by simp; omega
                obtain ⟨sx1, sx2⟩ := shp_app sx
                rw [List.take_append_of_le_length (by omega), List.take_of_length_le (by omega)] at sx1
                rw [List.drop_append_of_le_length (by omega), List.drop_of_length_le (by omega)] at sx2
                simp only [List.nil_append] at sx2
                have p1 := run_part_flat w h1 hcc xs.toArray off (by simp; omega)
                simp only at p1
                have p2 := check_flat em d n _ _ h1 _ sx1
                have p3 := ih _ _ h2 (by omega) sx2
                simp only [List.forIn_cons, Sem.run_bind, hn, ne_eq, not_false_eq_true, if_true, ho, p1, Result.andThen_ok, p2, Sem.run_pure]
                exact p3
            rw [key fs 0 l hf (by omega) (by rw [List.drop_zero, List.take_of_length_le (by omega)]; exact sx)]
            simp
          · cases h
    · rename_i len e hu
      cases hf : flatQ P n e with
      | none => rw [hf] at h; cases h
      | some l' =>
        rw [hf, Option.bind_some] at h
        split at h
        · rename_i hc
          simp only [Bool.and_eq_true, beq_iff_eq] at hc
          cases h
          have lx := shp_len sx
          rw [flat_rep] at lx
          obtain ⟨i, hi⟩ := flatQ_info hf
          simp only [mkV, aggT, hu, if_true, Instr.checkKey, Sem.run_bind, run_underlying hu, Result.andThen_ok]
          simp only [Std.Legacy.Range.forIn_eq_forIn_range', Std.Legacy.Range.size, Nat.sub_zero, Nat.add_one_sub_one, Nat.div_one]
          have key : ∀ (k j : Nat), (j + k) * l'.length ≤ xs.length → shp (List.replicate k l').flatten ((xs.drop (j * l'.length)).take (k * l'.length)) = true →
              (ForIn.forIn (m := Sem) (List.range' j k) PUnit.unit fun i _ => do
                Instr.checkKey em (d + n) e (← part e xs.toArray (i * (← sizeOf e)))
                pure (ForInStep.yield PUnit.unit)).run P w = .ok PUnit.unit w := by
            intro k
            induction k with
            | zero => intro j _ _; simp
            | succ k ih =>
              intro j hx sx
              have e1 : (k + 1) * l'.length = l'.length + k * l'.length := by rw [Nat.succ_mul]; omega
              have e2 : (j + 1) * l'.length = j * l'.length + l'.length := Nat.succ_mul _ _
              have e3 : (j + (k + 1)) * l'.length = j * l'.length + (l'.length + k * l'.length) := by rw [Nat.add_mul, e1]
              rw [e3] at hx
              rw [e1, take_drop_len, List.replicate_succ, List.flatten_cons] at sx
              have tx : ((xs.drop (j * l'.length)).take l'.length).length = l'.length := by simp; omega
              obtain ⟨sx1, sx2⟩ := shp_app sx
              rw [List.take_append_of_le_length (by omega), List.take_of_length_le (by omega)] at sx1
              rw [List.drop_append_of_le_length (by omega), List.drop_of_length_le (by omega)] at sx2
              simp only [List.nil_append] at sx2
              rw [← e2] at sx2
              have p1 := run_part_flat w hf hc.1 xs.toArray (j * l'.length) (by simp; omega)
              simp only at p1
              have p2 := check_flat em d n _ _ hf _ sx1
              have p3 := ih (j + 1) (by rw [Nat.add_mul, e2]; omega) sx2
              rw [range'_succ']
              simp only [List.forIn_cons, Sem.run_bind, run_sizeOf w hi, Result.andThen_ok, hc.1, p1, p2, Sem.run_pure]
              exact p3
          rw [key len 0 (by simp [lx]) (by rw [Nat.zero_mul, List.drop_zero, List.take_of_length_le (by omega)]; exact sx)]
          simp
        · cases h
    · cases h
theorem bits_flat : ∀ {l : List CK} {xs : List Value}, shp l xs = true → (xs.zip xs).all (fun (x, y) => Instr.sameBits 9999 x y) = true
  | [], [], _ => rfl
  | k :: l, x :: xs, h => by
    obtain ⟨h1, h2⟩ := Bool.and_eq_true_iff.1 h
    simp only [List.zip_cons_cons, List.all_cons, bits_flat h2, Bool.and_true]
    cases k <;> cases x <;> simp [shp1] at h1 <;> simp [Instr.sameBits] <;> simp [beq_toListBytes]
  | [], _ :: _, h => by cases h
  | _ :: _, [], h => by cases h
theorem keyEq_flat {κ : Type} [DecidableEq κ] {K : TypeId} {l : List CK} {g : κ → List Value} (h : flatA P K = some l) (hs : ∀ k, shp l (g k) = true) (hg : ∀ k k', eqcs (g k) (g k') = decide (k = k')) : KeyEq P K (fun k => .agg (g k).toArray) where
  find := by
    intro k es m w he
    have hwide : (match P.underlying K with | some (.array _ _) | some (.struct _) => true | _ => false) = true := by
      unfold flatA at h
      split at h
      · rename_i ha
        unfold aggT at ha
        split at ha <;> simp_all
      · cases h
    have e0 : (Instr.findKey K (.agg (g k).toArray) es).run P w = (Instr.findAsking K (.agg (g k).toArray) es).run P w := by
      cases hu : P.underlying K with
      | none => rw [hu] at hwide; cases hwide
      | some d =>
        have hn : Instr.findNow d (.agg (g k).toArray) es 0 = none ∨ es = [] := by
          cases es with
          | nil => right; rfl
          | cons e es =>
            left
            cases d <;> simp [Instr.findNow, Instr.sameNow]
        unfold Instr.findKey
        simp only [Sem.run_bind, run_underlying hu, Result.andThen_ok]
        rcases hn with hn | rfl
        · rw [hn]
        · simp [Instr.findNow, Instr.findAsking]
    rw [e0]
    have key : ∀ (es : List MapEntry) (m : List κ) (i : Nat), es.map (·.key) = m.map (fun k => Value.agg (g k).toArray) →
        (Instr.findAsking K (.agg (g k).toArray) es i).run P w = .ok ((m.findIdx? (fun x => decide (x = k))).bind fun j => (es[j]?).map fun e => (i + j, e.val)) w := by
      intro es
      induction es with
      | nil => intro m i h; cases m with
        | nil => simp [Instr.findAsking]
        | cons => simp at h
      | cons e es ih =>
        intro m i hm
        cases m with
        | nil => simp at hm
        | cons x m =>
          simp only [List.map_cons, List.cons.injEq] at hm
          have := equal_flat w h (xs := (g k).toArray) (ys := (g x).toArray) (hs k) (hs x)
          simp only [hg] at this
          simp only [Instr.findAsking, Sem.run_bind, hm.1, this, Result.andThen_ok, List.findIdx?_cons]
          by_cases hx : x = k
          · subst hx; simp
          · simp only [Ne.symm hx, decide_false, Bool.false_eq_true, if_false, ih m (i + 1) hm.2, hx]
            cases m.findIdx? (fun x => decide (x = k)) with
            | none => rfl
            | some j => simp only [Option.map_some, Option.bind_some]; congr 2; funext e; congr 1; omega
    simpa using key es m 0 he
  check := by
    intro b k w
    unfold flatA at h
    split at h
    · rename_i ha
      have := check_flat w b 9988 12 K l h (g k) (hs k)
      simpa [mkV, ha] using this
    · cases h
  same := by
    intro k w
    have e : Instr.sameBits 10000 (.agg (g k).toArray) (.agg (g k).toArray) = true := by
      show Instr.sameBits (9999 + 1) (.agg (g k).toArray) (.agg (g k).toArray) = true
      simp only [Instr.sameBits, beq_self_eq_true, Bool.true_and]
      exact bits_flat (hs k)
    unfold Instr.keyThatStays
    rw [if_pos e]
    rfl
end
end Pk
