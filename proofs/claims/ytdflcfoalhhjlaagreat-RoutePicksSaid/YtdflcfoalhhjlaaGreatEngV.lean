/-
 The engine,part V: values of flat types (their cells are numbers,bools and strings) compared; maps whose keys are such.
-/
import Derived.Test.YtdflcfoalhhjlaaGreatEngR
import Derived.DeepKeys
import Derived.Test.YtdflcfoalhhjlaaGreatEngJ
import Derived.Laws.IdiomCopy
namespace Pk
open Go
def shp1 : CK → Value → Bool
 | .int k,.int k' _ => decide (k = k')
 | .bool,.bool _ => true
 | .str,.string _ => true
 | _,_ => false
def shp : List CK → List Value → Bool
 | [],[] => true
 | k :: ks,v :: vs => shp1 k v && shp ks vs
 | _,_ => false
def eqc : Value → Value → Bool
 | .int _ a,.int _ b => a == b
 | .bool a,.bool b => a == b
 | .string a,.string b => a == b
 | _,_ => false
def eqcs : List Value → List Value → Bool
 | [],[] => true
 | x :: xs,y :: ys => eqc x y && eqcs xs ys
 | _,_ => false
theorem shp_len : ∀ {ks : List CK} {vs : List Value}, shp ks vs = true → vs.length = ks.length
 | [],[],_ => rfl
 | _ :: _,_ :: _,h => congrArg (· + 1) (shp_len (Bool.and_eq_true_iff.1 h).2)
 | [],_ :: _,h => by cases h
 | _ :: _,[],h => by cases h
theorem shp_app : ∀ {ks ls : List CK} {vs : List Value}, shp (ks ++ ls) vs = true → shp ks (vs.take ks.length) = true ∧ shp ls (vs.drop ks.length) = true
 | [],ls,vs,h => ⟨rfl,h⟩
 | k :: ks,ls,[],h => by cases h
 | k :: ks, ls, v :: vs, h => by
  obtain ⟨h1,h2⟩ := Bool.and_eq_true_iff.1 h
  obtain ⟨h3,h4⟩ := shp_app h2
  exact ⟨Bool.and_eq_true_iff.2 ⟨h1,h3⟩,h4⟩
theorem eqcs_app : ∀ (a b c d : List Value), a.length = b.length → eqcs (a ++ c) (b ++ d) = (eqcs a b && eqcs c d)
 | [],[],c,d,_ => by simp [eqcs]
 | x :: a, y :: b, c, d, h => by
  simp only [List.cons_append,eqcs,eqcs_app a b c d (by simpa using h),Bool.and_assoc]
 | [],_ :: _,_,_,h => by simp at h
 | _ :: _,[],_,_,h => by simp at h
def aggT (P : Program) (t : TypeId) : Bool := match P.underlying t with | some (.struct _) | some (.array _ _) => true | _ => false
def mkV (P : Program) (t : TypeId) (cs : List Value) : Value := if aggT P t then .agg cs.toArray else cs.headD undef
def flatQs (P : Program) (g : TypeId → Option (List CK)) : List Field → Nat → Option (List CK)
 | [],_ => some []
 | f :: fs, off => match g f.type, flatQs P g fs (off + P.cellsOf f.type) with
  | some l, some r => if f.offset == off && (P.cellsOf f.type == l.length && decide (f.name ≠ "_")) then some (l ++ r) else none
  | _,_ => none
def flatQ (P : Program) : Nat → TypeId → Option (List CK)
 | 0,_ => none
 | n + 1, t => match P.underlying t with
  | some (.int k) => some [.int k]
  | some .bool => some [.bool]
  | some .string => some [.str]
  | some (.struct ⟨fs⟩) => if P.stoodInHeld t then none else (flatQs P (flatQ P n) fs 0).bind fun l => if P.cellsOf t == l.length then some l else none
  | some (.array len e) => (flatQ P n e).bind fun l => if P.cellsOf e == l.length && P.cellsOf t == len * l.length then some (List.replicate len l).flatten else none
  | _ => none
section
variable {P : Program} (w : World)
theorem flatQ_info {n : Nat} {t : TypeId} {l : List CK} (h : flatQ P n t = some l) : ∃ i, P.info? t = some i := by
 cases n with
 | zero => cases h
 | succ n =>
  unfold flatQ at h
  cases hu : P.underlying t with
  | none => rw [hu] at h; cases h
  | some d => exact info_of_underlying hu
theorem flatQ_len : ∀ {n : Nat} {t : TypeId} {l : List CK}, flatQ P n t = some l → aggT P t = false → ∃ k, l = [k]
 | 0,_,_,h,_ => by cases h
 | n + 1, t, l, h, ha => by
  unfold flatQ at h
  unfold aggT at ha
  split at h
  ·cases h; exact ⟨_,rfl⟩
  ·cases h; exact ⟨_,rfl⟩
  ·cases h; exact ⟨_,rfl⟩
  ·rename_i hu; rw [hu] at ha; cases ha
  ·rename_i hu; rw [hu] at ha; cases ha
  ·cases h
theorem run_part_flat {n : Nat} {e : TypeId} {l : List CK} (h : flatQ P n e = some l) (hc : P.cellsOf e = l.length) (xs : Array Value) (off : Nat) (hx : off + l.length ≤ xs.size) :
  (part e xs off).run P w = .ok (mkV P e ((xs.toList.drop off).take l.length)) w := by
 obtain ⟨i,hi⟩ := flatQ_info h
 have key : (isAgg e).run P w = .ok (aggT P e) w := by
  unfold isAgg aggT
  cases n with
  | zero => cases h
  | succ n =>
   unfold flatQ at h
   cases hu : P.underlying e with
   | none => rw [hu] at h; cases h
   | some d =>
    simp only [Sem.run_bind,run_underlying hu,Result.andThen_ok]
    cases d <;> rfl
 unfold part mkV
 simp only [Sem.run_bind,key,Result.andThen_ok]
 cases ha : aggT P e with
 | true =>
  simp only [if_true,Sem.run_bind,run_sizeOf w hi,Result.andThen_ok,Sem.run_pure,hc]
  congr 2
  apply Array.ext'
  rw [Array.toList_extract]
  simp [List.extract]
 | false =>
  obtain ⟨k,rfl⟩ := flatQ_len h ha
  simp only [Bool.false_eq_true,if_false]
  have hlt : off < xs.size := by simp at hx; omega
  rw [Array.getElem?_eq_getElem hlt]
  simp only [Sem.run_pure]
  congr 1
  rw [List.drop_eq_getElem_cons (by simpa using hlt)]
  simp
theorem shp_int {k : IntKind} {x : List Value} (h : shp [.int k] x = true) : ∃ a, x = [.int k a] := by
 match x,h with
 | [v], h =>
  obtain ⟨h1,_⟩ := Bool.and_eq_true_iff.1 h
  cases v <;> simp [shp1] at h1
  subst h1
  exact ⟨_,rfl⟩
 | [],h => cases h
 | v :: u :: x,h => simp [shp] at h
theorem shp_bool {x : List Value} (h : shp [.bool] x = true) : ∃ a, x = [.bool a] := by
 match x,h with
 | [v], h =>
  obtain ⟨h1,_⟩ := Bool.and_eq_true_iff.1 h
  cases v <;> simp [shp1] at h1
  exact ⟨_,rfl⟩
 | [],h => cases h
 | v :: u :: x,h => simp [shp] at h
theorem shp_str {x : List Value} (h : shp [.str] x = true) : ∃ a, x = [.string a] := by
 match x,h with
 | [v], h =>
  obtain ⟨h1,_⟩ := Bool.and_eq_true_iff.1 h
  cases v <;> simp [shp1] at h1
  exact ⟨_,rfl⟩
 | [],h => cases h
 | v :: u :: x,h => simp [shp] at h
theorem flatQs_inv {g : TypeId → Option (List CK)} {f : Field} {fs : List Field} {off : Nat} {l : List CK} (h : flatQs P g (f :: fs) off = some l) :
  ∃ l1 r, g f.type = some l1 ∧ flatQs P g fs (off + l1.length) = some r ∧ f.offset = off ∧ P.cellsOf f.type = l1.length ∧ f.name ≠ "_" ∧ l = l1 ++ r := by
 unfold flatQs at h
 split at h
 ·rename_i l1 r h1 h2
  split at h
  ·rename_i hc
   simp only [Bool.and_eq_true,beq_iff_eq,decide_eq_true_eq] at hc
   cases h
   exact ⟨l1,r,h1,by rw [← hc.2.1]; exact h2,hc.1,hc.2.1,hc.2.2,rfl⟩
  ·cases h
 ·cases h
theorem take_drop_len {α : Type} (xs : List α) (off a b : Nat) : (xs.drop off).take (a + b) = (xs.drop off).take a ++ (xs.drop (off + a)).take b := by
 rw [List.take_add,List.drop_drop]
theorem eqFields_flat {n d : Nat} (ih : ∀ t l, flatQ P n t = some l → ∀ xs ys, shp l xs = true → shp l ys = true → (Op.equalIn d t (mkV P t xs) (mkV P t ys)).run P w = .ok (eqcs xs ys) w) (xs ys : Array Value) : ∀ (fs : List Field) (off : Nat) (l : List CK), flatQs P (flatQ P n) fs off = some l →
  off + l.length ≤ xs.size → off + l.length ≤ ys.size → shp l ((xs.toList.drop off).take l.length) = true → shp l ((ys.toList.drop off).take l.length) = true →
  (Op.eqFields d xs ys fs).run P w = .ok (eqcs ((xs.toList.drop off).take l.length) ((ys.toList.drop off).take l.length)) w
 | [], off, l, h, _, _, _, _ => by
  cases h
  simp [Op.eqFields,eqcs]
 | f :: fs, off, l, h, hx, hy, sx, sy => by
  obtain ⟨l1,r,h1,h2,ho,hc,hn,rfl⟩ := flatQs_inv h
  simp only [List.length_append] at hx hy sx sy ⊢
  rw [take_drop_len] at sx sy ⊢
  rw [take_drop_len ys.toList]
  have tx : ((xs.toList.drop off).take l1.length).length = l1.length := by simp; omega
  have ty : ((ys.toList.drop off).take l1.length).length = l1.length := by simp; omega
  obtain ⟨sx1,sx2⟩ := shp_app sx
  obtain ⟨sy1,sy2⟩ := shp_app sy
  rw [List.take_append_of_le_length (by omega),List.take_of_length_le (by omega)] at sx1 sy1
  have ex : ((xs.toList.drop off).take l1.length ++ (xs.toList.drop (off + l1.length)).take r.length).drop l1.length = (xs.toList.drop (off + l1.length)).take r.length := by
   rw [List.drop_append_of_le_length (by omega),List.drop_of_length_le (by omega)]; rfl
  have ey : ((ys.toList.drop off).take l1.length ++ (ys.toList.drop (off + l1.length)).take r.length).drop l1.length = (ys.toList.drop (off + l1.length)).take r.length := by
   rw [List.drop_append_of_le_length (by omega),List.drop_of_length_le (by omega)]; rfl
  rw [ex] at sx2
  rw [ey] at sy2
  have p1 := run_part_flat w h1 hc xs off (by omega)
  have p2 := run_part_flat w h1 hc ys off (by omega)
  have p3 := ih _ _ h1 _ _ sx1 sy1
  have p4 := eqFields_flat ih xs ys fs _ r h2 (by omega) (by omega) sx2 sy2
  rw [eqcs_app _ _ _ _ (by omega)]
  simp only [Op.eqFields,hn,ne_eq,not_false_eq_true,if_true,Sem.run_bind,ho,p1,p2,p3,Result.andThen_ok]
  cases eqcs (List.take l1.length (List.drop off xs.toList)) (List.take l1.length (List.drop off ys.toList)) with
  | true => simp [p4]
  | false => simp
theorem range'_succ' (k n : Nat) : List.range' k (n + 1) = k :: List.range' (k + 1) n := rfl
theorem eqItems_flat {n d : Nat} {e : TypeId} {l : List CK} (he : flatQ P n e = some l) (hc : P.cellsOf e = l.length) (ih : ∀ xs ys, shp l xs = true → shp l ys = true → (Op.equalIn d e (mkV P e xs) (mkV P e ys)).run P w = .ok (eqcs xs ys) w) (xs ys : Array Value) : ∀ (k j : Nat),
  (j + k) * l.length ≤ xs.size → (j + k) * l.length ≤ ys.size → shp (List.replicate k l).flatten ((xs.toList.drop (j * l.length)).take (k * l.length)) = true → shp (List.replicate k l).flatten ((ys.toList.drop (j * l.length)).take (k * l.length)) = true →
  (Op.eqItems d e (P.cellsOf e) xs ys (List.range' j k)).run P w = .ok (eqcs ((xs.toList.drop (j * l.length)).take (k * l.length)) ((ys.toList.drop (j * l.length)).take (k * l.length))) w
 | 0,j,_,_,_,_ => by simp [Op.eqItems,eqcs]
 | k + 1, j, hx, hy, sx, sy => by
  have e1 : (k + 1) * l.length = l.length + k * l.length := by rw [Nat.succ_mul]; omega
  have e2 : (j + 1) * l.length = j * l.length + l.length := Nat.succ_mul _ _
  have e3 : (j + (k + 1)) * l.length = j * l.length + (l.length + k * l.length) := by rw [Nat.add_mul,e1]
  rw [e3] at hx hy
  rw [e1,take_drop_len,List.replicate_succ,List.flatten_cons] at sx sy
  rw [e1,take_drop_len,take_drop_len ys.toList]
  have tx : ((xs.toList.drop (j * l.length)).take l.length).length = l.length := by simp; omega
  have ty : ((ys.toList.drop (j * l.length)).take l.length).length = l.length := by simp; omega
  obtain ⟨sx1,sx2⟩ := shp_app sx
  obtain ⟨sy1,sy2⟩ := shp_app sy
  rw [List.take_append_of_le_length (by omega),List.take_of_length_le (by omega)] at sx1 sy1
  rw [List.drop_append_of_le_length (by omega),List.drop_of_length_le (by omega)] at sx2 sy2
  simp only [List.nil_append] at sx2 sy2
  rw [← e2] at sx2 sy2 ⊢
  have p1 := run_part_flat w he hc xs (j * l.length) (by omega)
  have p2 := run_part_flat w he hc ys (j * l.length) (by omega)
  have p3 := ih _ _ sx1 sy1
  have p4 := eqItems_flat he hc ih xs ys k (j + 1) (by rw [Nat.add_mul,e2]; omega) (by rw [Nat.add_mul,e2]; omega) sx2 sy2
  rw [eqcs_app _ _ _ _ (by omega),range'_succ']
  simp only [Op.eqItems,Sem.run_bind,hc,p1,p2,p3,Result.andThen_ok]
  rw [hc] at p4
  cases eqcs (List.take l.length (List.drop (j * l.length) xs.toList)) (List.take l.length (List.drop (j * l.length) ys.toList)) with
  | true => simp [p4]
  | false => simp
theorem flat_rep (l : List CK) : ∀ n, (List.replicate n l).flatten.length = n * l.length
 | 0 => by simp
 | n + 1 => by rw [List.replicate_succ,List.flatten_cons,List.length_append,flat_rep l n,Nat.succ_mul]; omega
theorem equalIn_flat (d : Nat) : ∀ (n : Nat) (t : TypeId) (l : List CK), flatQ P n t = some l → ∀ xs ys, shp l xs = true → shp l ys = true → (Op.equalIn (d + n) t (mkV P t xs) (mkV P t ys)).run P w = .ok (eqcs xs ys) w
 | 0,_,_,h,_,_,_,_ => by cases h
 | n + 1, t, l, h, xs, ys, sx, sy => by
  unfold flatQ at h
  rw [show d + (n + 1) = (d + n) + 1 from rfl]
  split at h
  ·rename_i k hu
   cases h
   obtain ⟨a,rfl⟩ := shp_int sx
   obtain ⟨b,rfl⟩ := shp_int sy
   simp [mkV,aggT,hu,run_equalIn_int w _ _ _ _ a b hu,eqcs,eqc]
  ·rename_i hu
   cases h
   obtain ⟨a,rfl⟩ := shp_bool sx
   obtain ⟨b,rfl⟩ := shp_bool sy
   simp [mkV,aggT,hu,run_equalIn_bool' w _ _ a b hu,eqcs,eqc]
  ·rename_i hu
   cases h
   obtain ⟨a,rfl⟩ := shp_str sx
   obtain ⟨b,rfl⟩ := shp_str sy
   simp [mkV,aggT,hu,run_equalIn_string w _ _ a b hu,eqcs,eqc,beq_toListBytes]
  ·rename_i fs hu
   split at h
   ·cases h
   ·rename_i hs
    cases hf : flatQs P (flatQ P n) fs 0 with
    | none => rw [hf] at h; cases h
    | some l' =>
     rw [hf,Option.bind_some] at h
     split at h
     ·rename_i hc
      cases h
      have lx := shp_len sx
      have ly := shp_len sy
      have hfs : P.fieldsOf t = ⟨fs⟩ := by simp [Program.fieldsOf,hu]
      have := eqFields_flat w (fun t' l' h' => equalIn_flat d n t' l' h') xs.toArray ys.toArray fs 0 l hf (by simp [lx]) (by simp [ly]) (by simpa [← lx] using sx) (by simpa [← ly] using sy)
      simp only [mkV,aggT,hu,if_true]
      rw [run_equalIn_struct w _ t _ _ (by rw [hfs]; exact hu) (by simpa using hs),hfs,this]
      simp only [List.drop_zero]
      rw [List.take_of_length_le (by omega),List.take_of_length_le (by omega)]
     ·cases h
  ·rename_i len e hu
   cases hf : flatQ P n e with
   | none => rw [hf] at h; cases h
   | some l' =>
    rw [hf,Option.bind_some] at h
    split at h
    ·rename_i hc
     simp only [Bool.and_eq_true,beq_iff_eq] at hc
     cases h
     have lx := shp_len sx
     have ly := shp_len sy
     rw [flat_rep] at lx ly
     obtain ⟨i,hi⟩ := flatQ_info hf
     have := eqItems_flat w hf hc.1 (fun xs ys h1 h2 => equalIn_flat d n e l' hf xs ys h1 h2) xs.toArray ys.toArray len 0 (by simp [lx]) (by simp [ly]) (by rw [← lx]; simpa using sx) (by rw [← ly]; simpa using sy)
     simp only [mkV,aggT,hu,if_true]
     rw [run_equalIn_array w _ _ _ hu hi,List.range_eq_range',this]
     simp only [Nat.zero_mul,List.drop_zero]
     rw [List.take_of_length_le (by omega),List.take_of_length_le (by omega)]
    ·cases h
  ·cases h
end
def flatA (P : Program) (t : TypeId) : Option (List CK) := if aggT P t then flatQ P 12 t else none
theorem equal_flat {P : Program} (w : World) {t : TypeId} {l : List CK} (h : flatA P t = some l) {xs ys : Array Value} (hx : shp l xs.toList = true) (hy : shp l ys.toList = true) :
  (Op.equal t (.agg xs) (.agg ys)).run P w = .ok (eqcs xs.toList ys.toList) w := by
 unfold flatA at h
 split at h
 ·rename_i ha
  have := equalIn_flat w 9988 12 t l h _ _ hx hy
  simpa [mkV,ha,Op.equal,Op.maxDepth] using this
 ·cases h
theorem run_eql_flat {P : Program} (w : World) {t : TypeId} {l : List CK} (h : flatA P t = some l) (xs ys : Array Value) (hx : shp l xs.toList = true) (hy : shp l ys.toList = true) :
  (binOp .eql t (.agg xs) (.agg ys)).run P w = .ok (.bool (eqcs xs.toList ys.toList)) w := by
 rw [run_eql_struct]
 have := equal_flat w h hx hy
 simp only [Op.equal,Op.maxDepth] at this
 rw [this]
 rfl
theorem run_neq_flat {P : Program} (w : World) {t : TypeId} {l : List CK} (h : flatA P t = some l) (xs ys : Array Value) (hx : shp l xs.toList = true) (hy : shp l ys.toList = true) :
  (binOp .neq t (.agg xs) (.agg ys)).run P w = .ok (.bool (!eqcs xs.toList ys.toList)) w := by
 rw [run_neq_struct]
 have := equal_flat w h hx hy
 simp only [Op.equal,Op.maxDepth] at this
 rw [this]
 rfl
section
variable {P : Program} (w : World)
theorem check_flat (em : Bool) (d : Nat) : ∀ (n : Nat) (t : TypeId) (l : List CK), flatQ P n t = some l → ∀ xs, shp l xs = true → (Instr.checkKey em (d + n) t (mkV P t xs)).run P w = .ok () w
 | 0,_,_,h,_,_ => by cases h
 | n + 1, t, l, h, xs, sx => by
  unfold flatQ at h
  rw [show d + (n + 1) = (d + n) + 1 from rfl]
  split at h
  ·rename_i k hu
   cases h
   obtain ⟨a,rfl⟩ := shp_int sx
   simp [Instr.checkKey,mkV,aggT,hu,run_underlying hu]
  ·rename_i hu
   cases h
   obtain ⟨a,rfl⟩ := shp_bool sx
   simp [Instr.checkKey,mkV,aggT,hu,run_underlying hu]
  ·rename_i hu
   cases h
   obtain ⟨a,rfl⟩ := shp_str sx
   simp [Instr.checkKey,mkV,aggT,hu,run_underlying hu]
  ·rename_i fs hu
   split at h
   ·cases h
   ·cases hf : flatQs P (flatQ P n) fs 0 with
    | none => rw [hf] at h; cases h
    | some l' =>
     rw [hf,Option.bind_some] at h
     split at h
     ·rename_i hc
      cases h
      have lx := shp_len sx
      simp only [mkV,aggT,hu,if_true,Instr.checkKey,Sem.run_bind,run_underlying hu,Result.andThen_ok]
      rw [← Array.forIn_toList]
      have key : ∀ (fs : List Field) (off : Nat) (l : List CK), flatQs P (flatQ P n) fs off = some l → off + l.length ≤ xs.length → shp l ((xs.drop off).take l.length) = true →
        (ForIn.forIn (m := Sem) fs PUnit.unit fun f _ => do
         if f.name ≠ "_" then do
          Instr.checkKey em (d + n) f.type (← part f.type xs.toArray f.offset)
          pure (ForInStep.yield PUnit.unit)
         else pure (ForInStep.yield PUnit.unit)).run P w = .ok PUnit.unit w := by
       intro fs
       induction fs with
       | nil => intro off l h _ _; simp
       | cons f fs ih =>
        intro off l h hx sx
        obtain ⟨l1,r,h1,h2,ho,hcc,hn,rfl⟩ := flatQs_inv h
        simp only [List.length_append] at hx sx
        rw [take_drop_len] at sx
        have tx : ((xs.drop off).take l1.length).length = l1.length := by simp; omega
        obtain ⟨sx1,sx2⟩ := shp_app sx
        rw [List.take_append_of_le_length (by omega),List.take_of_length_le (by omega)] at sx1
        rw [List.drop_append_of_le_length (by omega),List.drop_of_length_le (by omega)] at sx2
        simp only [List.nil_append] at sx2
        have p1 := run_part_flat w h1 hcc xs.toArray off (by simp; omega)
        simp only at p1
        have p2 := check_flat em d n _ _ h1 _ sx1
        have p3 := ih _ _ h2 (by omega) sx2
        simp only [List.forIn_cons,Sem.run_bind,hn,ne_eq,not_false_eq_true,if_true,ho,p1,Result.andThen_ok,p2,Sem.run_pure]
        exact p3
      rw [key fs 0 l hf (by omega) (by rw [List.drop_zero,List.take_of_length_le (by omega)]; exact sx)]
      simp
     ·cases h
  ·rename_i len e hu
   cases hf : flatQ P n e with
   | none => rw [hf] at h; cases h
   | some l' =>
    rw [hf,Option.bind_some] at h
    split at h
    ·rename_i hc
     simp only [Bool.and_eq_true,beq_iff_eq] at hc
     cases h
     have lx := shp_len sx
     rw [flat_rep] at lx
     obtain ⟨i,hi⟩ := flatQ_info hf
     simp only [mkV,aggT,hu,if_true,Instr.checkKey,Sem.run_bind,run_underlying hu,Result.andThen_ok]
     simp only [Std.Legacy.Range.forIn_eq_forIn_range',Std.Legacy.Range.size,Nat.sub_zero,Nat.add_one_sub_one,Nat.div_one]
     have key : ∀ (k j : Nat), (j + k) * l'.length ≤ xs.length → shp (List.replicate k l').flatten ((xs.drop (j * l'.length)).take (k * l'.length)) = true →
       (ForIn.forIn (m := Sem) (List.range' j k) PUnit.unit fun i _ => do
        Instr.checkKey em (d + n) e (← part e xs.toArray (i * (← sizeOf e)))
        pure (ForInStep.yield PUnit.unit)).run P w = .ok PUnit.unit w := by
      intro k
      induction k with
      | zero => intro j _ _; simp
      | succ k ih =>
       intro j hx sx
       have e1 : (k + 1) * l'.length = l'.length + k * l'.length := by rw [Nat.succ_mul]; omega
       have e2 : (j + 1) * l'.length = j * l'.length + l'.length := Nat.succ_mul _ _
       have e3 : (j + (k + 1)) * l'.length = j * l'.length + (l'.length + k * l'.length) := by rw [Nat.add_mul,e1]
       rw [e3] at hx
       rw [e1,take_drop_len,List.replicate_succ,List.flatten_cons] at sx
       have tx : ((xs.drop (j * l'.length)).take l'.length).length = l'.length := by simp; omega
       obtain ⟨sx1,sx2⟩ := shp_app sx
       rw [List.take_append_of_le_length (by omega),List.take_of_length_le (by omega)] at sx1
       rw [List.drop_append_of_le_length (by omega),List.drop_of_length_le (by omega)] at sx2
       simp only [List.nil_append] at sx2
       rw [← e2] at sx2
       have p1 := run_part_flat w hf hc.1 xs.toArray (j * l'.length) (by simp; omega)
       simp only at p1
       have p2 := check_flat em d n _ _ hf _ sx1
       have p3 := ih (j + 1) (by rw [Nat.add_mul,e2]; omega) sx2
       rw [range'_succ']
       simp only [List.forIn_cons,Sem.run_bind,run_sizeOf w hi,Result.andThen_ok,hc.1,p1,p2,Sem.run_pure]
       exact p3
     rw [key len 0 (by simp [lx]) (by rw [Nat.zero_mul,List.drop_zero,List.take_of_length_le (by omega)]; exact sx)]
     simp
    ·cases h
  ·cases h
theorem bits_flat : ∀ {l : List CK} {xs : List Value}, shp l xs = true → (xs.zip xs).all (fun (x, y) => Instr.sameBits 9999 x y) = true
 | [],[],_ => rfl
 | k :: l, x :: xs, h => by
  obtain ⟨h1,h2⟩ := Bool.and_eq_true_iff.1 h
  simp only [List.zip_cons_cons,List.all_cons,bits_flat h2,Bool.and_true]
  cases k <;> cases x <;> simp [shp1] at h1 <;> simp [Instr.sameBits] <;> simp [beq_toListBytes]
 | [],_ :: _,h => by cases h
 | _ :: _,[],h => by cases h
theorem keyEq_flat {κ : Type} [DecidableEq κ] {K : TypeId} {l : List CK} {g : κ → List Value} (h : flatA P K = some l) (hs : ∀ k, shp l (g k) = true) (hg : ∀ k k', eqcs (g k) (g k') = decide (k = k')) : KeyEq P K (fun k => .agg (g k).toArray) where
 find := by
  intro k es m w he
  have hwide : (match P.underlying K with | some (.array _ _) | some (.struct _) => true | _ => false) = true := by
   unfold flatA at h
   split at h
   ·rename_i ha
    unfold aggT at ha
    split at ha <;> simp_all
   ·cases h
  have e0 : (Instr.findKey K (.agg (g k).toArray) es).run P w = (Instr.findAsking K (.agg (g k).toArray) es).run P w := by
   cases hu : P.underlying K with
   | none => rw [hu] at hwide; cases hwide
   | some d =>
    have hn : Instr.findNow d (.agg (g k).toArray) es 0 = none ∨ es = [] := by
     cases es with
     | nil => right; rfl
     | cons e es =>
      left
      cases d <;> simp [Instr.findNow,Instr.sameNow]
    unfold Instr.findKey
    simp only [Sem.run_bind,run_underlying hu,Result.andThen_ok]
    rcases hn with hn | rfl
    ·rw [hn]
    ·simp [Instr.findNow,Instr.findAsking]
  rw [e0]
  have key : ∀ (es : List MapEntry) (m : List κ) (i : Nat), es.map (·.key) = m.map (fun k => Value.agg (g k).toArray) →
    (Instr.findAsking K (.agg (g k).toArray) es i).run P w = .ok ((m.findIdx? (fun x => decide (x = k))).bind fun j => (es[j]?).map fun e => (i + j,e.val)) w := by
   intro es
   induction es with
   | nil => intro m i h; cases m with
    | nil => simp [Instr.findAsking]
    | cons => simp at h
   | cons e es ih =>
    intro m i hm
    cases m with
    | nil => simp at hm
    | cons x m =>
     simp only [List.map_cons,List.cons.injEq] at hm
     have := equal_flat w h (xs := (g k).toArray) (ys := (g x).toArray) (hs k) (hs x)
     simp only [hg] at this
     simp only [Instr.findAsking,Sem.run_bind,hm.1,this,Result.andThen_ok,List.findIdx?_cons]
     by_cases hx : x = k
     ·subst hx; simp
     ·simp only [Ne.symm hx,decide_false,Bool.false_eq_true,if_false,ih m (i + 1) hm.2,hx]
      cases m.findIdx? (fun x => decide (x = k)) with
      | none => rfl
      | some j => simp only [Option.map_some,Option.bind_some]; congr 2; funext e; congr 1; omega
  simpa using key es m 0 he
 check := by
  intro b k w
  unfold flatA at h
  split at h
  ·rename_i ha
   have := check_flat w b 9988 12 K l h (g k) (hs k)
   simpa [mkV,ha] using this
  ·cases h
 same := by
  intro k w
  have e : Instr.sameBits 10000 (.agg (g k).toArray) (.agg (g k).toArray) = true := by
   show Instr.sameBits (9999 + 1) (.agg (g k).toArray) (.agg (g k).toArray) = true
   simp only [Instr.sameBits,beq_self_eq_true,Bool.true_and]
   exact bits_flat (hs k)
  unfold Instr.keyThatStays
  rw [if_pos e]
  rfl
end
end Pk
namespace Pk
open Go
section
variable {κ ν : Type} {ek : κ → Value} {ew : ν → Value} {P : Program} {w : World} {v : Value} {m : List (κ × ν)}
def MapV (ek : κ → Value) (ew : ν → Value) (w : World) (v : Value) (m : List (κ × ν)) : Prop :=
 (∃ r,v = .map (some r) ∧ MapAt ek ew w r m) ∨ (v = .map none ∧ m = [])
theorem MapAt.val {r : Nat} (h : MapAt ek ew w r m) : MapV ek ew w (.map (some r)) m := .inl ⟨r,rfl,h⟩
theorem MapV.keep {w' : World} (h : MapV ek ew w v m) (hb : ∀ r, v = .map (some r) → r < w.heap.size → w'.heap[r]? = w.heap[r]?) : MapV ek ew w' v m := by
 rcases h with ⟨r, rfl, h⟩ | h
 ·exact .inl ⟨r,rfl,h.keep (hb r rfl h.lt)⟩
 ·exact .inr h
theorem MapV.ext {w' : World} (h : MapV ek ew w v m) (he : Ext w w') : MapV ek ew w' v m := h.keep fun r _ hr => he.blk r hr
theorem MapV.agr {w' : World} {S : Nat → Prop} (h : MapV ek ew w v m) (he : Agr S w w') (hs : ∀ r,v = .map (some r) → S r) : MapV ek ew w' v m := h.keep fun r e hr => he.blk r hr (hs r e)
theorem MapV.lt (h : MapV ek ew w v m) {r : Nat} (e : v = .map (some r)) : r < w.heap.size := by
 rcases h with ⟨r', rfl, h⟩ | ⟨rfl, _⟩
 ·cases e; exact h.lt
 ·cases e
theorem MapV.nodup (h : MapV ek ew w v m) : (m.map (·.1)).Nodup := by
 rcases h with ⟨r, rfl, h⟩ | ⟨rfl, rfl⟩
 ·exact h.nodup
 ·exact List.nodup_nil
theorem MapV.lookup [DecidableEq κ] {T K E : TypeId} (h : MapV ek ew w v m) (hK : KeyEq P K ek) (hT : P.underlying T = some (.map K E)) {z : Value} (hz : (zeroValue E).run P w = .ok z w) (k : κ) (ok : Bool) :
  (Instr.lookup T v (ek k) ok).run P w = .ok (if ok then .tuple #[((mget m k).map ew).getD z,.bool (mget m k).isSome] else ((mget m k).map ew).getD z) w := by
 rcases h with ⟨r, rfl, h⟩ | ⟨rfl, rfl⟩
 ·exact h.lookup hK hT hz k ok
 ·have hu := run_und hT w
  have hc := hK.check true k w
  have hf := hK.find k [] [] w rfl
  unfold Instr.lookup
  simp only [Sem.run_bind,hu,Result.andThen_ok,Sem.run_pure,Array.isEmpty_empty,hc,hf]
  cases ok <;> simp [hz,mget]
def VIter (ek : κ → Value) (ew : ν → Value) (w : World) (b : Nat) (v : Value) (m : List (κ × ν)) (idxs : List Nat) : Prop :=
 (∃ r,v = .map (some r) ∧ MIter ek ew w b r m idxs) ∨ (v = .map none ∧ m = [] ∧ idxs = [] ∧ ∃ c s d,w.heap[b]? = some (.mapIter none c s d))
variable {b : Nat} {idxs : List Nat}
theorem VIter.keep {w' : World} (h : VIter ek ew w b v m idxs) (h1 : ∀ r, v = .map (some r) → w'.heap[r]? = w.heap[r]?) (h2 : w'.heap[b]? = w.heap[b]?) : VIter ek ew w' b v m idxs := by
 rcases h with ⟨r, rfl, h⟩ | ⟨rfl, h3, h4, c, s, d, h5⟩
 ·exact .inl ⟨r,rfl,h.keep (h1 r rfl) h2⟩
 ·exact .inr ⟨rfl,h3,h4,c,s,d,h2.trans h5⟩
theorem VIter.lt (h : VIter ek ew w b v m idxs) : (∀ r, v = .map (some r) → r < w.heap.size) ∧ b < w.heap.size := by
 rcases h with ⟨r, rfl, h⟩ | ⟨rfl, h3, h4, c, s, d, h5⟩
 ·exact ⟨fun r' e => by cases e; exact h.lt.1,h.lt.2⟩
 ·exact ⟨fun r' e => (by cases e),(Array.getElem?_eq_some_iff.1 h5).1⟩
theorem VIter.ext {w' : World} (h : VIter ek ew w b v m idxs) (he : Ext w w') : VIter ek ew w' b v m idxs := h.keep (fun r e => he.blk _ (h.lt.1 r e)) (he.blk _ h.lt.2)
theorem VIter.mod {w' : World} {S : Nat → Prop} (h : VIter ek ew w b v m idxs) (hM : Mod S w w') (h1 : ∀ r,v = .map (some r) → ¬ S r) (h2 : ¬ S b) : VIter ek ew w' b v m idxs := h.keep (fun r e => hM.blk _ (h.lt.1 r e) (h1 r e)) (hM.blk _ h.lt.2 h2)
theorem VIter.bound (h : VIter ek ew w b v m idxs) : idxs.length ≤ m.length := by
 rcases h with ⟨r, rfl, h⟩ | ⟨rfl, rfl, rfl, _⟩
 ·exact h.bound
 ·exact Nat.le_refl _
theorem MapV.range (h : MapV ek ew w v m) {T K E : TypeId} (hT : P.underlying T = some (.map K E)) :
  ∃ o,(Instr.range T v).run P w = .ok (.pointer (some ⟨w.heap.size,0,none⟩)) (w.alloc o) ∧ VIter ek ew (w.alloc o) w.heap.size v m [] := by
 rcases h with ⟨r, rfl, h⟩ | ⟨rfl, rfl⟩
 ·obtain ⟨o,h1,h2⟩ := h.range hT
  exact ⟨o,h1,.inl ⟨r,rfl,h2⟩⟩
 ·have hu := run_und hT w
  refine ⟨.mapIter none 0 #[] 0,?_,.inr ⟨rfl,rfl,rfl,_,_,_,World.alloc_heap_new w _⟩⟩
  unfold Instr.range
  simp [hu,newObj,Sem.run]
theorem VIter.next (h : VIter ek ew w b v m idxs) (ty : TypeId) :
  (idxs.Perm (List.range m.length) ∧ (Instr.next (.pointer (some ⟨b,0,none⟩)) false ty).run P w = .ok (.tuple #[.bool false]) w) ∨
  ∃ (i : Nat) (p : κ × ν) (w' : World), m[i]? = some p ∧ i ∉ idxs ∧ (Instr.next (.pointer (some ⟨b, 0, none⟩)) false ty).run P w = .ok (.tuple #[.bool true, ek p.1, ew p.2]) w' ∧ VIter ek ew w' b v m (idxs ++ [i]) ∧ Mod (· = b) w w' ∧
   (Instr.entry (.pointer (some ⟨b,0,none⟩))).run P w' = .ok (.tuple #[ek p.1,ew p.2]) w' ∧ w'.heap.size = w.heap.size := by
 rcases h with ⟨r, rfl, h⟩ | ⟨rfl, rfl, rfl, c, s, d, h5⟩
 ·rcases h.next (P := P) ty with h1 | ⟨i, p, w', h1, h2, h3, h4, h5⟩
  ·exact .inl h1
  ·exact .inr ⟨i,p,w',h1,h2,h3,.inl ⟨r,rfl,h4⟩,h5⟩
 ·left
  refine ⟨by simp,?_⟩
  have hg : (getObj b).run P w = .ok (.mapIter none c s d) w := by simp [getObj,Sem.run,h5]
  unfold Instr.next
  simp [hg]
def seenOf (m : List (κ × ν)) (idxs : List Nat) : List (κ × ν) := idxs.filterMap fun i => m[i]?
theorem seenOf_snoc {m : List (κ × ν)} {idxs : List Nat} {i : Nat} {p : κ × ν} (hp : m[i]? = some p) : seenOf m (idxs ++ [i]) = seenOf m idxs ++ [p] := by
 unfold seenOf
 rw [List.filterMap_append]
 simp [hp]
theorem seenOf_all {m : List (κ × ν)} {idxs : List Nat} (h : idxs.Perm (List.range m.length)) : (seenOf m idxs).Perm m := by
 have h2 : ∀ l : List (κ × ν), (List.range l.length).filterMap (fun i => l[i]?) = l := by
  intro l
  induction l with
  | nil => rfl
  | cons a l ih =>
   rw [List.length_cons,List.range_succ_eq_map,List.filterMap_cons]
   simp [List.filterMap_map,Function.comp_def]
   exact ih
 have := h.filterMap (fun i => m[i]?)
 rw [h2] at this
 exact this
theorem seenOf_len (m : List (κ × ν)) (idxs : List Nat) : (seenOf m idxs).length ≤ idxs.length := List.length_filterMap_le _ _
end
theorem cell_far (w : World) (b j : Nat) (h : w.heap.size ≤ b) : w.cell? ⟨b, j, none⟩ = none := by
 unfold World.cell?
 simp only [Array.getElem?_eq_none h]
@[simp] theorem cell_far1 (w : World) (j : Nat) : w.cell? ⟨w.heap.size + 1,j,none⟩ = none := cell_far w _ j (by omega)
@[simp] theorem cell_far2 (w : World) (j : Nat) : w.cell? ⟨w.heap.size + 1 + 1,j,none⟩ = none := cell_far w _ j (by omega)
@[simp] theorem cell_far3 (w : World) (j : Nat) : w.cell? ⟨w.heap.size + 1 + 1 + 1,j,none⟩ = none := cell_far w _ j (by omega)
theorem frozen_far (w : World) (b j : Nat) (h : w.heap.size ≤ b) : w.frozen? ⟨b, j, none⟩ = false := by
 unfold World.frozen?
 simp only [Array.getElem?_eq_none h]
@[simp] theorem frozen_far1 (w : World) (j : Nat) : w.frozen? ⟨w.heap.size + 1,j,none⟩ = false := frozen_far w _ j (by omega)
@[simp] theorem frozen_far2 (w : World) (j : Nat) : w.frozen? ⟨w.heap.size + 1 + 1,j,none⟩ = false := frozen_far w _ j (by omega)
@[simp] theorem frozen_far3 (w : World) (j : Nat) : w.frozen? ⟨w.heap.size + 1 + 1 + 1,j,none⟩ = false := frozen_far w _ j (by omega)
@[simp] theorem ne_far2 (n : Nat) : (n + 1 + 1 = n) = False := eq_false (by omega)
@[simp] theorem ne_far3 (n : Nat) : (n + 1 + 1 + 1 = n) = False := eq_false (by omega)
@[simp] theorem ne_far4 (n : Nat) : (n + 1 + 1 + 1 + 1 = n) = False := eq_false (by omega)
@[simp] theorem ne_far5 (n : Nat) : (n + 1 + 1 + 1 + 1 + 1 = n) = False := eq_false (by omega)
@[simp] theorem ne_far6 (n : Nat) : (n + 1 + 1 + 1 + 1 + 1 + 1 = n) = False := eq_false (by omega)
@[simp] theorem ne_far2' (n : Nat) : (n = n + 1 + 1) = False := eq_false (by omega)
@[simp] theorem ne_far3' (n : Nat) : (n = n + 1 + 1 + 1) = False := eq_false (by omega)
@[simp] theorem ne_far4' (n : Nat) : (n = n + 1 + 1 + 1 + 1) = False := eq_false (by omega)
@[simp] theorem ne_far5' (n : Nat) : (n = n + 1 + 1 + 1 + 1 + 1) = False := eq_false (by omega)
@[simp] theorem ne_far6' (n : Nat) : (n = n + 1 + 1 + 1 + 1 + 1 + 1) = False := eq_false (by omega)
theorem cells_new (w : World) (cs : Array Value) (t : TypeId) (j : Nat) : (w.alloc (.cells cs t)).cell? ⟨w.heap.size, j, none⟩ = cs[j]? := by
 have := World.alloc_heap_new w (.cells cs t)
 unfold World.cell?
 simp only [this]
 simp
end Pk
namespace Pk
section
variable {κ ν : Type} [DecidableEq κ]
theorem kget_cons (p : κ × ν) (m : List (κ × ν)) (z : κ) : mget (p :: m) z = if p.1 = z then some p.2 else mget m z := by
 unfold mget
 rw [List.find?_cons]
 by_cases h : p.1 = z <;> simp [h]
theorem kget_nil (z : κ) : mget ([] : List (κ × ν)) z = none := rfl
theorem kget_map (k : κ) (v : ν) : ∀ (m : List (κ × ν)) (z : κ), mget (m.map fun p => if p.1 = k then (k, v) else p) z = if z = k then (if (mget m k).isSome then some v else none) else mget m z
 | [],z => by simp [mget]
 | p :: m, z => by
  rw [List.map_cons,kget_cons,kget_map k v m z,kget_cons,kget_cons]
  by_cases h1 : p.1 = k
  ·rw [if_pos h1]
   by_cases h2 : z = k
   ·subst h2; simp [h1]
   ·have h3 : ¬ k = z := fun e => h2 e.symm
    have h4 : ¬ p.1 = z := fun e => h2 (e.symm.trans h1)
    simp [h2,h3,h4]
  ·rw [if_neg h1]
   by_cases h2 : z = k
   ·subst h2; simp [h1]
   ·simp [h2]
theorem kget_append (m : List (κ × ν)) (k : κ) (v : ν) (z : κ) (h : mget m k = none) : mget (m ++ [(k, v)]) z = if z = k then some v else mget m z := by
 induction m with
 | nil => simp [mget,List.find?]; by_cases h : k = z <;> simp [h,eq_comm]
 | cons p m ih =>
  rw [kget_cons] at h
  split at h
  ·cases h
  ·rename_i hp
   rw [List.cons_append,kget_cons,ih h,kget_cons]
   by_cases h1 : p.1 = z
   ·have : ¬ z = k := fun e => hp (h1.trans e)
    simp [h1,this]
   ·simp [h1]
theorem kget_mset (m : List (κ × ν)) (k : κ) (v : ν) (z : κ) : mget (mset m k v) z = if z = k then some v else mget m z := by
 unfold mset
 cases h : mget m k with
 | none => simp only [Option.isSome_none,Bool.false_eq_true,if_false]; exact kget_append m k v z h
 | some u =>
  simp only [Option.isSome_some,if_true]
  rw [kget_map,h]; rfl
theorem kset_len (m : List (κ × ν)) (k : κ) (v : ν) : (mset m k v).length = if (mget m k).isSome then m.length else m.length + 1 := by
 unfold mset; split <;> simp
theorem kget_mem {m : List (κ × ν)} {k : κ} {v : ν} (h : mget m k = some v) : (k, v) ∈ m := by
 unfold mget at h
 rw [Option.map_eq_some_iff] at h
 obtain ⟨q,h1,rfl⟩ := h
 have h2 := List.find?_some h1
 have h3 := List.mem_of_find?_eq_some h1
 simp at h2
 subst h2
 exact h3
theorem kget_none {m : List (κ × ν)} {k : κ} (h : mget m k = none) : ∀ p ∈ m, p.1 ≠ k := by
 intro p hp e
 unfold mget at h
 rw [Option.map_eq_none_iff,List.find?_eq_none] at h
 have := h p hp
 simp at this
 exact this e
theorem kget_iff {m : List (κ × ν)} (h : (m.map (·.1)).Nodup) {k : κ} {v : ν} : mget m k = some v ↔ (k, v) ∈ m := by
 refine ⟨kget_mem,fun hm => ?_⟩
 induction m with
 | nil => cases hm
 | cons p m ih =>
  rw [kget_cons]
  rw [List.map_cons,List.nodup_cons] at h
  rcases List.mem_cons.1 hm with rfl | hm
  ·simp
  ·have : p.1 ≠ k := fun e => h.1 (e ▸ List.mem_map.2 ⟨(k,v),hm,rfl⟩)
   rw [if_neg this]
   exact ih h.2 hm
theorem kset_keys (m : List (κ × ν)) (k : κ) (v : ν) : (mset m k v).map (·.1) = if (mget m k).isSome then m.map (·.1) else m.map (·.1) ++ [k] := by
 unfold mset
 split
 ·rw [List.map_map]
  refine List.map_congr_left fun p _ => ?_
  simp only [Function.comp]
  split
  ·rename_i h; exact h.symm
  ·rfl
 ·simp
theorem kset_nodup {m : List (κ × ν)} (h : (m.map (·.1)).Nodup) (k : κ) (v : ν) : ((mset m k v).map (·.1)).Nodup := by
 rw [kset_keys]
 cases hg : mget m k with
 | some u => simpa using h
 | none =>
  simp only [Option.isSome_none,Bool.false_eq_true,if_false]
  rw [List.nodup_append]
  refine ⟨h,by simp,fun a ha b hb => ?_⟩
  simp at hb
  subst hb
  obtain ⟨p,hp,rfl⟩ := List.mem_map.1 ha
  exact kget_none hg p hp
theorem kset_mem {m : List (κ × ν)} {k : κ} {v : ν} {p : κ × ν} (h : p ∈ mset m k v) : p = (k, v) ∨ p ∈ m ∧ p.1 ≠ k := by
 unfold mset at h
 split at h
 ·obtain ⟨q,hq,rfl⟩ := List.mem_map.1 h
  split
  ·exact .inl rfl
  ·rename_i hn; exact .inr ⟨hq,hn⟩
 ·rename_i hn
  rcases List.mem_append.1 h with h | h
  ·right
   refine ⟨h,kget_none (k := k) ?_ p h⟩
   cases hg : mget m k with
   | none => rfl
   | some u => simp [hg] at hn
  ·simp at h; exact .inl h
theorem kset_map {β : Type} {m : List (κ × ν)} (hn : (m.map (·.1)).Nodup) {k : κ} {u v : ν} (h : mget m k = some u) (f : κ × ν → β) (hf : f (k, v) = f (k, u)) : (mset m k v).map f = m.map f := by
 unfold mset
 rw [h]
 simp only [Option.isSome_some,if_true]
 rw [List.map_map]
 refine List.map_congr_left fun p hp => ?_
 simp only [Function.comp]
 split
 ·rename_i e
  have : mget m p.1 = some p.2 := (kget_iff hn).2 hp
  rw [e,h] at this
  cases this
  rw [hf,← e]
 ·rfl
def tot (g : ν → Nat) (m : List (κ × ν)) : Nat := (m.map (fun p => g p.2)).sum
theorem tot_set (g : ν → Nat) {m : List (κ × ν)} (hn : (m.map (·.1)).Nodup) (k : κ) (v : ν) : tot g (mset m k v) + (match mget m k with | some u => g u | none => 0) = tot g m + g v := by
 cases hg : mget m k with
 | none =>
  unfold mset tot
  rw [hg]
  simp
 | some u =>
  unfold mset tot
  rw [hg]
  simp only [Option.isSome_some,if_true]
  induction m with
  | nil => cases hg
  | cons p m ih =>
   rw [List.map_cons,List.nodup_cons] at hn
   rw [kget_cons] at hg
   simp only [List.map_cons,List.sum_cons]
   by_cases hp : p.1 = k
   ·rw [if_pos hp] at hg
    cases hg
    have e : m.map (fun p => if p.1 = k then (k, v) else p) = m := by
     conv => rhs; rw [← List.map_id m]
     refine List.map_congr_left fun q hq => ?_
     rw [if_neg]
     ·rfl
     ·exact fun e => hn.1 (hp.trans e.symm ▸ List.mem_map.2 ⟨q,hq,rfl⟩)
    rw [e,if_pos hp]
    simp only; omega
   ·rw [if_neg hp] at hg ⊢
    have := ih hn.2 hg
    omega
end
open Go
theorem cell_setCell (w : World) (b i b' j : Nat) (v : Value) : (w.setCell ⟨b, i, none⟩ v).cell? ⟨b', j, none⟩ = if b' = b ∧ j = i then (w.cell? ⟨b, i, none⟩).map (fun _ => v) else w.cell? ⟨b', j, none⟩ := by
 by_cases h : b' = b ∧ j = i
 ·obtain ⟨rfl,rfl⟩ := h
  rw [if_pos ⟨rfl,rfl⟩]
  cases hc : w.cell? ⟨b',j,none⟩ with
  | some u => exact World.cell?_setCell_same _ _ _ hc
  | none =>
   unfold World.cell? at hc ⊢
   unfold World.setCell
   simp only [Array.getElem?_modify,if_true]
   cases ho : w.heap[b']? with
   | none => simp
   | some o =>
    rw [ho] at hc
    cases o <;> simp_all
 ·rw [if_neg h]
  exact World.cell?_setCell_other _ _ _ _ (by simp only [ne_eq,Addr.mk.injEq,and_true]; exact fun e => h ⟨e.1.symm,e.2.symm⟩)
end Pk
namespace Pk
open Go
theorem beq_dec (a b : Int) : (a == b) = decide (a = b) := by
 by_cases h : a = b <;> simp [h]
theorem bne_dec (a b : Int) : (a != b) = !decide (a = b) := by
 by_cases h : a = b <;> simp [h]
section
variable {κ ν : Type} [DecidableEq κ] {P : Program} {T K E : TypeId} {ek : κ → Value} {ew : ν → Value} {w : World} {r : Nat} {m : List (κ × ν)}
end
end Pk
namespace Pk
open Go
theorem agr_any {w w' : World} (h : Mod (fun _ => True) w w') : Agr (fun _ => true = false) w w' := h.agr fun _ hi => by cases hi
theorem Mod.setC {a w : World} {b : Nat} (h : Mod (fun k => k = b) a w) (i : Nat) (v : Value) : Mod (fun k => k = b) a (w.setCell ⟨b,i,none⟩ v) := h.setCell _ _ (.inl rfl)
theorem Mod.any {w w' : World} (h : Mod (fun _ => True) w w') (p : Addr) (v : Value) : Mod (fun _ => True) w (w'.setCell p v) := h.setCell p v (.inl trivial)
section
variable {P : Program} {t : TypeId}
end
end Pk
namespace Pk
open Go
theorem Mod.agr_old {O C : Nat → Prop} {w W W' : World} (h : Mod O w W) (hag : Agr (fun k => k < w.heap.size ∨ C k) W W') : Mod O w W' :=
 ⟨hag.os.trans h.os,hag.tape.trans h.tape,hag.out.trans h.out,Nat.le_trans h.size hag.size,fun i hi hn => (hag.blk i (Nat.lt_of_lt_of_le hi h.size) (.inl hi)).trans (h.blk i hi hn)⟩
theorem WC_rangeFuncA {α : Type} {P : Program} {n : Nat} {f : Operand} {ps : List Tmp} {assign body : Code} {Q : Post} {ρ : Env} {ds : List Deferred} {w : World}
  {enc : α → List Value} {S Sp : List α → Prop} {Cap : Nat → Prop} {gf : FuncId} {first caps : Array Value} (hgv : ev ρ f = .func (.func gf) first caps) (hent : ∀ as w,(callFunc gf as).run P w = .ok (.enter gf as) w)
  (hit : Iter P (.func (.func gf) first caps) enc S Sp Cap w) (henc : ∀ x,(enc x).length = ps.length)
  (C0 : Nat → Prop) (J : (Nat → Prop) → List α → World → Prop) (Jx : Code → (Nat → Prop) → List α → World → Prop)
  (hcap : ∀ k,Cap k → k < w.heap.size ∧ ¬ C0 k) (hC0 : ∀ k,C0 k → k < w.heap.size)
  (hJ : ∀ C pre W W',J C pre W → Agr (fun k => k < w.heap.size ∨ C k) W W' → J C pre W')
  (hJx : ∀ c C pre W W',Jx c C pre W → Agr (fun k => k < w.heap.size ∨ C k) W W' → Jx c C pre W')
  (h0 : J C0 [] w)
  (A : α → Nat → Env → World → Prop) (hAs : ∀ x B ρ' W W',A x B ρ' W → Agr (fun k => B ≤ k) W W' → A x B ρ' W')
  (hassign : ∀ l x W,vc P n (some l) assign (QS (fun ρ' ds' W' => ds' = [] ∧ Ext W W' ∧ A x W.heap.size ρ' W') (fun _ _ _ _ => False)) (setsE ρ ps (enc x)) [] W)
  (hbody : ∀ l C pre x B ρ' W,Sp (pre ++ [x]) → J C pre W → w.heap.size ≤ l → l < B → ¬ C l → B ≤ W.heap.size → A x B ρ' W → vc P n (some l) body (QR J Jx C (pre ++ [x]) W) ρ' [] W)
  (hdone : ∀ C xs W,S xs → J C xs W → W.heap[w.heap.size]? = some (.deferred (some [])) → Q .normal ρ ({ target := .collected w.heap.size,args := #[] } :: ds) W)
  (hstop : ∀ c C pre W,Sp pre → Jx c C pre W → W.heap[w.heap.size]? = some (.deferred (some [])) → QC Q c ρ ({ target := .collected w.heap.size,args := #[] } :: ds) W) :
  WC P n none (.rangeFunc f ps.toArray assign body) Q ρ ds w := by
 intro hok tmps hA
 have hok1 := Bool.and_eq_true_iff.1 hok
 have hok2 := Bool.and_eq_true_iff.1 hok1.2
 have hok3 := Bool.and_eq_true_iff.1 hok2.2
 have hps : ∀ p ∈ ps,p < n := fun p hp => by simpa using List.all_eq_true.1 hok2.1 p hp
 refine wpIn_rangeFunc ?_
 intro fn _
 obtain ⟨rec,hrec⟩ : ∃ rec : LoopState → Option Code → Loop,rec = fun st pe => { state := st,pending := pe,fn,tmps := tmps,params := ps.toArray,assign,body,defers := w.heap.size } := ⟨_,rfl⟩
 obtain ⟨W1,hW1⟩ : ∃ W1,(w.alloc (.deferred (some []))).alloc (.loop (rec .ready none)) = W1 := ⟨_,rfl⟩
 have hs1 : W1.heap.size = w.heap.size + 2 := by rw [← hW1]; simp
 have hL1 : W1.heap[w.heap.size + 1]? = some (.loop (rec .ready none)) := by
  rw [← hW1]; have := World.alloc_heap_new (w.alloc (.deferred (some []))) (.loop (rec .ready none)); rwa [World.size_alloc] at this
 have hD1 : W1.heap[w.heap.size]? = some (.deferred (some [])) := by
  rw [← hW1]; exact (Go.RowKit.Below.heap_alloc _ _ _ (by simp)).trans (World.alloc_heap_new w _)
 have hx1 : Ext w W1 := by rw [← hW1]; exact ((Ext.refl w).alloc _).alloc _
 have hg : ev ρ f = (Act.mk tmps ds).eval f := (eval_eq hA hok1.1).symm
 let l := w.heap.size + 1
 let D := w.heap.size
 let J' : (Nat → Prop) → List α → World → Prop := fun C pre W => ∃ C1,J C1 pre W ∧ (∀ k,C k ↔ C1 k ∨ k = l) ∧ ¬ C1 l ∧ ¬ C1 D ∧ W.heap[l]? = some (.loop (rec .ready none)) ∧ W.heap[D]? = some (.deferred (some []))
 let Jx' : (Nat → Prop) → List α → World → Prop := fun C pre W => ∃ C1 c,Jx c C1 pre W ∧ (∀ k,C k ↔ C1 k ∨ k = l) ∧ ¬ C1 l ∧ W.heap[l]? = some (.loop (rec .done (some c))) ∧ W.heap[D]? = some (.deferred (some []))
 have hcall := hit (.func (.yield l) #[] #[]) (fun k => C0 k ∨ k = l) J' Jx' W1 hx1.agr
  (fun k hk => ⟨(hcap k hk).1,fun h => h.elim (hcap k hk).2 (fun e => by have := (hcap k hk).1; simp only [l] at e; omega)⟩)
  (fun k hk => by
   rcases hk with hk | hk
   ·have := hC0 k hk; omega
   ·simp only [l] at hk; omega) ?_ ?_ ?_ ?_
 case refine_1 =>
  rintro C pre Wa Wb ⟨C1,hj,hC,hl,hd,h1,h2⟩ hag
  refine ⟨C1,hJ _ _ _ _ hj (hag.weaken ?_),hC,hl,hd,hag.obj h1 (.inl (by simp only [l]; omega)),hag.obj h2 (.inl (by simp only [D]; omega))⟩
  rintro i (hi | hi)
  ·exact .inl (by omega)
  ·exact .inr ((hC i).2 (.inl hi))
 case refine_2 =>
  rintro C pre Wa Wb ⟨C1,c,hj,hC,hnl,h1,h2⟩ hag
  refine ⟨C1,c,hJx _ _ _ _ _ hj (hag.weaken ?_),hC,hnl,hag.obj h1 (.inl (by simp only [l]; omega)),hag.obj h2 (.inl (by simp only [D]; omega))⟩
  rintro i (hi | hi)
  ·exact .inl (by omega)
  ·exact .inr ((hC i).2 (.inl hi))
 case refine_3 =>
  rintro C pre x W hsp ⟨C1,hj,hC,hnl,hnd,hl,hd⟩
  have hlt : l < W.heap.size := (Array.getElem?_eq_some_iff.1 hl).1
  have hy := run_yield (P := P) (args := (enc x).toArray) hl (by rw [hrec]; simpa using henc x)
  rw [hrec] at hy
  show YD P l ([] ++ enc x) W _
  unfold YD
  rw [List.nil_append,hy]
  have hround : RoundIn (FR none) 0 P l fn ((ps.toArray.zip (enc x).toArray).foldl (fun tmps (t, a) => tmps.setIfInBounds t a) tmps) assign body W (fun e W' =>
    (e = .returned (.bool true) ∧ ∃ C',J' C' (pre ++ [x]) W' ∧ Own C C' W W') ∨ (e = .returned (.bool false) ∧ ∃ C',Jx' C' (pre ++ [x]) W' ∧ Own C C' W W')) := by
   refine roundIn_of_wpIn trivial ?_
   have hAx : Ag n ((ps.toArray.zip (enc x).toArray).foldl (fun tmps (t, a) => tmps.setIfInBounds t a) tmps) (setsE ρ ps (enc x)) := by
    have := Ag.sets ps (enc x) tmps ρ hA hps
    rw [← Array.foldl_toList]
    simpa using this
   refine wpIn_mono (vc_sound assign _ _ _ _ (hassign l x W) hok3.1 _ hAx) ?_
   rintro e a1 W' ⟨ρ',hA',hq⟩
   cases e with
   | normal =>
    obtain ⟨hds,hEx,hAx'⟩ := hq
    have hlB := hlt
    have hsB := hEx.size
    have hlA : W'.heap[l]? = some (.loop (rec .ready none)) := hEx.obj hl
    have hdA : W'.heap[D]? = some (.deferred (some [])) := hEx.obj hd
    have hltA : l < W'.heap.size := (Array.getElem?_eq_some_iff.1 hlA).1
    obtain ⟨W2,hW2⟩ : ∃ W2,W2 = W'.putObj l (.loop { rec .ready none with state := .busy }) := ⟨_,rfl⟩
    refine ⟨W2,by rw [hW2]; exact run_beginRound hlA (by rw [hrec]),?_⟩
    have hl2 : W2.heap[l]? = some (.loop { rec .ready none with state := .busy }) := by rw [hW2]; exact World.putObj_heap_same hltA
    have hd2 : W2.heap[D]? = some (.deferred (some [])) := by rw [hW2]; exact (World.putObj_heap_other (by simp only [l,D]; omega)).trans hdA
    have hj2 : J C1 pre W2 := hJ _ _ _ _ (hJ _ _ _ _ hj hEx.agr) (by
     rw [hW2]
     refine Agr.putObj _ ?_
     rintro (h | h)
     ·simp only [l] at h; omega
     ·exact hnl h)
    have hm2 : Mod (· = l) W' W2 := by rw [hW2]; exact Mod.putObj _ _
    have hs2 : W2.heap.size = W'.heap.size := by rw [hW2]; simp
    have hA2 : A x W.heap.size ρ' W2 := hAs _ _ _ _ _ hAx' (by rw [hW2]; exact Agr.putObj _ (by omega))
    have hb := hbody l C1 pre x W.heap.size ρ' W2 hsp hj2 (by simp only [l]; omega) hlt hnl (by rw [hs2]; exact hsB) hA2
    have hwp := vc_sound body _ _ _ _ hb hok3.2 _ hA'
    have ha1 : a1 = ⟨a1.tmps,[]⟩ := by cases a1; simp_all
    rw [ha1]
    refine wpIn_mono hwp ?_
    rintro e a3 W3 ⟨ρ3,hA3,hq3⟩
    have fin : ∀ (jump : Option Code) (C' : Nat → Prop), Own C1 C' W2 W3 →
      ∃ W4, (Instr.endRound l jump).run P W3 = .ok (.bool jump.isNone) W4 ∧ W4 = W3.putObj l (.loop (rec (if jump.isNone then .ready else .done) jump)) ∧ W4.heap[l]? = some (.loop (rec (if jump.isNone then .ready else .done) jump)) ∧
       W4.heap[D]? = some (.deferred (some [])) ∧ ¬ C' l ∧ ¬ C' D ∧ Own C (fun k => C' k ∨ k = l) W W4 := by
     intro jump C' hown
     have hl3 : W3.heap[l]? = some (.loop { rec .ready none with state := .busy }) := hown.mod.obj hl2 hnl
     have hd3 : W3.heap[D]? = some (.deferred (some [])) := hown.mod.obj hd2 hnd
     have hlt3 : l < W3.heap.size := (Array.getElem?_eq_some_iff.1 hl3).1
     have hr := run_endRound (P := P) jump hl3
     have hDl : D < W2.heap.size := (Array.getElem?_eq_some_iff.1 hd2).1
     refine ⟨W3.putObj l (.loop (rec (if jump.isNone then .ready else .done) jump)), ?_, rfl, World.putObj_heap_same hlt3, (World.putObj_heap_other (by simp only [l, D]; omega)).trans hd3, ?_, ?_, ?_⟩
     ·rw [hr,hrec]
     ·intro h; rcases hown.own _ h with h | h
      ·exact hnl h
      ·omega
     ·intro h; rcases hown.own _ h with h | h
      ·exact hnd h
      ·omega
     ·refine ⟨?_, ?_, ?_⟩
      ·have m1 : Mod C W W2 := hEx.mod.trans (hm2.weaken (fun i e => (hC i).2 (.inr e)))
       have m2 : Mod C W2 W3 := hown.mod.weaken (fun i h => (hC i).2 (.inl h))
       exact (m1.trans m2).trans ((Mod.putObj _ _).weaken (fun i e => (hC i).2 (.inr e)))
      ·rintro k (h | h)
       ·rcases hown.own k h with h | h
        ·exact .inl ((hC k).2 (.inl h))
        ·exact .inr (by omega)
       ·exact .inl ((hC k).2 (.inr h))
      ·rintro k (h | h)
       ·rcases hown.lt k h with h | h
        ·exact .inl ((hC k).2 (.inl h))
        ·exact .inr (by simpa using h)
       ·exact .inl ((hC k).2 (.inr h))
    have stab : ∀ (C' : Nat → Prop) (W4 : World) (o : Obj), W4 = W3.putObj l o → ¬ C' l → Agr (fun k => k < w.heap.size ∨ C' k) W3 W4 := by
     intro C' W4 o e hn
     rw [e]
     refine Agr.putObj _ ?_
     rintro (h | h)
     ·simp only [l] at h; omega
     ·exact hn h
    cases e with
    | normal =>
     obtain ⟨-,C',hj3,hown⟩ := hq3
     obtain ⟨W4,hr,e4,hl4,hd4,hn1,hn2,ho⟩ := fin none C' hown
     exact ⟨_,W4,hr,.inl ⟨rfl,_,⟨C',hJ _ _ _ _ hj3 (stab C' W4 _ e4 hn1),fun k => Iff.rfl,hn1,hn2,hl4,hd4⟩,ho⟩⟩
    | ret =>
     obtain ⟨-,C',hj3,hown⟩ := hq3
     obtain ⟨W4,hr,e4,hl4,hd4,hn1,hn2,ho⟩ := fin (some .ret) C' hown
     exact ⟨_,W4,hr,.inr ⟨rfl,_,⟨C',.ret,hJx _ _ _ _ _ hj3 (stab C' W4 _ e4 hn1),fun k => Iff.rfl,hn1,hl4,hd4⟩,ho⟩⟩
    | exit id =>
     obtain ⟨-,C',hj3,hown⟩ := hq3
     obtain ⟨W4,hr,e4,hl4,hd4,hn1,hn2,ho⟩ := fin (some (.exit id)) C' hown
     exact ⟨_,W4,hr,.inr ⟨rfl,_,⟨C',.exit id,hJx _ _ _ _ _ hj3 (stab C' W4 _ e4 hn1),fun k => Iff.rfl,hn1,hl4,hd4⟩,ho⟩⟩
    | goto t =>
     obtain ⟨-,C',hj3,hown⟩ := hq3
     obtain ⟨W4,hr,e4,hl4,hd4,hn1,hn2,ho⟩ := fin (some (.goto t)) C' hown
     exact ⟨_,W4,hr,.inr ⟨rfl,_,⟨C',.goto t,hJx _ _ _ _ _ hj3 (stab C' W4 _ e4 hn1),fun k => Iff.rfl,hn1,hl4,hd4⟩,ho⟩⟩
    | panic ch => exact hq3.elim
    | outgrown => exact hq3.elim
   | _ => exact hq.elim
  exact hround
 case refine_4 =>
  refine ⟨C0, hJ _ _ _ _ h0 hx1.agr, fun k => Iff.rfl, ?_, ?_, hL1, hD1⟩
  ·intro h; have := hC0 _ h; simp only [l] at this; omega
  ·intro h; have := hC0 _ h; simp only [D] at this; omega
 have fin : ∀ e W', ((∃ v, e = .returned v) ∧ ∃ C', ((∃ xs, S xs ∧ J' C' xs W') ∨ (∃ pre, Sp pre ∧ Jx' C' pre W'))) →
   rangePost (FR none) 0 P l (fun e a w' => ∃ ρ',Ag n a.tmps ρ' ∧ Q e ρ' a.defers w') ⟨tmps,{ target := .collected D,args := #[] } :: ds⟩ e W' := by
  rintro e W' ⟨⟨v, rfl⟩, C', (⟨xs, hS, C1, hj, -, hn1, hn2, hl, hd⟩ | ⟨pre, hS, C1, c, hj, -, hn1, hl, hd⟩)⟩
  ·have hr := run_endLoop (P := P) hl (by rw [hrec]; simp)
   rw [hrec] at hr
   refine ⟨none,_,hr,ρ,hA,hdone C1 xs _ hS (hJ _ _ _ _ hj (Agr.putObj _ ?_)) ((World.putObj_heap_other (by simp only [l]; omega)).trans hd)⟩
   rintro (h | h)
   ·simp only [l] at h; omega
   ·exact hn1 h
  ·have hr := run_endLoop (P := P) hl (by rw [hrec]; simp)
   rw [hrec] at hr
   refine ⟨some c,_,hr,QC_sound hA (hstop c C1 pre _ hS (hJx _ _ _ _ _ hj (Agr.putObj _ ?_)) ((World.putObj_heap_other (by simp only [l]; omega)).trans hd))⟩
   rintro (h | h)
   ·simp only [l] at h; omega
   ·exact hn1 h
 have hcall' : FN P gf (first.toList ++ ([.func (.yield l) #[] #[]] ++ caps.toList)) W1 _ := hcall
 unfold FN at hcall'
 rw [hent] at hcall'
 refine ⟨l, [{ target := .collected D, args := #[] }], W1, { target := .fn (.func gf) caps, args := first ++ #[Value.func (.yield l) #[] #[]] }, W1, gf, (first.toList ++ ([Value.func (.yield l) #[] #[]] ++ caps.toList)).toArray, W1, ?_, ?_, fun _ _ => trivial, ?_, fun h => by simp [FR] at h, ?_⟩
 ·rw [← hW1,hrec]; exact run_enterLoop_outer _ _ _ _ _
 ·have : (Act.mk tmps ds).eval f = .func (.func gf) first caps := hg.symm.trans hgv
  simp only [resolve,this,Deferred.ofValue]
  simp [Act.eval]
 ·have e0 : (first ++ #[Value.func (.yield l) #[] #[]] ++ caps) = (first.toList ++ ([Value.func (.yield l) #[] #[]] ++ caps.toList)).toArray := by apply Array.ext'; simp
  simp only [invoke]
  rw [e0]; exact hent _ _
 ·exact callsIn_FR (hcall'.mono fun e W' h => fin e W' h)
end Pk
namespace Pk
open Go
theorem append_fresh {P : Program} {w : World} {s : Nat} {t ty : TypeId} {v : Value} {n : Nat} {xs : List Value} {v2 : Value} {m : Nat} {ys : List Value} {e : TypeId} (hs : isS (P.underlying t) = true) (he : elemT (P.underlying t) = e) (hi : elOk (P.info? e) s = true)
  (hv : Sl w s v n xs) (hfull : slC v = n) (h2 : Sl w s v2 m ys) (h1 : ∀ u ∈ ys,u.oneCell' = true) (hb : (n + m) ≤ 1048576) (hm : 0 < m) :
  ∃ cap cur w', (Builtin.append_ #[t, t] ty #[v, v2]).run P w = .ok (.slice (some ⟨w.heap.size, 0, none⟩) (n + m) cap) w' ∧ Sl w' s (.slice (some ⟨w.heap.size, 0, none⟩) (n + m) cap) (n + m) (xs ++ ys) ∧ Ext w w' ∧
   w'.heap[w.heap.size]? = some (.cells cur e (0,0)) ∧ w'.heap.size = w.heap.size + 1 := by
 obtain ⟨v',w',hr,hsl,hE,-⟩ := append_full (ty := ty) hs he hi hv hfull h2 h1 hb
 obtain ⟨⟨i,z,hi1,hi2,hi3,hi4,hi5⟩,hsz⟩ := elOk_inv hi
 have hel := elemT_of (P := P) hs
 rw [he] at hel
 subst hel
 have hsrc := h2.src (P := P) hs h1
 rw [← hi3] at hsrc
 have hold : ∃ a, v = .slice a n n ∧ (Builtin.firstCells i.size n (.slice a n n)).run P w.drew = .ok xs.toArray w.drew := by
  rcases hv.val with ⟨c, rfl, rfl⟩ | ⟨b, o, c, rfl, hc⟩
  ·have : c = 0 := hfull
   subst this
   have : xs = [] := List.eq_nil_of_length_eq_zero (by simpa using hv.len)
   subst this
   exact ⟨none,rfl,run_firstCells_none _ _ _ _ _⟩
  ·have : c = n := hfull
   subst this
   exact ⟨_,rfl,run_firstCells_some w.drew i.size c ⟨b,o,none⟩ c c xs (by rw [hi3]; exact hv.len) (fun j u hj => by simpa [slB,slO] using hv.at_ j u hj)⟩
 obtain ⟨a,rfl,hold⟩ := hold
 have hfit : Builtin.nextslicecap (n + m) n * i.bytes ≤ 281474976710656 := growslice_fits (by omega) (by have := Nat.mul_le_mul hb hi5; omega)
 have hr2 := run_append_grow_src (P := P) w t t ty (P.elem t) i z (elem_of hs) hi1 hi2 a n n xs hold v2 m ys hsrc (by omega) (by omega) hfit
 rw [hr] at hr2
 cases hr2
 exact ⟨_,_,_,hr,hsl,hE,by simpa using World.alloc_heap_new w.drew _,by simp⟩
structure SlB (w : World) (s : Nat) (v : Value) (n : Nat) (cs : List Value) : Prop where
 len : cs.length = n * s
 val : ∃ ao c,v = .slice ao n c ∧ n ≤ c ∧ (0 < n → ∃ b o,ao = some ⟨b,o,none⟩)
 at_ : ∀ j u,cs[j]? = some u → w.cell? ⟨slB v,slO v + j,none⟩ = some u
theorem Sl.toB {w : World} {s : Nat} {v : Value} {n : Nat} {cs : List Value} (h : Sl w s v n cs) : SlB w s v n cs := by
 refine ⟨h.len,?_,h.at_⟩
 rcases h.val with ⟨c, rfl, rfl⟩ | ⟨b, o, c, rfl, hc⟩
 ·exact ⟨none,c,rfl,Nat.zero_le _,fun h => by omega⟩
 ·exact ⟨_,c,rfl,hc,fun _ => ⟨b,o,rfl⟩⟩
theorem SlB.nil (w : World) (s c : Nat) : SlB w s (.slice none 0 c) 0 [] := (Sl.nil w s c).toB
theorem SlB.toSl {w : World} {s : Nat} {v : Value} {n : Nat} {cs : List Value} (h : SlB w s v n cs) (h0 : 0 < n) : Sl w s v n cs := by
 obtain ⟨ao,c,rfl,hc,ha⟩ := h.val
 obtain ⟨b,o,rfl⟩ := ha h0
 exact ⟨h.len,.inr ⟨b,o,c,rfl,hc⟩,h.at_⟩
theorem SlB.isSlice {w : World} {s : Nat} {v : Value} {n : Nat} {cs : List Value} (h : SlB w s v n cs) : ∃ a c, v = .slice a n c := by
 obtain ⟨a,c,rfl,-⟩ := h.val
 exact ⟨a,c,rfl⟩
theorem SlB.kept {w w' : World} {s : Nat} {v : Value} {n : Nat} {cs : List Value} (h : SlB w s v n cs) (hw : cs ≠ [] → ∀ (a : Addr) (u : Value), a.block = slB v → w.cell? a = some u → w'.cell? a = some u) : SlB w' s v n cs :=
 ⟨h.len,h.val,fun j u hj => hw (fun e => by rw [e] at hj; simp at hj) _ _ rfl (h.at_ j u hj)⟩
theorem SlB.ext {w w' : World} {s : Nat} {v : Value} {n : Nat} {cs : List Value} (h : SlB w s v n cs) (he : Ext w w') : SlB w' s v n cs := h.kept fun _ _ _ _ hu => he.cell_eq hu
theorem SlB.mod {w w' : World} {s : Nat} {v : Value} {n : Nat} {cs : List Value} {S : Nat → Prop} (h : SlB w s v n cs) (he : Mod S w w') (hs : cs ≠ [] → ¬ S (slB v)) : SlB w' s v n cs :=
 h.kept fun hc a _ ha hu => he.cell hu (by rw [ha]; exact hs hc)
theorem SlB.lt {w : World} {s : Nat} {v : Value} {n : Nat} {cs : List Value} (h : SlB w s v n cs) (h0 : 0 < cs.length) : slB v < w.heap.size :=
 World.block_lt_of_cell? w _ (h.at_ 0 cs[0] (by simp [h0]))
section
variable {P : Program} {w : World} {s : Nat} {v : Value} {n : Nat} {cs : List Value} {t : TypeId}
theorem SlB.isLen (h : SlB w s v n cs) (hs : isS (P.underlying t) = true) (ty : TypeId) (w' : World) : (Builtin.len_ #[t] ty #[v]).run P w' = .ok (.int .i64 n) w' := by
 obtain ⟨ao,c,rfl,_⟩ := h.val
 exact r_len_slice P w' t ty ao n c hs
theorem SlB.index (h : SlB w s v n cs) (hs : isS (P.underlying t) = true) (k : IntKind) (i : Int) (h0 : 0 ≤ i) (h1 : i < n) (w' : World) :
  (Instr.indexAt t v (.int k i)).run P w' = ((Go.sizeOf (elemT (P.underlying t))).run P w').andThen fun n w' => .ok (.pointer (some ⟨slB v,slO v + i.toNat * n,none⟩)) w' := (h.toSl (by omega)).index hs k i h0 h1 w'
theorem SlB.sliceAll (h : SlB w s v n cs) (hs : isS (P.underlying t) = true) (k k' : IntKind) (w' : World) :
  ∃ a,(Instr.sliceAt t v none (some (.int k n)) (some (.int k' n))).run P w' = (((Go.sizeOf (elemT (P.underlying t))).run P w').andThen (fun _ w' => .ok (.slice a n n) w')) ∧ SlB w s (.slice a n n) n cs := by
 obtain ⟨ao,c,rfl,hc,ha⟩ := h.val
 by_cases h0 : n = 0
 ·subst h0
  have hcs : cs = [] := List.eq_nil_of_length_eq_zero (by simpa using h.len)
  subst hcs
  refine ⟨ao, ?_, by simp, ?_, fun _ _ h => by simp at h⟩
  ·rw [run_sliceAt_slice w' t _ _ _ _ (elem_of hs),elemT_of hs,run_slice_hm w' t ao 0 c (elem_of hs) k k' ((0 : Nat) : Int) ((0 : Nat) : Int) (by omega) (by omega) (by omega)]
   congr 1
  ·exact ⟨ao,0,rfl,Nat.le_refl _,fun h => by omega⟩
 ·obtain ⟨b,o,rfl⟩ := ha (by omega)
  refine ⟨some ⟨b,o,none⟩,?_,h.len,⟨_,n,rfl,Nat.le_refl _,fun _ => ⟨b,o,rfl⟩⟩,h.at_⟩
  rw [run_sliceAt_slice w' t _ _ _ _ (elem_of hs),elemT_of hs,run_slice_hm w' t _ n c (elem_of hs) k k' n n (by omega) (by omega) (by omega)]
  congr 1; funext a w''; simp [sliced]
theorem SlB.src (h : SlB w s v n cs) (hs : isS (P.underlying t) = true) (h1 : ∀ u ∈ cs, u.oneCell' = true) : Src P s t v n cs w := by
 obtain ⟨ao,c,hv,hc,ha⟩ := h.val
 by_cases h0 : n = 0
 ·subst h0
  have hcs : cs = [] := List.eq_nil_of_length_eq_zero (by simpa using h.len)
  subst hcs
  subst hv
  cases ao with
  | none => exact Src.ofNil w (elem_of hs) c
  | some a => exact ⟨.inl ⟨_,elem_of hs⟩,fun _ => rfl,run_firstCells_some w s 0 a 0 c [] (by simp) (by simp),run_firstCells_some w.drew s 0 a 0 c [] (by simp) (by simp),by simp,fun _ h => by cases h⟩
 ·exact (h.toSl (by omega)).src hs h1
end
theorem append_freshB {P : Program} {w : World} {s : Nat} {t ty : TypeId} {a : Option Addr} {n : Nat} {xs : List Value} {v2 : Value} {m : Nat} {ys : List Value} {e : TypeId} (hs : isS (P.underlying t) = true) (he : elemT (P.underlying t) = e) (hi : elOk (P.info? e) s = true)
  (hv : SlB w s (.slice a n n) n xs) (h2 : Sl w s v2 m ys) (h1 : ∀ u ∈ ys,u.oneCell' = true) (hb : (n + m) ≤ 1048576) (hm : 0 < m) :
  ∃ cap cur w', (Builtin.append_ #[t, t] ty #[.slice a n n, v2]).run P w = .ok (.slice (some ⟨w.heap.size, 0, none⟩) (n + m) cap) w' ∧ Sl w' s (.slice (some ⟨w.heap.size, 0, none⟩) (n + m) cap) (n + m) (xs ++ ys) ∧ Ext w w' ∧
   w'.heap[w.heap.size]? = some (.cells cur e (0,0)) ∧ w'.heap.size = w.heap.size + 1 := by
 by_cases h0 : n = 0
 ·subst h0
  have hxs : xs = [] := List.eq_nil_of_length_eq_zero (by simpa using hv.len)
  subst hxs
  cases a with
  | none => exact append_fresh hs he hi (Sl.nil w s 0) rfl h2 h1 hb hm
  | some a =>
   obtain ⟨cap,cur,w1,hr,g1,g2,g3,g4⟩ := append_fresh (ty := ty) hs he hi (Sl.nil w s 0) rfl h2 h1 hb hm
   obtain ⟨⟨i,z,hi1,hi2,hi3,hi4,hi5⟩,hsz⟩ := elOk_inv hi
   have hel := elemT_of (P := P) hs
   rw [he] at hel
   subst hel
   have hsrc := h2.src (P := P) hs h1
   rw [← hi3] at hsrc
   have hfit : Builtin.nextslicecap (0 + m) 0 * i.bytes ≤ 281474976710656 := growslice_fits (by omega) (by have := Nat.mul_le_mul hb hi5; omega)
   have hr2 := run_append_grow_src (P := P) w t t ty (P.elem t) i z (elem_of hs) hi1 hi2 none 0 0 [] (run_firstCells_none _ _ _ _ _) v2 m ys hsrc (by omega) (by omega) hfit
   have hr3 := run_append_grow_src (P := P) w t t ty (P.elem t) i z (elem_of hs) hi1 hi2 (some a) 0 0 [] (run_firstCells_some w.drew i.size 0 a 0 0 [] (by simp) (by simp)) v2 m ys hsrc (by omega) (by omega) hfit
   rw [← hr2,hr] at hr3
   exact ⟨cap,cur,w1,hr3,g1,g2,g3,g4⟩
 ·exact append_fresh hs he hi (hv.toSl (by omega)) rfl h2 h1 hb hm
theorem append_ownB {P : Program} {w : World} {base s : Nat} {t ty : TypeId} {v : Value} {n : Nat} {xs : List Value} {v2 : Value} {m : Nat} {ys : List Value} {e : TypeId} (hs : isS (P.underlying t) = true) (he : elemT (P.underlying t) = e) (hi : elOk (P.info? e) s = true)
  (hown : w.ownsRow base e s v n xs) (h2 : SlB w s v2 m ys) (h1 : ∀ u ∈ ys,u.oneCell' = true) (hb : (n + m) ≤ 1048576) (hbase : base ≤ w.heap.size) :
  ∃ v' w', (Builtin.append_ #[t, t] ty #[v, v2]).run P w = .ok v' w' ∧ w'.ownsRow base e s v' (n + m) (xs ++ ys) ∧ Mod (fun k => slN v = false ∧ k = slB v) w w' ∧
   (slN v' = false → (slN v = false ∧ slB v' = slB v) ∨ w.heap.size ≤ slB v') := by
 by_cases h0 : m = 0
 ·subst h0
  have hys : ys = [] := List.eq_nil_of_length_eq_zero (by simpa using h2.len)
  subst hys
  obtain ⟨⟨i,z,hi1,hi2,hi3,hi4,hi5⟩,hsz⟩ := elOk_inv hi
  have hel := elemT_of (P := P) hs
  rw [he] at hel
  subst hel
  have hsrc := h2.src (P := P) hs h1
  rw [← hi3] at hsrc
  refine ⟨v,w,?_,by simpa using hown,Mod.refl _ _,fun h => .inl ⟨h,rfl⟩⟩
  rcases hown.2 with ⟨rfl, rfl⟩ | ⟨g, cap, cur, rfl, hb, hg, hc, _⟩
  ·exact run_append_nothing w t t ty (P.elem t) i (elem_of hs) hi1 none 0 0 (by omega) _ hsrc
  ·exact run_append_nothing w t t ty (P.elem t) i (elem_of hs) hi1 _ n cap hc _ hsrc
 ·exact append_own hs he hi hown (h2.toSl (by omega)) h1 hb hbase
end Pk
namespace Pk
open Go
set_option maxRecDepth 10000
theorem own_lt {w : World} {base e s : Nat} {v : Value} {n : Nat} {xs : List Value} (h : w.ownsRow base e s v n xs) (h0 : slN v = false) : slB v < w.heap.size := by
 obtain ⟨h1,h2⟩ := h
 rcases h2 with ⟨rfl, rfl⟩ | ⟨g, cap, cur, rfl, a1, a2, a3⟩
 ·simp [slN] at h0
 ·exact (Array.getElem?_eq_some_iff.1 a2).1
theorem own_empty {e : TypeId} {s : Nat} (W : World) (base : Nat) (h : base ≤ W.heap.size) : (W.alloc (.cells #[] e)).ownsRow base e s (.slice (some ⟨W.heap.size, 0, none⟩) 0 0) 0 [] :=
 ⟨by simp,.inr ⟨W.heap.size,0,#[],rfl,h,World.alloc_heap_new W _,Nat.le_refl _,by simp,by simp,by simp⟩⟩
theorem own_made (W : World) (cs : List Value) (t : TypeId) (s n : Nat) (h : cs.length = n * s) (hn : n ≤ 1000) (base : Nat) (hb : base ≤ W.heap.size) : (W.alloc (.cells cs.toArray t)).ownsRow base t s (.slice (some ⟨W.heap.size, 0, none⟩) n n) n cs :=
 ⟨h,.inr ⟨W.heap.size,n,cs.toArray,rfl,hb,World.alloc_heap_new W _,Nat.le_refl _,by simp [maxLen]; omega,by simp [h],by simp [← h]⟩⟩
theorem append_newB {P : Program} {w : World} {base s : Nat} {t ty : TypeId} {b m : Nat} {v2 : Value} {ys : List Value} {e : TypeId} (hs : isS (P.underlying t) = true) (he : elemT (P.underlying t) = e) (hi : elOk (P.info? e) s = true)
  (hown : w.ownsRow base e s (.slice (some ⟨b,0,none⟩) 0 0) 0 []) (h2 : SlB w s v2 m ys) (h1 : ∀ u ∈ ys,u.oneCell' = true) (hb : m ≤ 1000000) (hbase : base ≤ w.heap.size) :
  ∃ v' w',(Builtin.append_ #[t,t] ty #[.slice (some ⟨b,0,none⟩) 0 0,v2]).run P w = .ok v' w' ∧ w'.ownsRow base e s v' m ys ∧ Ext w w' := by
 obtain ⟨v',w',hr,ho,hM,-⟩ := append_ownB (ty := ty) hs he hi hown h2 h1 (by omega) hbase
 refine ⟨v',w',hr,by simpa using ho,?_⟩
 by_cases h0 : m = 0
 ·subst h0
  have hys : ys = [] := List.eq_nil_of_length_eq_zero (by simpa using h2.len)
  subst hys
  obtain ⟨⟨i,z,hi1,hi2,hi3,hi4,hi5⟩,hsz⟩ := elOk_inv hi
  have hel := elemT_of (P := P) hs
  rw [he] at hel
  subst hel
  have hsrc := h2.src (P := P) hs h1
  rw [← hi3] at hsrc
  have hn := run_append_nothing w t t ty (P.elem t) i (elem_of hs) hi1 (some ⟨b,0,none⟩) 0 0 (by omega) _ hsrc
  rw [hr] at hn
  cases hn
  exact Ext.refl _
 ·obtain ⟨v2',w2',hr2,-,hE,-⟩ := append_full (ty := ty) hs he hi (sl_of_own hown) rfl (h2.toSl (by omega)) h1 (by omega)
  rw [hr] at hr2
  cases hr2
  exact hE
theorem own_set {w : World} {base e s : Nat} {v : Value} {n : Nat} {xs : List Value} (h : w.ownsRow base e s v n xs) (j : Nat) (hj : j < xs.length) (u : Value) :
  (w.setCell ⟨slB v,slO v + j,none⟩ u).ownsRow base e s v n (xs.set j u) := by
 obtain ⟨h1,h2⟩ := h
 refine ⟨by simpa using h1,?_⟩
 rcases h2 with ⟨rfl, rfl⟩ | ⟨g, cap, cur, rfl, hb, hg, hc, hm, hs, ht⟩
 ·rw [Nat.zero_mul] at h1; omega
 ·refine .inr ⟨g, cap, cur.set! j u, rfl, hb, ?_, hc, hm, by simpa using hs, ?_⟩
  ·simpa [slB,slO] using heap_setCell_same w g j cur e u hg
  ·rw [← ht]
   simp [Array.set!,List.take_set]
def dmark (D : Nat) : Deferred := { target := .collected D,args := #[] }
theorem LV_marks {P : Program} {rs : Array ResultVar} {R : Ending → World → Prop} {ρ : Env} : ∀ (Ds : List Nat) (w : World), Ds.Nodup → (∀ D ∈ Ds, w.heap[D]? = some (.deferred (some []))) → (∀ w', Mod (· ∈ Ds) w w' → LV P rs R ρ [] .returning w') →
  LV P rs R ρ (Ds.map dmark) .returning w
 | [],w,_,_,hk => hk w (Mod.refl _ _)
 | D :: Ds, w, hn, hm, hk => by
  obtain ⟨h1,h2⟩ := List.nodup_cons.1 hn
  refine LV_mark (hm D (by simp)) (by simp) ?_
  refine LV_marks Ds _ h2 (fun E hE => ?_) fun w' hM => ?_
  ·rw [World.putObj_heap_other (fun e => h1 (by rw [← e]; exact hE))]
   exact hm E (by simp [hE])
  ·refine hk w' ?_
   exact ((Mod.putObj D _).weaken fun i hi => by simp [hi]).trans (hM.weaken fun i hi => by simp [hi])
theorem flat_at {α : Type} {s : Nat} (g : α → List Value) (hg : ∀ x, (g x).length = s) : ∀ (l : List α) (i j : Nat) (x : α), l[i]? = some x → j < s → (l.flatMap g)[i * s + j]? = (g x)[j]?
 | [],i,j,x,h,_ => by simp at h
 | a :: l, 0, j, x, h, hj => by
  simp at h; subst h
  rw [List.flatMap_cons,Nat.zero_mul,Nat.zero_add,List.getElem?_append_left (by rw [hg]; exact hj)]
 | a :: l, i + 1, j, x, h, hj => by
  have := flat_at g hg l i j x (by simpa using h) hj
  rw [List.flatMap_cons,Nat.add_mul,Nat.one_mul,List.getElem?_append_right (by rw [hg]; omega),hg]
  rw [show i * s + s + j - s = i * s + j from by omega]
  exact this
theorem flat_len {α : Type} {s : Nat} (g : α → List Value) (hg : ∀ x, (g x).length = s) (l : List α) : (l.flatMap g).length = l.length * s := by
 induction l with
 | nil => simp
 | cons a l ih => rw [List.flatMap_cons,List.length_append,hg,ih,List.length_cons,Nat.add_mul,Nat.one_mul,Nat.add_comm]
theorem flat_take {α : Type} {s : Nat} (g : α → List Value) (hg : ∀ x, (g x).length = s) : ∀ (l : List α) (k : Nat), (l.take k).flatMap g = (l.flatMap g).take (k * s)
 | [],k => by simp
 | a :: l,0 => by simp
 | a :: l, k + 1 => by
  rw [List.take_succ_cons,List.flatMap_cons,List.flatMap_cons,flat_take g hg l k,Nat.add_mul,Nat.one_mul,Nat.add_comm (k * s) s,List.take_append,hg,Nat.add_sub_cancel_left,List.take_of_length_le (l := g a) (by rw [hg]; omega)]
theorem flat_drop {α : Type} {s : Nat} (g : α → List Value) (hg : ∀ x, (g x).length = s) : ∀ (l : List α) (k : Nat), (l.drop k).flatMap g = (l.flatMap g).drop (k * s)
 | [],k => by simp
 | a :: l,0 => by simp
 | a :: l, k + 1 => by
  rw [List.drop_succ_cons,List.flatMap_cons,flat_drop g hg l k,Nat.add_mul,Nat.one_mul,Nat.add_comm (k * s) s,List.drop_append,hg,Nat.add_sub_cancel_left,List.drop_of_length_le (l := g a) (by rw [hg]; omega),List.nil_append]
noncomputable def Xf (S : Nat → Prop) : Nat → Bool := fun k => @decide (S k) (Classical.propDecidable _)
theorem Xf_f {S : Nat → Prop} {k : Nat} (h : ¬ S k) : Xf S k = false := by unfold Xf; simp [h]
theorem Xf_not {S : Nat → Prop} {k : Nat} (h : Xf S k = false) : ¬ S k := by unfold Xf at h; simpa using h
theorem Xf_agr {S : Nat → Prop} {w w' : World} (h : Mod S w w') : Agr (fun k => Xf S k = false) w w' := h.agr fun _ hk => Xf_not hk
def Blk (w : World) (b : Nat) (cs : List Value) : Prop := ∃ t,w.heap[b]? = some (.cells cs.toArray t (0,0))
theorem Blk.cell {w : World} {b : Nat} {cs : List Value} (h : Blk w b cs) (j : Nat) (u : Value) (hj : cs[j]? = some u) : w.cell? ⟨b, j, none⟩ = some u := by
 obtain ⟨t,h⟩ := h
 simp [World.cell?,h,hj]
theorem Blk.thaw {w : World} {b : Nat} {cs : List Value} (h : Blk w b cs) (j : Nat) : w.frozen? ⟨b, j, none⟩ = false := by
 obtain ⟨t,h⟩ := h
 simp [World.frozen?,h]
theorem Blk.lt {w : World} {b : Nat} {cs : List Value} (h : Blk w b cs) : b < w.heap.size := by
 obtain ⟨t,h⟩ := h
 exact (Array.getElem?_eq_some_iff.1 h).1
theorem Blk.keep {w w' : World} {b : Nat} {cs : List Value} (h : Blk w b cs) (hb : w'.heap[b]? = w.heap[b]?) : Blk w' b cs := by
 obtain ⟨t,h⟩ := h
 exact ⟨t,hb.trans h⟩
theorem Blk.ext {w w' : World} {b : Nat} {cs : List Value} (h : Blk w b cs) (he : Ext w w') : Blk w' b cs := h.keep (he.blk b h.lt)
theorem Blk.mod {w w' : World} {b : Nat} {cs : List Value} {S : Nat → Prop} (h : Blk w b cs) (he : Mod S w w') (hs : ¬ S b) : Blk w' b cs := h.keep (he.blk b h.lt hs)
theorem Blk.agr {w w' : World} {b : Nat} {cs : List Value} {S : Nat → Prop} (h : Blk w b cs) (he : Agr S w w') (hs : S b) : Blk w' b cs := h.keep (he.blk b h.lt hs)
theorem Blk.new (w : World) (cs : List Value) (t : TypeId) : Blk (w.alloc (.cells cs.toArray t)) w.heap.size cs := ⟨t,World.alloc_heap_new w _⟩
theorem Blk.set {w : World} {b : Nat} {cs : List Value} (h : Blk w b cs) (j : Nat) (u : Value) : Blk (w.setCell ⟨b, j, none⟩ u) b (cs.set j u) := by
 obtain ⟨t,h⟩ := h
 refine ⟨t,?_⟩
 have := heap_setCell_same w b j cs.toArray t u h
 simpa using this
theorem Blk.var {w : World} {b : Nat} {v : Value} (h : Blk w b [v]) : Var w b v := ⟨h.cell 0 v rfl,h.thaw 0⟩
theorem Blk.sl {w : World} {b : Nat} {cs : List Value} (h : Blk w b cs) (s n : Nat) (hn : cs.length = n * s) : Sl w s (.slice (some ⟨b, 0, none⟩) n n) n cs :=
 ⟨hn,.inr ⟨b,0,n,rfl,Nat.le_refl _⟩,fun j u hj => by simpa [slB,slO] using h.cell j u hj⟩
theorem sl_mod {w w' : World} {v : Value} {k n : Nat} {cs : List Value} {S : Nat → Prop} (h : Sl w k v n cs) (hK : Mod S w w') (hS : cs ≠ [] → ¬ S (slB v)) : Sl w' k v n cs := by
 by_cases h0 : cs = []
 ·subst h0
  exact ⟨h.len,h.val,fun j u hj => by simp at hj⟩
 ·exact h.mod hK (hS h0)
end Pk
namespace Pk
section
variable {α : Type}
end
end Pk
namespace Pk
open Go
section
variable {κ ν : Type} [DecidableEq κ]
def eqv (m m' : List (κ × ν)) : Prop := m.length = m'.length ∧ ∀ p ∈ m,mget m' p.1 = some p.2
instance [DecidableEq ν] (m m' : List (κ × ν)) : Decidable (eqv m m') := inferInstanceAs (Decidable (_ ∧ _))
end
end Pk
namespace Pk
open Go
set_option maxRecDepth 10000
def putC (w : World) (b : Nat) : Nat → List Value → World
 | _,[] => w
 | o,u :: cs => putC (w.setCell ⟨b,o,none⟩ u) b (o + 1) cs
def setL (xs : List Value) : Nat → List Value → List Value
 | _,[] => xs
 | o,u :: cs => setL (xs.set o u) (o + 1) cs
theorem setL_eq : ∀ (cs xs : List Value) (o : Nat), o + cs.length ≤ xs.length → setL xs o cs = xs.take o ++ cs ++ xs.drop (o + cs.length)
 | [],xs,o,_ => by simp [setL]
 | u :: cs, xs, o, h => by
  simp only [List.length_cons] at h
  have := setL_eq cs (xs.set o u) (o + 1) (by simp; omega)
  rw [setL,this]
  apply List.ext_getElem?
  intro k
  rw [List.drop_set_of_lt (by omega),List.length_cons,show o + (cs.length + 1) = o + 1 + cs.length by omega]
  congr 2
  have ht : List.take (o + 1) (xs.set o u) = List.take o xs ++ [u] := by
   rw [List.take_add_one,List.take_set_of_le (Nat.le_refl _),List.getElem?_set_self (by omega)]
   rfl
  rw [ht]
  simp
theorem putC_own {base e s : Nat} {v : Value} {n : Nat} : ∀ (cs : List Value) {w : World} {xs : List Value} (j : Nat), w.ownsRow base e s v n xs → j + cs.length ≤ xs.length → (putC w (slB v) (slO v + j) cs).ownsRow base e s v n (setL xs j cs)
 | [],_,_,_,h,_ => h
 | u :: cs, w, xs, j, h, hj => by
  simp only [List.length_cons] at hj
  have h1 := own_set h j (by omega) u
  have := putC_own cs (j + 1) h1 (by simp; omega)
  rw [← Nat.add_assoc] at this
  exact this
theorem putC_mod {b : Nat} : ∀ (cs : List Value) {a w : World} (o : Nat), Mod (fun k => k = b) a w → Mod (fun k => k = b) a (putC w b o cs)
 | [],_,_,_,h => h
 | _ :: cs,_,_,o,h => putC_mod cs (o + 1) (h.setCell _ _ (.inl rfl))
theorem flat_set {α : Type} {s : Nat} (g : α → List Value) (hg : ∀ x, (g x).length = s) (l : List α) (i : Nat) (hi : i < l.length) (x : α) : (l.set i x).flatMap g = setL (l.flatMap g) (i * s) (g x) := by
 have hl := flat_len g hg l
 have hm : (i + 1) * s ≤ l.length * s := Nat.mul_le_mul_right _ hi
 rw [Nat.add_mul,Nat.one_mul] at hm
 rw [setL_eq _ _ _ (by rw [hg,hl]; omega),hg,← flat_take g hg,show i * s + s = (i + 1) * s by rw [Nat.add_mul,Nat.one_mul],← flat_drop g hg,List.set_eq_take_append_cons_drop,if_pos hi,List.flatMap_append,List.flatMap_cons,List.append_assoc]
theorem own_put {w : World} {base e s : Nat} {v : Value} {α : Type} (g : α → List Value) (hg : ∀ x, (g x).length = s) {l : List α} (h : w.ownsRow base e s v l.length (l.flatMap g)) (i : Nat) (hi : i < l.length) (x : α) :
  (putC w (slB v) (slO v + i * s) (g x)).ownsRow base e s v (l.set i x).length ((l.set i x).flatMap g) := by
 have hl := flat_len g hg l
 have hm : (i + 1) * s ≤ l.length * s := Nat.mul_le_mul_right _ hi
 rw [Nat.add_mul,Nat.one_mul] at hm
 rw [flat_set g hg l i hi x,List.length_set]
 exact putC_own (g x) (i * s) h (by rw [hg,hl]; omega)
end Pk
namespace Pk
open Go
set_option maxRecDepth 10000
structure Gr (W0 w : World) (t : Nat) (cs : List Value) (e : TypeId) (s : Nat) (v : Value) (n : Nat) (xs : List Value) : Prop where
 blk : Blk w t cs
 own : w.ownsRow W0.heap.size e s v n xs
 mod : Mod (fun k => W0.heap.size ≤ k ∨ k = t) W0 w
theorem Gr.ext {W0 w w' : World} {t : Nat} {cs : List Value} {e : TypeId} {s : Nat} {v : Value} {n : Nat} {xs : List Value} (h : Gr W0 w t cs e s v n xs) (hE : Ext w w') : Gr W0 w' t cs e s v n xs :=
 ⟨h.blk.ext hE,own_ext h.own hE,h.mod.trans hE.mod⟩
end Pk
namespace Pk
open Go
def XP (ds : List Deferred) (Z : List PanicEntry → World → Prop) : Post
 | .panic ch,_,ds',w => ds' = ds ∧ Z ch w
 | _,_,_,_ => False
@[simp] theorem XP_panic (ds ds' : List Deferred) (Z : List PanicEntry → World → Prop) (ch : List PanicEntry) (ρ : Env) (w : World) : XP ds Z (.panic ch) ρ ds' w = (ds' = ds ∧ Z ch w) := rfl
def REX (P : Program) (X : Nat → Bool) (Z : List PanicEntry → World → Prop) (r : Option Nat) (ds : List Deferred) (ops : List Oper) (K : Env → World → Prop) (σ : Env) (W : World) : Option Oper → Prop
 | none => False
 | some o => GI (gw ops.toArray σ o.guard) (VO P r o (fun ρ'' ds'' w'' => ds'' = ds ∧ KR (Agr (fun k => X k = false) W w'') (K ρ'' w'')) (XP ds Z) σ ds W) (K (put σ o.dst undef) W)
def RLX (P : Program) (X Xc : Nat → Bool) (Z : List PanicEntry → World → Prop) (r : Option Nat) (ds : List Deferred) (ops : List Oper) (fs : Nat → Value → World → Prop) (T : Env → World → Prop) : Tl → Env → World → Prop
 | .Z,σ,W => T σ W
 | .F i t,σ,W => RF P Xc r ds ops (RLX P X Xc Z r ds ops fs T t) σ W (nthO ops i)
 | .C i t,σ,W => REX P Xc Z r ds ops (RLX P X Xc Z r ds ops fs T t) σ W (nthO ops i)
 | .S i t,σ,W => REX P (fun _ => true) Z r ds ops (RLX P X Xc Z r ds ops fs T t) σ W (nthO ops i)
 | .L i t,σ,W => ∀ W',Ext W W' → REX P X Z r ds ops (RLX P X Xc Z r ds ops fs T t) σ W' (nthO ops i)
 | .D i t,σ,W => RD P X r ds ops (fs i) σ W (nthO ops i) ∧ RLX P X Xc Z r ds ops fs T t σ W
 | .W i t,σ,W => ∀ v W',Ext W W' → fs i v W' → RLX P X Xc Z r ds ops fs T t (put σ (dstAt ops i) v) W'
section
variable {P : Program} {X Xc : Nat → Bool} {Z : List PanicEntry → World → Prop} {n : Nat} {r : Option Nat} {id : Nat} {ops : List Oper} {m : Nat} {bs : List (List Nat)} {ds : List Deferred} {fs : Nat → Value → World → Prop} {T : Env → World → Prop} {ρ ρ' : Env}
end
def REXt (P : Program) (X : Nat → Bool) (Z : List PanicEntry → World → Prop) (r : Option Nat) (ds : List Deferred) (ops : List Oper) (K : Env → World → Prop) (l : List Oper) (i : Nat) (_ : Tok (PProd.mk ops (PProd.mk K (PProd.mk l i)))) (σ : Env) (W : World) : Prop := REX P X Z r ds ops K σ W (nthO l i)
def RLXt (P : Program) (X Xc : Nat → Bool) (Z : List PanicEntry → World → Prop) (r : Option Nat) (ds : List Deferred) (ops : List Oper) (fs : Nat → Value → World → Prop) (T : Env → World → Prop) (t : Tl) (_ : Tok (PProd.mk ops (PProd.mk fs (PProd.mk T t)))) (σ : Env) (W : World) : Prop := RLX P X Xc Z r ds ops fs T t σ W
section
variable (P : Program) (X Xc : Nat → Bool) (Z : List PanicEntry → World → Prop) (r : Option Nat) (ds : List Deferred) (ops : List Oper) (fs : Nat → Value → World → Prop) (A : Value → World → Prop) (T : Env → World → Prop) (l : List Oper) (o : Oper) (i : Nat) (σ : Env) (W : World)
@[simp ↓] theorem RLX_tok (t : Tl) : RLX P X Xc Z r ds ops fs T t σ W = RLXt P X Xc Z r ds ops fs T t .mk σ W := _root_.id rfl
@[simp ↓] theorem RLXt_Z (k) : RLXt P X Xc Z r ds ops fs T .Z k σ W = T σ W := _root_.id rfl
@[simp ↓] theorem RLXt_F (t : Tl) (k) : RLXt P X Xc Z r ds ops fs T (.F i t) k σ W = RFt P Xc r ds ops (RLX P X Xc Z r ds ops fs T t) ops i .mk σ W := _root_.id rfl
@[simp ↓] theorem RLXt_C (t : Tl) (k) : RLXt P X Xc Z r ds ops fs T (.C i t) k σ W = REXt P Xc Z r ds ops (RLX P X Xc Z r ds ops fs T t) ops i .mk σ W := _root_.id rfl
@[simp ↓] theorem RLXt_S (t : Tl) (k) : RLXt P X Xc Z r ds ops fs T (.S i t) k σ W = REXt P (fun _ => true) Z r ds ops (RLX P X Xc Z r ds ops fs T t) ops i .mk σ W := _root_.id rfl
@[simp ↓] theorem REXt_succ (K : Env → World → Prop) (k) : REXt P X Z r ds ops K (o :: l) (i + 1) k σ W = REXt P X Z r ds ops K l i .mk σ W := _root_.id rfl
@[simp ↓] theorem REXt_zero (K : Env → World → Prop) (k) : REXt P X Z r ds ops K (o :: l) 0 k σ W = GIt (gw ops.toArray σ o.guard) (VO P r o (fun ρ'' ds'' w'' => ds'' = ds ∧ KR (Agr (fun k => X k = false) W w'') (K ρ'' w'')) (XP ds Z) σ ds W) (K (put σ o.dst undef) W) .mk := _root_.id rfl
end
section
variable {P : Program} {X Xc : Nat → Bool} {Z : List PanicEntry → World → Prop} {r : Option Nat} {ds : List Deferred} {ops : List Oper} {fs : Nat → Value → World → Prop} {T : Env → World → Prop} {i : Nat} {t : Tl} {σ : Env} {W : World}
end
end Pk