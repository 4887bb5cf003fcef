/-
 The engine,part V: values of flat types (their cells are numbers,bools and strings) compared; maps whose keys are such.
-/
import Derived.Test.YtmmneeomcefgbaaGreatDoorEngR
import Derived.DeepKeys
import Derived.Test.YtmmneeomcefgbaaGreatDoorEngJ
import Derived.Laws.IdiomCopy
namespace Pk
open Go
def shp1 : CK → Value → Bool
 | .int k,.int k' _ => decide (k = k')
 | .bool,.bool _ => true
 | .str,.string _ => true
 | _,_ => false
def shp : List CK → List Value → Bool
 | [],[] => true
 | k :: ks,v :: vs => shp1 k v && shp ks vs
 | _,_ => false
def eqc : Value → Value → Bool
 | .int _ a,.int _ b => a == b
 | .bool a,.bool b => a == b
 | .string a,.string b => a == b
 | _,_ => false
def eqcs : List Value → List Value → Bool
 | [],[] => true
 | x :: xs,y :: ys => eqc x y && eqcs xs ys
 | _,_ => false
theorem shp_len : ∀ {ks : List CK} {vs : List Value}, shp ks vs = true → vs.length = ks.length
 | [],[],_ => rfl
 | _ :: _,_ :: _,h => congrArg (· + 1) (shp_len (Bool.and_eq_true_iff.1 h).2)
 | [],_ :: _,h => by cases h
 | _ :: _,[],h => by cases h
theorem shp_app : ∀ {ks ls : List CK} {vs : List Value}, shp (ks ++ ls) vs = true → shp ks (vs.take ks.length) = true ∧ shp ls (vs.drop ks.length) = true
 | [],ls,vs,h => ⟨rfl,h⟩
 | k :: ks,ls,[],h => by cases h
 | k :: ks, ls, v :: vs, h => by
  obtain ⟨h1,h2⟩ := Bool.and_eq_true_iff.1 h
  obtain ⟨h3,h4⟩ := shp_app h2
  exact ⟨Bool.and_eq_true_iff.2 ⟨h1,h3⟩,h4⟩
theorem eqcs_app : ∀ (a b c d : List Value), a.length = b.length → eqcs (a ++ c) (b ++ d) = (eqcs a b && eqcs c d)
 | [],[],c,d,_ => by simp [eqcs]
 | x :: a, y :: b, c, d, h => by
  simp only [List.cons_append,eqcs,eqcs_app a b c d (by simpa using h),Bool.and_assoc]
 | [],_ :: _,_,_,h => by simp at h
 | _ :: _,[],_,_,h => by simp at h
def aggT (P : Program) (t : TypeId) : Bool := match P.underlying t with | some (.struct _) | some (.array _ _) => true | _ => false
def mkV (P : Program) (t : TypeId) (cs : List Value) : Value := if aggT P t then .agg cs.toArray else cs.headD undef
def flatQs (P : Program) (g : TypeId → Option (List CK)) : List Field → Nat → Option (List CK)
 | [],_ => some []
 | f :: fs, off => match g f.type, flatQs P g fs (off + P.cellsOf f.type) with
  | some l, some r => if f.offset == off && (P.cellsOf f.type == l.length && decide (f.name ≠ "_")) then some (l ++ r) else none
  | _,_ => none
def flatQ (P : Program) : Nat → TypeId → Option (List CK)
 | 0,_ => none
 | n + 1, t => match P.underlying t with
  | some (.int k) => some [.int k]
  | some .bool => some [.bool]
  | some .string => some [.str]
  | some (.struct ⟨fs⟩) => if P.stoodInHeld t then none else (flatQs P (flatQ P n) fs 0).bind fun l => if P.cellsOf t == l.length then some l else none
  | some (.array len e) => (flatQ P n e).bind fun l => if P.cellsOf e == l.length && P.cellsOf t == len * l.length then some (List.replicate len l).flatten else none
  | _ => none
section
variable {P : Program} (w : World)
theorem flatQ_info {n : Nat} {t : TypeId} {l : List CK} (h : flatQ P n t = some l) : ∃ i, P.info? t = some i := by
 cases n with
 | zero => cases h
 | succ n =>
  unfold flatQ at h
  cases hu : P.underlying t with
  | none => rw [hu] at h; cases h
  | some d => exact info_of_underlying hu
theorem flatQ_len : ∀ {n : Nat} {t : TypeId} {l : List CK}, flatQ P n t = some l → aggT P t = false → ∃ k, l = [k]
 | 0,_,_,h,_ => by cases h
 | n + 1, t, l, h, ha => by
  unfold flatQ at h
  unfold aggT at ha
  split at h
  ·cases h; exact ⟨_,rfl⟩
  ·cases h; exact ⟨_,rfl⟩
  ·cases h; exact ⟨_,rfl⟩
  ·rename_i hu; rw [hu] at ha; cases ha
  ·rename_i hu; rw [hu] at ha; cases ha
  ·cases h
theorem run_part_flat {n : Nat} {e : TypeId} {l : List CK} (h : flatQ P n e = some l) (hc : P.cellsOf e = l.length) (xs : Array Value) (off : Nat) (hx : off + l.length ≤ xs.size) :
  (part e xs off).run P w = .ok (mkV P e ((xs.toList.drop off).take l.length)) w := by
 obtain ⟨i,hi⟩ := flatQ_info h
 have key : (isAgg e).run P w = .ok (aggT P e) w := by
  unfold isAgg aggT
  cases n with
  | zero => cases h
  | succ n =>
   unfold flatQ at h
   cases hu : P.underlying e with
   | none => rw [hu] at h; cases h
   | some d =>
    simp only [Sem.run_bind,run_underlying hu,Result.andThen_ok]
    cases d <;> rfl
 unfold part mkV
 simp only [Sem.run_bind,key,Result.andThen_ok]
 cases ha : aggT P e with
 | true =>
  simp only [if_true,Sem.run_bind,run_sizeOf w hi,Result.andThen_ok,Sem.run_pure,hc]
  congr 2
  apply Array.ext'
  rw [Array.toList_extract]
  simp [List.extract]
 | false =>
  obtain ⟨k,rfl⟩ := flatQ_len h ha
  simp only [Bool.false_eq_true,if_false]
  have hlt : off < xs.size := by simp at hx; omega
  rw [Array.getElem?_eq_getElem hlt]
  simp only [Sem.run_pure]
  congr 1
  rw [List.drop_eq_getElem_cons (by simpa using hlt)]
  simp
theorem shp_int {k : IntKind} {x : List Value} (h : shp [.int k] x = true) : ∃ a, x = [.int k a] := by
 match x,h with
 | [v], h =>
  obtain ⟨h1,_⟩ := Bool.and_eq_true_iff.1 h
  cases v <;> simp [shp1] at h1
  subst h1
  exact ⟨_,rfl⟩
 | [],h => cases h
 | v :: u :: x,h => simp [shp] at h
theorem shp_bool {x : List Value} (h : shp [.bool] x = true) : ∃ a, x = [.bool a] := by
 match x,h with
 | [v], h =>
  obtain ⟨h1,_⟩ := Bool.and_eq_true_iff.1 h
  cases v <;> simp [shp1] at h1
  exact ⟨_,rfl⟩
 | [],h => cases h
 | v :: u :: x,h => simp [shp] at h
theorem shp_str {x : List Value} (h : shp [.str] x = true) : ∃ a, x = [.string a] := by
 match x,h with
 | [v], h =>
  obtain ⟨h1,_⟩ := Bool.and_eq_true_iff.1 h
  cases v <;> simp [shp1] at h1
  exact ⟨_,rfl⟩
 | [],h => cases h
 | v :: u :: x,h => simp [shp] at h
theorem flatQs_inv {g : TypeId → Option (List CK)} {f : Field} {fs : List Field} {off : Nat} {l : List CK} (h : flatQs P g (f :: fs) off = some l) :
  ∃ l1 r, g f.type = some l1 ∧ flatQs P g fs (off + l1.length) = some r ∧ f.offset = off ∧ P.cellsOf f.type = l1.length ∧ f.name ≠ "_" ∧ l = l1 ++ r := by
 unfold flatQs at h
 split at h
 ·rename_i l1 r h1 h2
  split at h
  ·rename_i hc
   simp only [Bool.and_eq_true,beq_iff_eq,decide_eq_true_eq] at hc
   cases h
   exact ⟨l1,r,h1,by rw [← hc.2.1]; exact h2,hc.1,hc.2.1,hc.2.2,rfl⟩
  ·cases h
 ·cases h
theorem take_drop_len {α : Type} (xs : List α) (off a b : Nat) : (xs.drop off).take (a + b) = (xs.drop off).take a ++ (xs.drop (off + a)).take b := by
 rw [List.take_add,List.drop_drop]
theorem eqFields_flat {n d : Nat} (ih : ∀ t l, flatQ P n t = some l → ∀ xs ys, shp l xs = true → shp l ys = true → (Op.equalIn d t (mkV P t xs) (mkV P t ys)).run P w = .ok (eqcs xs ys) w) (xs ys : Array Value) : ∀ (fs : List Field) (off : Nat) (l : List CK), flatQs P (flatQ P n) fs off = some l →
  off + l.length ≤ xs.size → off + l.length ≤ ys.size → shp l ((xs.toList.drop off).take l.length) = true → shp l ((ys.toList.drop off).take l.length) = true →
  (Op.eqFields d xs ys fs).run P w = .ok (eqcs ((xs.toList.drop off).take l.length) ((ys.toList.drop off).take l.length)) w
 | [], off, l, h, _, _, _, _ => by
  cases h
  simp [Op.eqFields,eqcs]
 | f :: fs, off, l, h, hx, hy, sx, sy => by
  obtain ⟨l1,r,h1,h2,ho,hc,hn,rfl⟩ := flatQs_inv h
  simp only [List.length_append] at hx hy sx sy ⊢
  rw [take_drop_len] at sx sy ⊢
  rw [take_drop_len ys.toList]
  have tx : ((xs.toList.drop off).take l1.length).length = l1.length := by simp; omega
  have ty : ((ys.toList.drop off).take l1.length).length = l1.length := by simp; omega
  obtain ⟨sx1,sx2⟩ := shp_app sx
  obtain ⟨sy1,sy2⟩ := shp_app sy
  rw [List.take_append_of_le_length (by omega),List.take_of_length_le (by omega)] at sx1 sy1
  have ex : ((xs.toList.drop off).take l1.length ++ (xs.toList.drop (off + l1.length)).take r.length).drop l1.length = (xs.toList.drop (off + l1.length)).take r.length := by
   rw [List.drop_append_of_le_length (by omega),List.drop_of_length_le (by omega)]; rfl
  have ey : ((ys.toList.drop off).take l1.length ++ (ys.toList.drop (off + l1.length)).take r.length).drop l1.length = (ys.toList.drop (off + l1.length)).take r.length := by
   rw [List.drop_append_of_le_length (by omega),List.drop_of_length_le (by omega)]; rfl
  rw [ex] at sx2
  rw [ey] at sy2
  have p1 := run_part_flat w h1 hc xs off (by omega)
  have p2 := run_part_flat w h1 hc ys off (by omega)
  have p3 := ih _ _ h1 _ _ sx1 sy1
  have p4 := eqFields_flat ih xs ys fs _ r h2 (by omega) (by omega) sx2 sy2
  rw [eqcs_app _ _ _ _ (by omega)]
  simp only [Op.eqFields,hn,ne_eq,not_false_eq_true,if_true,Sem.run_bind,ho,p1,p2,p3,Result.andThen_ok]
  cases eqcs (List.take l1.length (List.drop off xs.toList)) (List.take l1.length (List.drop off ys.toList)) with
  | true => simp [p4]
  | false => simp
theorem range'_succ' (k n : Nat) : List.range' k (n + 1) = k :: List.range' (k + 1) n := rfl
theorem eqItems_flat {n d : Nat} {e : TypeId} {l : List CK} (he : flatQ P n e = some l) (hc : P.cellsOf e = l.length) (ih : ∀ xs ys, shp l xs = true → shp l ys = true → (Op.equalIn d e (mkV P e xs) (mkV P e ys)).run P w = .ok (eqcs xs ys) w) (xs ys : Array Value) : ∀ (k j : Nat),
  (j + k) * l.length ≤ xs.size → (j + k) * l.length ≤ ys.size → shp (List.replicate k l).flatten ((xs.toList.drop (j * l.length)).take (k * l.length)) = true → shp (List.replicate k l).flatten ((ys.toList.drop (j * l.length)).take (k * l.length)) = true →
  (Op.eqItems d e (P.cellsOf e) xs ys (List.range' j k)).run P w = .ok (eqcs ((xs.toList.drop (j * l.length)).take (k * l.length)) ((ys.toList.drop (j * l.length)).take (k * l.length))) w
 | 0,j,_,_,_,_ => by simp [Op.eqItems,eqcs]
 | k + 1, j, hx, hy, sx, sy => by
  have e1 : (k + 1) * l.length = l.length + k * l.length := by rw [Nat.succ_mul]; omega
  have e2 : (j + 1) * l.length = j * l.length + l.length := Nat.succ_mul _ _
  have e3 : (j + (k + 1)) * l.length = j * l.length + (l.length + k * l.length) := by rw [Nat.add_mul,e1]
  rw [e3] at hx hy
  rw [e1,take_drop_len,List.replicate_succ,List.flatten_cons] at sx sy
  rw [e1,take_drop_len,take_drop_len ys.toList]
  have tx : ((xs.toList.drop (j * l.length)).take l.length).length = l.length := by simp; omega
  have ty : ((ys.toList.drop (j * l.length)).take l.length).length = l.length := by simp; omega
  obtain ⟨sx1,sx2⟩ := shp_app sx
  obtain ⟨sy1,sy2⟩ := shp_app sy
  rw [List.take_append_of_le_length (by omega),List.take_of_length_le (by omega)] at sx1 sy1
  rw [List.drop_append_of_le_length (by omega),List.drop_of_length_le (by omega)] at sx2 sy2
  simp only [List.nil_append] at sx2 sy2
  rw [← e2] at sx2 sy2 ⊢
  have p1 := run_part_flat w he hc xs (j * l.length) (by omega)
  have p2 := run_part_flat w he hc ys (j * l.length) (by omega)
  have p3 := ih _ _ sx1 sy1
  have p4 := eqItems_flat he hc ih xs ys k (j + 1) (by rw [Nat.add_mul,e2]; omega) (by rw [Nat.add_mul,e2]; omega) sx2 sy2
  rw [eqcs_app _ _ _ _ (by omega),range'_succ']
  simp only [Op.eqItems,Sem.run_bind,hc,p1,p2,p3,Result.andThen_ok]
  rw [hc] at p4
  cases eqcs (List.take l.length (List.drop (j * l.length) xs.toList)) (List.take l.length (List.drop (j * l.length) ys.toList)) with
  | true => simp [p4]
  | false => simp
theorem flat_rep (l : List CK) : ∀ n, (List.replicate n l).flatten.length = n * l.length
 | 0 => by simp
 | n + 1 => by rw [List.replicate_succ,List.flatten_cons,List.length_append,flat_rep l n,Nat.succ_mul]; omega
theorem equalIn_flat (d : Nat) : ∀ (n : Nat) (t : TypeId) (l : List CK), flatQ P n t = some l → ∀ xs ys, shp l xs = true → shp l ys = true → (Op.equalIn (d + n) t (mkV P t xs) (mkV P t ys)).run P w = .ok (eqcs xs ys) w
 | 0,_,_,h,_,_,_,_ => by cases h
 | n + 1, t, l, h, xs, ys, sx, sy => by
  unfold flatQ at h
  rw [show d + (n + 1) = (d + n) + 1 from rfl]
  split at h
  ·rename_i k hu
   cases h
   obtain ⟨a,rfl⟩ := shp_int sx
   obtain ⟨b,rfl⟩ := shp_int sy
   simp [mkV,aggT,hu,run_equalIn_int w _ _ _ _ a b hu,eqcs,eqc]
  ·rename_i hu
   cases h
   obtain ⟨a,rfl⟩ := shp_bool sx
   obtain ⟨b,rfl⟩ := shp_bool sy
   simp [mkV,aggT,hu,run_equalIn_bool' w _ _ a b hu,eqcs,eqc]
  ·rename_i hu
   cases h
   obtain ⟨a,rfl⟩ := shp_str sx
   obtain ⟨b,rfl⟩ := shp_str sy
   simp [mkV,aggT,hu,run_equalIn_string w _ _ a b hu,eqcs,eqc,beq_toListBytes]
  ·rename_i fs hu
   split at h
   ·cases h
   ·rename_i hs
    cases hf : flatQs P (flatQ P n) fs 0 with
    | none => rw [hf] at h; cases h
    | some l' =>
     rw [hf,Option.bind_some] at h
     split at h
     ·rename_i hc
      cases h
      have lx := shp_len sx
      have ly := shp_len sy
      have hfs : P.fieldsOf t = ⟨fs⟩ := by simp [Program.fieldsOf,hu]
      have := eqFields_flat w (fun t' l' h' => equalIn_flat d n t' l' h') xs.toArray ys.toArray fs 0 l hf (by simp [lx]) (by simp [ly]) (by simpa [← lx] using sx) (by simpa [← ly] using sy)
      simp only [mkV,aggT,hu,if_true]
      rw [run_equalIn_struct w _ t _ _ (by rw [hfs]; exact hu) (by simpa using hs),hfs,this]
      simp only [List.drop_zero]
      rw [List.take_of_length_le (by omega),List.take_of_length_le (by omega)]
     ·cases h
  ·rename_i len e hu
   cases hf : flatQ P n e with
   | none => rw [hf] at h; cases h
   | some l' =>
    rw [hf,Option.bind_some] at h
    split at h
    ·rename_i hc
     simp only [Bool.and_eq_true,beq_iff_eq] at hc
     cases h
     have lx := shp_len sx
     have ly := shp_len sy
     rw [flat_rep] at lx ly
     obtain ⟨i,hi⟩ := flatQ_info hf
     have := eqItems_flat w hf hc.1 (fun xs ys h1 h2 => equalIn_flat d n e l' hf xs ys h1 h2) xs.toArray ys.toArray len 0 (by simp [lx]) (by simp [ly]) (by rw [← lx]; simpa using sx) (by rw [← ly]; simpa using sy)
     simp only [mkV,aggT,hu,if_true]
     rw [run_equalIn_array w _ _ _ hu hi,List.range_eq_range',this]
     simp only [Nat.zero_mul,List.drop_zero]
     rw [List.take_of_length_le (by omega),List.take_of_length_le (by omega)]
    ·cases h
  ·cases h
end
def flatA (P : Program) (t : TypeId) : Option (List CK) := if aggT P t then flatQ P 12 t else none
theorem equal_flat {P : Program} (w : World) {t : TypeId} {l : List CK} (h : flatA P t = some l) {xs ys : Array Value} (hx : shp l xs.toList = true) (hy : shp l ys.toList = true) :
  (Op.equal t (.agg xs) (.agg ys)).run P w = .ok (eqcs xs.toList ys.toList) w := by
 unfold flatA at h
 split at h
 ·rename_i ha
  have := equalIn_flat w 9988 12 t l h _ _ hx hy
  simpa [mkV,ha,Op.equal,Op.maxDepth] using this
 ·cases h
theorem run_eql_flat {P : Program} (w : World) {t : TypeId} {l : List CK} (h : flatA P t = some l) (xs ys : Array Value) (hx : shp l xs.toList = true) (hy : shp l ys.toList = true) :
  (binOp .eql t (.agg xs) (.agg ys)).run P w = .ok (.bool (eqcs xs.toList ys.toList)) w := by
 rw [run_eql_struct]
 have := equal_flat w h hx hy
 simp only [Op.equal,Op.maxDepth] at this
 rw [this]
 rfl
section
variable {P : Program} (w : World)
end
end Pk
namespace Pk
open Go
section
variable {κ ν : Type} {ek : κ → Value} {ew : ν → Value} {P : Program} {w : World} {v : Value} {m : List (κ × ν)}
variable {b : Nat} {idxs : List Nat}
end
theorem cell_far (w : World) (b j : Nat) (h : w.heap.size ≤ b) : w.cell? ⟨b, j, none⟩ = none := by
 unfold World.cell?
 simp only [Array.getElem?_eq_none h]
@[simp] theorem cell_far1 (w : World) (j : Nat) : w.cell? ⟨w.heap.size + 1,j,none⟩ = none := cell_far w _ j (by omega)
theorem frozen_far (w : World) (b j : Nat) (h : w.heap.size ≤ b) : w.frozen? ⟨b, j, none⟩ = false := by
 unfold World.frozen?
 simp only [Array.getElem?_eq_none h]
@[simp] theorem frozen_far1 (w : World) (j : Nat) : w.frozen? ⟨w.heap.size + 1,j,none⟩ = false := frozen_far w _ j (by omega)
@[simp] theorem ne_far2 (n : Nat) : (n + 1 + 1 = n) = False := eq_false (by omega)
@[simp] theorem ne_far3 (n : Nat) : (n + 1 + 1 + 1 = n) = False := eq_false (by omega)
@[simp] theorem ne_far4 (n : Nat) : (n + 1 + 1 + 1 + 1 = n) = False := eq_false (by omega)
@[simp] theorem ne_far5 (n : Nat) : (n + 1 + 1 + 1 + 1 + 1 = n) = False := eq_false (by omega)
@[simp] theorem ne_far6 (n : Nat) : (n + 1 + 1 + 1 + 1 + 1 + 1 = n) = False := eq_false (by omega)
@[simp] theorem ne_far2' (n : Nat) : (n = n + 1 + 1) = False := eq_false (by omega)
@[simp] theorem ne_far3' (n : Nat) : (n = n + 1 + 1 + 1) = False := eq_false (by omega)
@[simp] theorem ne_far4' (n : Nat) : (n = n + 1 + 1 + 1 + 1) = False := eq_false (by omega)
@[simp] theorem ne_far5' (n : Nat) : (n = n + 1 + 1 + 1 + 1 + 1) = False := eq_false (by omega)
@[simp] theorem ne_far6' (n : Nat) : (n = n + 1 + 1 + 1 + 1 + 1 + 1) = False := eq_false (by omega)
end Pk
namespace Pk
section
variable {κ ν : Type} [DecidableEq κ]
end
open Go
theorem cell_setCell (w : World) (b i b' j : Nat) (v : Value) : (w.setCell ⟨b, i, none⟩ v).cell? ⟨b', j, none⟩ = if b' = b ∧ j = i then (w.cell? ⟨b, i, none⟩).map (fun _ => v) else w.cell? ⟨b', j, none⟩ := by
 by_cases h : b' = b ∧ j = i
 ·obtain ⟨rfl,rfl⟩ := h
  rw [if_pos ⟨rfl,rfl⟩]
  cases hc : w.cell? ⟨b',j,none⟩ with
  | some u => exact World.cell?_setCell_same _ _ _ hc
  | none =>
   unfold World.cell? at hc ⊢
   unfold World.setCell
   simp only [Array.getElem?_modify,if_true]
   cases ho : w.heap[b']? with
   | none => simp
   | some o =>
    rw [ho] at hc
    cases o <;> simp_all
 ·rw [if_neg h]
  exact World.cell?_setCell_other _ _ _ _ (by simp only [ne_eq,Addr.mk.injEq,and_true]; exact fun e => h ⟨e.1.symm,e.2.symm⟩)
end Pk
namespace Pk
open Go
theorem beq_dec (a b : Int) : (a == b) = decide (a = b) := by
 by_cases h : a = b <;> simp [h]
theorem bne_dec (a b : Int) : (a != b) = !decide (a = b) := by
 by_cases h : a = b <;> simp [h]
section
variable {κ ν : Type} [DecidableEq κ] {P : Program} {T K E : TypeId} {ek : κ → Value} {ew : ν → Value} {w : World} {r : Nat} {m : List (κ × ν)}
end
end Pk
namespace Pk
open Go
theorem prod_eta {α β : Type} (p : α × β) : (p.1,p.2) = p := rfl
theorem agr_any {w w' : World} (h : Mod (fun _ => True) w w') : Agr (fun _ => true = false) w w' := h.agr fun _ hi => by cases hi
theorem Mod.setC {a w : World} {b : Nat} (h : Mod (fun k => k = b) a w) (i : Nat) (v : Value) : Mod (fun k => k = b) a (w.setCell ⟨b,i,none⟩ v) := h.setCell _ _ (.inl rfl)
section
variable {P : Program} {t : TypeId}
theorem sl_l (hs : isS (P.underlying t) = true) (a : Option Addr) (n c : Nat) (k : IntKind) (l : Int) (h0 : 0 ≤ l) (h1 : l ≤ n) (W : World) :
  (Instr.sliceAt t (.slice a n c) (some (.int k l)) none none).run P W = ((Go.sizeOf (elemT (P.underlying t))).run P W).andThen fun s w => .ok (sliced a l.toNat n c s) w := by
 rw [run_sliceAt_slice W t _ _ _ _ (elem_of hs),elemT_of hs,run_slice_l W t a n c (elem_of hs) k l h0 h1]
end
end Pk
namespace Pk
open Go
theorem Mod.agr_old {O C : Nat → Prop} {w W W' : World} (h : Mod O w W) (hag : Agr (fun k => k < w.heap.size ∨ C k) W W') : Mod O w W' :=
 ⟨hag.os.trans h.os,hag.tape.trans h.tape,hag.out.trans h.out,Nat.le_trans h.size hag.size,fun i hi hn => (hag.blk i (Nat.lt_of_lt_of_le hi h.size) (.inl hi)).trans (h.blk i hi hn)⟩
theorem WC_rangeFuncA {α : Type} {P : Program} {n : Nat} {f : Operand} {ps : List Tmp} {assign body : Code} {Q : Post} {ρ : Env} {ds : List Deferred} {w : World}
  {enc : α → List Value} {S Sp : List α → Prop} {Cap : Nat → Prop} {gf : FuncId} {first caps : Array Value} (hgv : ev ρ f = .func (.func gf) first caps) (hent : ∀ as w,(callFunc gf as).run P w = .ok (.enter gf as) w)
  (hit : Iter P (.func (.func gf) first caps) enc S Sp Cap w) (henc : ∀ x,(enc x).length = ps.length)
  (C0 : Nat → Prop) (J : (Nat → Prop) → List α → World → Prop) (Jx : Code → (Nat → Prop) → List α → World → Prop)
  (hcap : ∀ k,Cap k → k < w.heap.size ∧ ¬ C0 k) (hC0 : ∀ k,C0 k → k < w.heap.size)
  (hJ : ∀ C pre W W',J C pre W → Agr (fun k => k < w.heap.size ∨ C k) W W' → J C pre W')
  (hJx : ∀ c C pre W W',Jx c C pre W → Agr (fun k => k < w.heap.size ∨ C k) W W' → Jx c C pre W')
  (h0 : J C0 [] w)
  (A : α → Nat → Env → World → Prop) (hAs : ∀ x B ρ' W W',A x B ρ' W → Agr (fun k => B ≤ k) W W' → A x B ρ' W')
  (hassign : ∀ l x W,vc P n (some l) assign (QS (fun ρ' ds' W' => ds' = [] ∧ Ext W W' ∧ A x W.heap.size ρ' W') (fun _ _ _ _ => False)) (setsE ρ ps (enc x)) [] W)
  (hbody : ∀ l C pre x B ρ' W,Sp (pre ++ [x]) → J C pre W → w.heap.size ≤ l → l < B → ¬ C l → B ≤ W.heap.size → A x B ρ' W → vc P n (some l) body (QR J Jx C (pre ++ [x]) W) ρ' [] W)
  (hdone : ∀ C xs W,S xs → J C xs W → W.heap[w.heap.size]? = some (.deferred (some [])) → Q .normal ρ ({ target := .collected w.heap.size,args := #[] } :: ds) W)
  (hstop : ∀ c C pre W,Sp pre → Jx c C pre W → W.heap[w.heap.size]? = some (.deferred (some [])) → QC Q c ρ ({ target := .collected w.heap.size,args := #[] } :: ds) W) :
  WC P n none (.rangeFunc f ps.toArray assign body) Q ρ ds w := by
 intro hok tmps hA
 have hok1 := Bool.and_eq_true_iff.1 hok
 have hok2 := Bool.and_eq_true_iff.1 hok1.2
 have hok3 := Bool.and_eq_true_iff.1 hok2.2
 have hps : ∀ p ∈ ps,p < n := fun p hp => by simpa using List.all_eq_true.1 hok2.1 p hp
 refine wpIn_rangeFunc ?_
 intro fn _
 obtain ⟨rec,hrec⟩ : ∃ rec : LoopState → Option Code → Loop,rec = fun st pe => { state := st,pending := pe,fn,tmps := tmps,params := ps.toArray,assign,body,defers := w.heap.size } := ⟨_,rfl⟩
 obtain ⟨W1,hW1⟩ : ∃ W1,(w.alloc (.deferred (some []))).alloc (.loop (rec .ready none)) = W1 := ⟨_,rfl⟩
 have hs1 : W1.heap.size = w.heap.size + 2 := by rw [← hW1]; simp
 have hL1 : W1.heap[w.heap.size + 1]? = some (.loop (rec .ready none)) := by
  rw [← hW1]; have := World.alloc_heap_new (w.alloc (.deferred (some []))) (.loop (rec .ready none)); rwa [World.size_alloc] at this
 have hD1 : W1.heap[w.heap.size]? = some (.deferred (some [])) := by
  rw [← hW1]; exact (Go.RowKit.Below.heap_alloc _ _ _ (by simp)).trans (World.alloc_heap_new w _)
 have hx1 : Ext w W1 := by rw [← hW1]; exact ((Ext.refl w).alloc _).alloc _
 have hg : ev ρ f = (Act.mk tmps ds).eval f := (eval_eq hA hok1.1).symm
 let l := w.heap.size + 1
 let D := w.heap.size
 let J' : (Nat → Prop) → List α → World → Prop := fun C pre W => ∃ C1,J C1 pre W ∧ (∀ k,C k ↔ C1 k ∨ k = l) ∧ ¬ C1 l ∧ ¬ C1 D ∧ W.heap[l]? = some (.loop (rec .ready none)) ∧ W.heap[D]? = some (.deferred (some []))
 let Jx' : (Nat → Prop) → List α → World → Prop := fun C pre W => ∃ C1 c,Jx c C1 pre W ∧ (∀ k,C k ↔ C1 k ∨ k = l) ∧ ¬ C1 l ∧ W.heap[l]? = some (.loop (rec .done (some c))) ∧ W.heap[D]? = some (.deferred (some []))
 have hcall := hit (.func (.yield l) #[] #[]) (fun k => C0 k ∨ k = l) J' Jx' W1 hx1.agr
  (fun k hk => ⟨(hcap k hk).1,fun h => h.elim (hcap k hk).2 (fun e => by have := (hcap k hk).1; simp only [l] at e; omega)⟩)
  (fun k hk => by
   rcases hk with hk | hk
   ·have := hC0 k hk; omega
   ·simp only [l] at hk; omega) ?_ ?_ ?_ ?_
 case refine_1 =>
  rintro C pre Wa Wb ⟨C1,hj,hC,hl,hd,h1,h2⟩ hag
  refine ⟨C1,hJ _ _ _ _ hj (hag.weaken ?_),hC,hl,hd,hag.obj h1 (.inl (by simp only [l]; omega)),hag.obj h2 (.inl (by simp only [D]; omega))⟩
  rintro i (hi | hi)
  ·exact .inl (by omega)
  ·exact .inr ((hC i).2 (.inl hi))
 case refine_2 =>
  rintro C pre Wa Wb ⟨C1,c,hj,hC,hnl,h1,h2⟩ hag
  refine ⟨C1,c,hJx _ _ _ _ _ hj (hag.weaken ?_),hC,hnl,hag.obj h1 (.inl (by simp only [l]; omega)),hag.obj h2 (.inl (by simp only [D]; omega))⟩
  rintro i (hi | hi)
  ·exact .inl (by omega)
  ·exact .inr ((hC i).2 (.inl hi))
 case refine_3 =>
  rintro C pre x W hsp ⟨C1,hj,hC,hnl,hnd,hl,hd⟩
  have hlt : l < W.heap.size := (Array.getElem?_eq_some_iff.1 hl).1
  have hy := run_yield (P := P) (args := (enc x).toArray) hl (by rw [hrec]; simpa using henc x)
  rw [hrec] at hy
  show YD P l ([] ++ enc x) W _
  unfold YD
  rw [List.nil_append,hy]
  have hround : RoundIn (FR none) 0 P l fn ((ps.toArray.zip (enc x).toArray).foldl (fun tmps (t, a) => tmps.setIfInBounds t a) tmps) assign body W (fun e W' =>
    (e = .returned (.bool true) ∧ ∃ C',J' C' (pre ++ [x]) W' ∧ Own C C' W W') ∨ (e = .returned (.bool false) ∧ ∃ C',Jx' C' (pre ++ [x]) W' ∧ Own C C' W W')) := by
   refine roundIn_of_wpIn trivial ?_
   have hAx : Ag n ((ps.toArray.zip (enc x).toArray).foldl (fun tmps (t, a) => tmps.setIfInBounds t a) tmps) (setsE ρ ps (enc x)) := by
    have := Ag.sets ps (enc x) tmps ρ hA hps
    rw [← Array.foldl_toList]
    simpa using this
   refine wpIn_mono (vc_sound assign _ _ _ _ (hassign l x W) hok3.1 _ hAx) ?_
   rintro e a1 W' ⟨ρ',hA',hq⟩
   cases e with
   | normal =>
    obtain ⟨hds,hEx,hAx'⟩ := hq
    have hlB := hlt
    have hsB := hEx.size
    have hlA : W'.heap[l]? = some (.loop (rec .ready none)) := hEx.obj hl
    have hdA : W'.heap[D]? = some (.deferred (some [])) := hEx.obj hd
    have hltA : l < W'.heap.size := (Array.getElem?_eq_some_iff.1 hlA).1
    obtain ⟨W2,hW2⟩ : ∃ W2,W2 = W'.putObj l (.loop { rec .ready none with state := .busy }) := ⟨_,rfl⟩
    refine ⟨W2,by rw [hW2]; exact run_beginRound hlA (by rw [hrec]),?_⟩
    have hl2 : W2.heap[l]? = some (.loop { rec .ready none with state := .busy }) := by rw [hW2]; exact World.putObj_heap_same hltA
    have hd2 : W2.heap[D]? = some (.deferred (some [])) := by rw [hW2]; exact (World.putObj_heap_other (by simp only [l,D]; omega)).trans hdA
    have hj2 : J C1 pre W2 := hJ _ _ _ _ (hJ _ _ _ _ hj hEx.agr) (by
     rw [hW2]
     refine Agr.putObj _ ?_
     rintro (h | h)
     ·simp only [l] at h; omega
     ·exact hnl h)
    have hm2 : Mod (· = l) W' W2 := by rw [hW2]; exact Mod.putObj _ _
    have hs2 : W2.heap.size = W'.heap.size := by rw [hW2]; simp
    have hA2 : A x W.heap.size ρ' W2 := hAs _ _ _ _ _ hAx' (by rw [hW2]; exact Agr.putObj _ (by omega))
    have hb := hbody l C1 pre x W.heap.size ρ' W2 hsp hj2 (by simp only [l]; omega) hlt hnl (by rw [hs2]; exact hsB) hA2
    have hwp := vc_sound body _ _ _ _ hb hok3.2 _ hA'
    have ha1 : a1 = ⟨a1.tmps,[]⟩ := by cases a1; simp_all
    rw [ha1]
    refine wpIn_mono hwp ?_
    rintro e a3 W3 ⟨ρ3,hA3,hq3⟩
    have fin : ∀ (jump : Option Code) (C' : Nat → Prop), Own C1 C' W2 W3 →
      ∃ W4, (Instr.endRound l jump).run P W3 = .ok (.bool jump.isNone) W4 ∧ W4 = W3.putObj l (.loop (rec (if jump.isNone then .ready else .done) jump)) ∧ W4.heap[l]? = some (.loop (rec (if jump.isNone then .ready else .done) jump)) ∧
       W4.heap[D]? = some (.deferred (some [])) ∧ ¬ C' l ∧ ¬ C' D ∧ Own C (fun k => C' k ∨ k = l) W W4 := by
     intro jump C' hown
     have hl3 : W3.heap[l]? = some (.loop { rec .ready none with state := .busy }) := hown.mod.obj hl2 hnl
     have hd3 : W3.heap[D]? = some (.deferred (some [])) := hown.mod.obj hd2 hnd
     have hlt3 : l < W3.heap.size := (Array.getElem?_eq_some_iff.1 hl3).1
     have hr := run_endRound (P := P) jump hl3
     have hDl : D < W2.heap.size := (Array.getElem?_eq_some_iff.1 hd2).1
     refine ⟨W3.putObj l (.loop (rec (if jump.isNone then .ready else .done) jump)), ?_, rfl, World.putObj_heap_same hlt3, (World.putObj_heap_other (by simp only [l, D]; omega)).trans hd3, ?_, ?_, ?_⟩
     ·rw [hr,hrec]
     ·intro h; rcases hown.own _ h with h | h
      ·exact hnl h
      ·omega
     ·intro h; rcases hown.own _ h with h | h
      ·exact hnd h
      ·omega
     ·refine ⟨?_, ?_, ?_⟩
      ·have m1 : Mod C W W2 := hEx.mod.trans (hm2.weaken (fun i e => (hC i).2 (.inr e)))
       have m2 : Mod C W2 W3 := hown.mod.weaken (fun i h => (hC i).2 (.inl h))
       exact (m1.trans m2).trans ((Mod.putObj _ _).weaken (fun i e => (hC i).2 (.inr e)))
      ·rintro k (h | h)
       ·rcases hown.own k h with h | h
        ·exact .inl ((hC k).2 (.inl h))
        ·exact .inr (by omega)
       ·exact .inl ((hC k).2 (.inr h))
      ·rintro k (h | h)
       ·rcases hown.lt k h with h | h
        ·exact .inl ((hC k).2 (.inl h))
        ·exact .inr (by simpa using h)
       ·exact .inl ((hC k).2 (.inr h))
    have stab : ∀ (C' : Nat → Prop) (W4 : World) (o : Obj), W4 = W3.putObj l o → ¬ C' l → Agr (fun k => k < w.heap.size ∨ C' k) W3 W4 := by
     intro C' W4 o e hn
     rw [e]
     refine Agr.putObj _ ?_
     rintro (h | h)
     ·simp only [l] at h; omega
     ·exact hn h
    cases e with
    | normal =>
     obtain ⟨-,C',hj3,hown⟩ := hq3
     obtain ⟨W4,hr,e4,hl4,hd4,hn1,hn2,ho⟩ := fin none C' hown
     exact ⟨_,W4,hr,.inl ⟨rfl,_,⟨C',hJ _ _ _ _ hj3 (stab C' W4 _ e4 hn1),fun k => Iff.rfl,hn1,hn2,hl4,hd4⟩,ho⟩⟩
    | ret =>
     obtain ⟨-,C',hj3,hown⟩ := hq3
     obtain ⟨W4,hr,e4,hl4,hd4,hn1,hn2,ho⟩ := fin (some .ret) C' hown
     exact ⟨_,W4,hr,.inr ⟨rfl,_,⟨C',.ret,hJx _ _ _ _ _ hj3 (stab C' W4 _ e4 hn1),fun k => Iff.rfl,hn1,hl4,hd4⟩,ho⟩⟩
    | exit id =>
     obtain ⟨-,C',hj3,hown⟩ := hq3
     obtain ⟨W4,hr,e4,hl4,hd4,hn1,hn2,ho⟩ := fin (some (.exit id)) C' hown
     exact ⟨_,W4,hr,.inr ⟨rfl,_,⟨C',.exit id,hJx _ _ _ _ _ hj3 (stab C' W4 _ e4 hn1),fun k => Iff.rfl,hn1,hl4,hd4⟩,ho⟩⟩
    | goto t =>
     obtain ⟨-,C',hj3,hown⟩ := hq3
     obtain ⟨W4,hr,e4,hl4,hd4,hn1,hn2,ho⟩ := fin (some (.goto t)) C' hown
     exact ⟨_,W4,hr,.inr ⟨rfl,_,⟨C',.goto t,hJx _ _ _ _ _ hj3 (stab C' W4 _ e4 hn1),fun k => Iff.rfl,hn1,hl4,hd4⟩,ho⟩⟩
    | panic ch => exact hq3.elim
    | outgrown => exact hq3.elim
   | _ => exact hq.elim
  exact hround
 case refine_4 =>
  refine ⟨C0, hJ _ _ _ _ h0 hx1.agr, fun k => Iff.rfl, ?_, ?_, hL1, hD1⟩
  ·intro h; have := hC0 _ h; simp only [l] at this; omega
  ·intro h; have := hC0 _ h; simp only [D] at this; omega
 have fin : ∀ e W', ((∃ v, e = .returned v) ∧ ∃ C', ((∃ xs, S xs ∧ J' C' xs W') ∨ (∃ pre, Sp pre ∧ Jx' C' pre W'))) →
   rangePost (FR none) 0 P l (fun e a w' => ∃ ρ',Ag n a.tmps ρ' ∧ Q e ρ' a.defers w') ⟨tmps,{ target := .collected D,args := #[] } :: ds⟩ e W' := by
  rintro e W' ⟨⟨v, rfl⟩, C', (⟨xs, hS, C1, hj, -, hn1, hn2, hl, hd⟩ | ⟨pre, hS, C1, c, hj, -, hn1, hl, hd⟩)⟩
  ·have hr := run_endLoop (P := P) hl (by rw [hrec]; simp)
   rw [hrec] at hr
   refine ⟨none,_,hr,ρ,hA,hdone C1 xs _ hS (hJ _ _ _ _ hj (Agr.putObj _ ?_)) ((World.putObj_heap_other (by simp only [l]; omega)).trans hd)⟩
   rintro (h | h)
   ·simp only [l] at h; omega
   ·exact hn1 h
  ·have hr := run_endLoop (P := P) hl (by rw [hrec]; simp)
   rw [hrec] at hr
   refine ⟨some c,_,hr,QC_sound hA (hstop c C1 pre _ hS (hJx _ _ _ _ _ hj (Agr.putObj _ ?_)) ((World.putObj_heap_other (by simp only [l]; omega)).trans hd))⟩
   rintro (h | h)
   ·simp only [l] at h; omega
   ·exact hn1 h
 have hcall' : FN P gf (first.toList ++ ([.func (.yield l) #[] #[]] ++ caps.toList)) W1 _ := hcall
 unfold FN at hcall'
 rw [hent] at hcall'
 refine ⟨l, [{ target := .collected D, args := #[] }], W1, { target := .fn (.func gf) caps, args := first ++ #[Value.func (.yield l) #[] #[]] }, W1, gf, (first.toList ++ ([Value.func (.yield l) #[] #[]] ++ caps.toList)).toArray, W1, ?_, ?_, fun _ _ => trivial, ?_, fun h => by simp [FR] at h, ?_⟩
 ·rw [← hW1,hrec]; exact run_enterLoop_outer _ _ _ _ _
 ·have : (Act.mk tmps ds).eval f = .func (.func gf) first caps := hg.symm.trans hgv
  simp only [resolve,this,Deferred.ofValue]
  simp [Act.eval]
 ·have e0 : (first ++ #[Value.func (.yield l) #[] #[]] ++ caps) = (first.toList ++ ([Value.func (.yield l) #[] #[]] ++ caps.toList)).toArray := by apply Array.ext'; simp
  simp only [invoke]
  rw [e0]; exact hent _ _
 ·exact callsIn_FR (hcall'.mono fun e W' h => fin e W' h)
end Pk
namespace Pk
open Go
theorem append_fresh {P : Program} {w : World} {s : Nat} {t ty : TypeId} {v : Value} {n : Nat} {xs : List Value} {v2 : Value} {m : Nat} {ys : List Value} {e : TypeId} (hs : isS (P.underlying t) = true) (he : elemT (P.underlying t) = e) (hi : elOk (P.info? e) s = true)
  (hv : Sl w s v n xs) (hfull : slC v = n) (h2 : Sl w s v2 m ys) (h1 : ∀ u ∈ ys,u.oneCell' = true) (hb : (n + m) ≤ 1048576) (hm : 0 < m) :
  ∃ cap cur w', (Builtin.append_ #[t, t] ty #[v, v2]).run P w = .ok (.slice (some ⟨w.heap.size, 0, none⟩) (n + m) cap) w' ∧ Sl w' s (.slice (some ⟨w.heap.size, 0, none⟩) (n + m) cap) (n + m) (xs ++ ys) ∧ Ext w w' ∧
   w'.heap[w.heap.size]? = some (.cells cur e (0,0)) ∧ w'.heap.size = w.heap.size + 1 := by
 obtain ⟨v',w',hr,hsl,hE,-⟩ := append_full (ty := ty) hs he hi hv hfull h2 h1 hb
 obtain ⟨⟨i,z,hi1,hi2,hi3,hi4,hi5⟩,hsz⟩ := elOk_inv hi
 have hel := elemT_of (P := P) hs
 rw [he] at hel
 subst hel
 have hsrc := h2.src (P := P) hs h1
 rw [← hi3] at hsrc
 have hold : ∃ a, v = .slice a n n ∧ (Builtin.firstCells i.size n (.slice a n n)).run P w.drew = .ok xs.toArray w.drew := by
  rcases hv.val with ⟨c, rfl, rfl⟩ | ⟨b, o, c, rfl, hc⟩
  ·have : c = 0 := hfull
   subst this
   have : xs = [] := List.eq_nil_of_length_eq_zero (by simpa using hv.len)
   subst this
   exact ⟨none,rfl,run_firstCells_none _ _ _ _ _⟩
  ·have : c = n := hfull
   subst this
   exact ⟨_,rfl,run_firstCells_some w.drew i.size c ⟨b,o,none⟩ c c xs (by rw [hi3]; exact hv.len) (fun j u hj => by simpa [slB,slO] using hv.at_ j u hj)⟩
 obtain ⟨a,rfl,hold⟩ := hold
 have hfit : Builtin.nextslicecap (n + m) n * i.bytes ≤ 281474976710656 := growslice_fits (by omega) (by have := Nat.mul_le_mul hb hi5; omega)
 have hr2 := run_append_grow_src (P := P) w t t ty (P.elem t) i z (elem_of hs) hi1 hi2 a n n xs hold v2 m ys hsrc (by omega) (by omega) hfit
 rw [hr] at hr2
 cases hr2
 exact ⟨_,_,_,hr,hsl,hE,by simpa using World.alloc_heap_new w.drew _,by simp⟩
structure SlB (w : World) (s : Nat) (v : Value) (n : Nat) (cs : List Value) : Prop where
 len : cs.length = n * s
 val : ∃ ao c,v = .slice ao n c ∧ n ≤ c ∧ (0 < n → ∃ b o,ao = some ⟨b,o,none⟩)
 at_ : ∀ j u,cs[j]? = some u → w.cell? ⟨slB v,slO v + j,none⟩ = some u
theorem Sl.toB {w : World} {s : Nat} {v : Value} {n : Nat} {cs : List Value} (h : Sl w s v n cs) : SlB w s v n cs := by
 refine ⟨h.len,?_,h.at_⟩
 rcases h.val with ⟨c, rfl, rfl⟩ | ⟨b, o, c, rfl, hc⟩
 ·exact ⟨none,c,rfl,Nat.zero_le _,fun h => by omega⟩
 ·exact ⟨_,c,rfl,hc,fun _ => ⟨b,o,rfl⟩⟩
theorem SlB.nil (w : World) (s c : Nat) : SlB w s (.slice none 0 c) 0 [] := (Sl.nil w s c).toB
theorem SlB.toSl {w : World} {s : Nat} {v : Value} {n : Nat} {cs : List Value} (h : SlB w s v n cs) (h0 : 0 < n) : Sl w s v n cs := by
 obtain ⟨ao,c,rfl,hc,ha⟩ := h.val
 obtain ⟨b,o,rfl⟩ := ha h0
 exact ⟨h.len,.inr ⟨b,o,c,rfl,hc⟩,h.at_⟩
theorem SlB.isSlice {w : World} {s : Nat} {v : Value} {n : Nat} {cs : List Value} (h : SlB w s v n cs) : ∃ a c, v = .slice a n c := by
 obtain ⟨a,c,rfl,-⟩ := h.val
 exact ⟨a,c,rfl⟩
theorem SlB.kept {w w' : World} {s : Nat} {v : Value} {n : Nat} {cs : List Value} (h : SlB w s v n cs) (hw : cs ≠ [] → ∀ (a : Addr) (u : Value), a.block = slB v → w.cell? a = some u → w'.cell? a = some u) : SlB w' s v n cs :=
 ⟨h.len,h.val,fun j u hj => hw (fun e => by rw [e] at hj; simp at hj) _ _ rfl (h.at_ j u hj)⟩
theorem SlB.ext {w w' : World} {s : Nat} {v : Value} {n : Nat} {cs : List Value} (h : SlB w s v n cs) (he : Ext w w') : SlB w' s v n cs := h.kept fun _ _ _ _ hu => he.cell_eq hu
theorem SlB.mod {w w' : World} {s : Nat} {v : Value} {n : Nat} {cs : List Value} {S : Nat → Prop} (h : SlB w s v n cs) (he : Mod S w w') (hs : cs ≠ [] → ¬ S (slB v)) : SlB w' s v n cs :=
 h.kept fun hc a _ ha hu => he.cell hu (by rw [ha]; exact hs hc)
theorem SlB.agr {w w' : World} {s : Nat} {v : Value} {n : Nat} {cs : List Value} {S : Nat → Prop} (h : SlB w s v n cs) (he : Agr S w w') (hs : cs ≠ [] → S (slB v)) : SlB w' s v n cs :=
 h.kept fun hc a _ ha hu => he.cell hu (by rw [ha]; exact hs hc)
theorem SlB.lt {w : World} {s : Nat} {v : Value} {n : Nat} {cs : List Value} (h : SlB w s v n cs) (h0 : 0 < cs.length) : slB v < w.heap.size :=
 World.block_lt_of_cell? w _ (h.at_ 0 cs[0] (by simp [h0]))
section
variable {P : Program} {w : World} {s : Nat} {v : Value} {n : Nat} {cs : List Value} {t : TypeId}
theorem SlB.isLen (h : SlB w s v n cs) (hs : isS (P.underlying t) = true) (ty : TypeId) (w' : World) : (Builtin.len_ #[t] ty #[v]).run P w' = .ok (.int .i64 n) w' := by
 obtain ⟨ao,c,rfl,_⟩ := h.val
 exact r_len_slice P w' t ty ao n c hs
theorem SlB.index (h : SlB w s v n cs) (hs : isS (P.underlying t) = true) (k : IntKind) (i : Int) (h0 : 0 ≤ i) (h1 : i < n) (w' : World) :
  (Instr.indexAt t v (.int k i)).run P w' = ((Go.sizeOf (elemT (P.underlying t))).run P w').andThen fun n w' => .ok (.pointer (some ⟨slB v,slO v + i.toNat * n,none⟩)) w' := (h.toSl (by omega)).index hs k i h0 h1 w'
theorem SlB.sliceL (h : SlB w s v n cs) (hn : 0 < n) (hs : isS (P.underlying t) = true) (k : IntKind) (i : Int) (h0 : 0 ≤ i) (h1 : i ≤ n) (w' : World) :
  (Instr.sliceAt t v (some (.int k i)) none none).run P w' = ((Go.sizeOf (elemT (P.underlying t))).run P w').andThen fun z w' => .ok (slcL v i.toNat z) w' := (h.toSl hn).sliceL hs k i h0 h1 w'
theorem SlB.dropL (h : SlB w s v n cs) (hn : 0 < n) (i : Nat) (h1 : i ≤ n) : Sl w s (slcL v i s) (n - i) (cs.drop (i * s)) := (h.toSl hn).dropL i h1
theorem SlB.src (h : SlB w s v n cs) (hs : isS (P.underlying t) = true) (h1 : ∀ u ∈ cs, u.oneCell' = true) : Src P s t v n cs w := by
 obtain ⟨ao,c,hv,hc,ha⟩ := h.val
 by_cases h0 : n = 0
 ·subst h0
  have hcs : cs = [] := List.eq_nil_of_length_eq_zero (by simpa using h.len)
  subst hcs
  subst hv
  cases ao with
  | none => exact Src.ofNil w (elem_of hs) c
  | some a => exact ⟨.inl ⟨_,elem_of hs⟩,fun _ => rfl,run_firstCells_some w s 0 a 0 c [] (by simp) (by simp),run_firstCells_some w.drew s 0 a 0 c [] (by simp) (by simp),by simp,fun _ h => by cases h⟩
 ·exact (h.toSl (by omega)).src hs h1
end
theorem append_ownB {P : Program} {w : World} {base s : Nat} {t ty : TypeId} {v : Value} {n : Nat} {xs : List Value} {v2 : Value} {m : Nat} {ys : List Value} {e : TypeId} (hs : isS (P.underlying t) = true) (he : elemT (P.underlying t) = e) (hi : elOk (P.info? e) s = true)
  (hown : w.ownsRow base e s v n xs) (h2 : SlB w s v2 m ys) (h1 : ∀ u ∈ ys,u.oneCell' = true) (hb : (n + m) ≤ 1048576) (hbase : base ≤ w.heap.size) :
  ∃ v' w', (Builtin.append_ #[t, t] ty #[v, v2]).run P w = .ok v' w' ∧ w'.ownsRow base e s v' (n + m) (xs ++ ys) ∧ Mod (fun k => slN v = false ∧ k = slB v) w w' ∧
   (slN v' = false → (slN v = false ∧ slB v' = slB v) ∨ w.heap.size ≤ slB v') := by
 by_cases h0 : m = 0
 ·subst h0
  have hys : ys = [] := List.eq_nil_of_length_eq_zero (by simpa using h2.len)
  subst hys
  obtain ⟨⟨i,z,hi1,hi2,hi3,hi4,hi5⟩,hsz⟩ := elOk_inv hi
  have hel := elemT_of (P := P) hs
  rw [he] at hel
  subst hel
  have hsrc := h2.src (P := P) hs h1
  rw [← hi3] at hsrc
  refine ⟨v,w,?_,by simpa using hown,Mod.refl _ _,fun h => .inl ⟨h,rfl⟩⟩
  rcases hown.2 with ⟨rfl, rfl⟩ | ⟨g, cap, cur, rfl, hb, hg, hc, _⟩
  ·exact run_append_nothing w t t ty (P.elem t) i (elem_of hs) hi1 none 0 0 (by omega) _ hsrc
  ·exact run_append_nothing w t t ty (P.elem t) i (elem_of hs) hi1 _ n cap hc _ hsrc
 ·exact append_own hs he hi hown (h2.toSl (by omega)) h1 hb hbase
end Pk
namespace Pk
open Go
set_option maxRecDepth 10000
theorem own_lt {w : World} {base e s : Nat} {v : Value} {n : Nat} {xs : List Value} (h : w.ownsRow base e s v n xs) (h0 : slN v = false) : slB v < w.heap.size := by
 obtain ⟨h1,h2⟩ := h
 rcases h2 with ⟨rfl, rfl⟩ | ⟨g, cap, cur, rfl, a1, a2, a3⟩
 ·simp [slN] at h0
 ·exact (Array.getElem?_eq_some_iff.1 a2).1
theorem own_empty {e : TypeId} {s : Nat} (W : World) (base : Nat) (h : base ≤ W.heap.size) : (W.alloc (.cells #[] e)).ownsRow base e s (.slice (some ⟨W.heap.size, 0, none⟩) 0 0) 0 [] :=
 ⟨by simp,.inr ⟨W.heap.size,0,#[],rfl,h,World.alloc_heap_new W _,Nat.le_refl _,by simp,by simp,by simp⟩⟩
theorem own_made (W : World) (cs : List Value) (t : TypeId) (s n : Nat) (h : cs.length = n * s) (hn : n ≤ 1000) (base : Nat) (hb : base ≤ W.heap.size) : (W.alloc (.cells cs.toArray t)).ownsRow base t s (.slice (some ⟨W.heap.size, 0, none⟩) n n) n cs :=
 ⟨h,.inr ⟨W.heap.size,n,cs.toArray,rfl,hb,World.alloc_heap_new W _,Nat.le_refl _,by simp [maxLen]; omega,by simp [h],by simp [← h]⟩⟩
theorem append_newB {P : Program} {w : World} {base s : Nat} {t ty : TypeId} {b m : Nat} {v2 : Value} {ys : List Value} {e : TypeId} (hs : isS (P.underlying t) = true) (he : elemT (P.underlying t) = e) (hi : elOk (P.info? e) s = true)
  (hown : w.ownsRow base e s (.slice (some ⟨b,0,none⟩) 0 0) 0 []) (h2 : SlB w s v2 m ys) (h1 : ∀ u ∈ ys,u.oneCell' = true) (hb : m ≤ 1000000) (hbase : base ≤ w.heap.size) :
  ∃ v' w',(Builtin.append_ #[t,t] ty #[.slice (some ⟨b,0,none⟩) 0 0,v2]).run P w = .ok v' w' ∧ w'.ownsRow base e s v' m ys ∧ Ext w w' := by
 obtain ⟨v',w',hr,ho,hM,-⟩ := append_ownB (ty := ty) hs he hi hown h2 h1 (by omega) hbase
 refine ⟨v',w',hr,by simpa using ho,?_⟩
 by_cases h0 : m = 0
 ·subst h0
  have hys : ys = [] := List.eq_nil_of_length_eq_zero (by simpa using h2.len)
  subst hys
  obtain ⟨⟨i,z,hi1,hi2,hi3,hi4,hi5⟩,hsz⟩ := elOk_inv hi
  have hel := elemT_of (P := P) hs
  rw [he] at hel
  subst hel
  have hsrc := h2.src (P := P) hs h1
  rw [← hi3] at hsrc
  have hn := run_append_nothing w t t ty (P.elem t) i (elem_of hs) hi1 (some ⟨b,0,none⟩) 0 0 (by omega) _ hsrc
  rw [hr] at hn
  cases hn
  exact Ext.refl _
 ·obtain ⟨v2',w2',hr2,-,hE,-⟩ := append_full (ty := ty) hs he hi (sl_of_own hown) rfl (h2.toSl (by omega)) h1 (by omega)
  rw [hr] at hr2
  cases hr2
  exact hE
theorem own_set {w : World} {base e s : Nat} {v : Value} {n : Nat} {xs : List Value} (h : w.ownsRow base e s v n xs) (j : Nat) (hj : j < xs.length) (u : Value) :
  (w.setCell ⟨slB v,slO v + j,none⟩ u).ownsRow base e s v n (xs.set j u) := by
 obtain ⟨h1,h2⟩ := h
 refine ⟨by simpa using h1,?_⟩
 rcases h2 with ⟨rfl, rfl⟩ | ⟨g, cap, cur, rfl, hb, hg, hc, hm, hs, ht⟩
 ·rw [Nat.zero_mul] at h1; omega
 ·refine .inr ⟨g, cap, cur.set! j u, rfl, hb, ?_, hc, hm, by simpa using hs, ?_⟩
  ·simpa [slB,slO] using heap_setCell_same w g j cur e u hg
  ·rw [← ht]
   simp [Array.set!,List.take_set]
theorem sl_tail {P : Program} {t : TypeId} {w : World} {s : Nat} {v : Value} {n : Nat} {cs : List Value} (h : Sl w s v n cs) (hs : isS (P.underlying t) = true) (hz : ∀ W, (Go.sizeOf (elemT (P.underlying t))).run P W = .ok s W) (k : IntKind) (i : Nat) (hi : i ≤ n) :
  ∃ u,(∀ W,(Instr.sliceAt t v (some (.int k i)) none none).run P W = .ok u W) ∧ (∀ W,Sl W s v n cs → Sl W s u (n - i) (cs.drop (i * s))) ∧ slB u = slB v := by
 obtain ⟨a, c, hv⟩ : ∃ a c, v = .slice a n c := by
  rcases h.val with ⟨c, h1, h2⟩ | ⟨b', o', c', h1, _⟩
  ·exact ⟨_,_,by rw [h1,h2]⟩
  ·exact ⟨_,_,h1⟩
 subst hv
 refine ⟨sliced a i n c s, fun W => ?_, fun W hS => ?_, ?_⟩
 ·have := sl_l (P := P) hs a n c k i (by omega) (by omega) W
  rw [this,hz]
  simp
 ·have hm : i * s ≤ n * s := Nat.mul_le_mul_right _ hi
  refine ⟨by rw [List.length_drop, hS.len, Nat.sub_mul], ?_, ?_⟩
  ·rcases hS.val with ⟨c', h1, h2⟩ | ⟨b', o', c', h1, h2⟩
   ·cases h1
    have : i = 0 := by omega
    subst this
    exact .inl ⟨c,by simp [sliced],by omega⟩
   ·cases h1
    refine .inr ?_
    unfold sliced
    split
    ·exact ⟨b',o',_,rfl,by omega⟩
    ·exact ⟨b',o' + i * s,c - i,by simp,by omega⟩
  ·intro j u hj
   rw [List.getElem?_drop] at hj
   have hc := hS.at_ _ u hj
   have hlt := (List.getElem?_eq_some_iff.1 hj).1
   rw [hS.len] at hlt
   rcases hS.val with ⟨c', h1, h2⟩ | ⟨b', o', c', h1, h2⟩
   ·subst h2; omega
   ·cases h1
    by_cases hci : c = i
    ·have : n = i := by omega
     subst this
     omega
    ·have e : sliced (some ⟨b', o', none⟩) i n c s = .slice (some ⟨b', o' + i * s, none⟩) (n - i) (c - i) := by
      unfold sliced; rw [if_neg hci]; simp
     rw [e]
     simp only [slB,slO] at hc ⊢
     rw [Nat.add_assoc]; exact hc
 ·rcases h.val with ⟨c', h1, h2⟩ | ⟨b', o', c', h1, h2⟩
  ·cases h1
   simp [sliced,slB]
  ·cases h1
   unfold sliced
   split
   ·rfl
   ·simp [slB]
theorem flat_at {α : Type} {s : Nat} (g : α → List Value) (hg : ∀ x, (g x).length = s) : ∀ (l : List α) (i j : Nat) (x : α), l[i]? = some x → j < s → (l.flatMap g)[i * s + j]? = (g x)[j]?
 | [],i,j,x,h,_ => by simp at h
 | a :: l, 0, j, x, h, hj => by
  simp at h; subst h
  rw [List.flatMap_cons,Nat.zero_mul,Nat.zero_add,List.getElem?_append_left (by rw [hg]; exact hj)]
 | a :: l, i + 1, j, x, h, hj => by
  have := flat_at g hg l i j x (by simpa using h) hj
  rw [List.flatMap_cons,Nat.add_mul,Nat.one_mul,List.getElem?_append_right (by rw [hg]; omega),hg]
  rw [show i * s + s + j - s = i * s + j from by omega]
  exact this
theorem flat_len {α : Type} {s : Nat} (g : α → List Value) (hg : ∀ x, (g x).length = s) (l : List α) : (l.flatMap g).length = l.length * s := by
 induction l with
 | nil => simp
 | cons a l ih => rw [List.flatMap_cons,List.length_append,hg,ih,List.length_cons,Nat.add_mul,Nat.one_mul,Nat.add_comm]
noncomputable def Xf (S : Nat → Prop) : Nat → Bool := fun k => @decide (S k) (Classical.propDecidable _)
theorem Xf_f {S : Nat → Prop} {k : Nat} (h : ¬ S k) : Xf S k = false := by unfold Xf; simp [h]
theorem Xf_not {S : Nat → Prop} {k : Nat} (h : Xf S k = false) : ¬ S k := by unfold Xf at h; simpa using h
theorem Xf_agr {S : Nat → Prop} {w w' : World} (h : Mod S w w') : Agr (fun k => Xf S k = false) w w' := h.agr fun _ hk => Xf_not hk
def Blk (w : World) (b : Nat) (cs : List Value) : Prop := ∃ t,w.heap[b]? = some (.cells cs.toArray t (0,0))
theorem Blk.cell {w : World} {b : Nat} {cs : List Value} (h : Blk w b cs) (j : Nat) (u : Value) (hj : cs[j]? = some u) : w.cell? ⟨b, j, none⟩ = some u := by
 obtain ⟨t,h⟩ := h
 simp [World.cell?,h,hj]
theorem Blk.thaw {w : World} {b : Nat} {cs : List Value} (h : Blk w b cs) (j : Nat) : w.frozen? ⟨b, j, none⟩ = false := by
 obtain ⟨t,h⟩ := h
 simp [World.frozen?,h]
theorem Blk.lt {w : World} {b : Nat} {cs : List Value} (h : Blk w b cs) : b < w.heap.size := by
 obtain ⟨t,h⟩ := h
 exact (Array.getElem?_eq_some_iff.1 h).1
theorem Blk.keep {w w' : World} {b : Nat} {cs : List Value} (h : Blk w b cs) (hb : w'.heap[b]? = w.heap[b]?) : Blk w' b cs := by
 obtain ⟨t,h⟩ := h
 exact ⟨t,hb.trans h⟩
theorem Blk.ext {w w' : World} {b : Nat} {cs : List Value} (h : Blk w b cs) (he : Ext w w') : Blk w' b cs := h.keep (he.blk b h.lt)
theorem Blk.mod {w w' : World} {b : Nat} {cs : List Value} {S : Nat → Prop} (h : Blk w b cs) (he : Mod S w w') (hs : ¬ S b) : Blk w' b cs := h.keep (he.blk b h.lt hs)
theorem Blk.agr {w w' : World} {b : Nat} {cs : List Value} {S : Nat → Prop} (h : Blk w b cs) (he : Agr S w w') (hs : S b) : Blk w' b cs := h.keep (he.blk b h.lt hs)
theorem Blk.new (w : World) (cs : List Value) (t : TypeId) : Blk (w.alloc (.cells cs.toArray t)) w.heap.size cs := ⟨t,World.alloc_heap_new w _⟩
theorem Blk.set {w : World} {b : Nat} {cs : List Value} (h : Blk w b cs) (j : Nat) (u : Value) : Blk (w.setCell ⟨b, j, none⟩ u) b (cs.set j u) := by
 obtain ⟨t,h⟩ := h
 refine ⟨t,?_⟩
 have := heap_setCell_same w b j cs.toArray t u h
 simpa using this
theorem setCell_id {w : World} {a : Addr} {v : Value} (h : w.cell? a = some v) : w.setCell a v = w := by
 unfold World.setCell
 unfold World.cell? at h
 obtain ⟨hp,tp,dr,os,out⟩ := w
 simp only at h ⊢
 congr 1
 apply Array.ext_getElem?
 intro i
 rw [Array.getElem?_modify]
 by_cases hi : a.block = i
 ·subst hi
  cases hb : hp[a.block]? with
  | none => simp
  | some o =>
   rw [hb] at h
   cases o with
   | cells c e f =>
    simp only at h
    by_cases hs : a.spot.isSome = true
    ·rw [if_pos hs] at h; cases h
    ·rw [if_neg hs] at h
     simp only [if_true,Option.map_some,if_neg hs]
     congr 2
     apply Array.ext_getElem?
     intro j
     rw [Array.getElem?_setIfInBounds]
     split
     ·rename_i hj
      subst hj
      split
      ·exact h.symm
      ·rename_i hlt
       rw [Array.getElem?_eq_none (by omega)] at h; cases h
     ·rfl
   | _ => simp at h
 ·simp [hi]
end Pk
namespace Pk
section
variable {α : Type}
end
end Pk
namespace Pk
open Go
section
variable {κ ν : Type} [DecidableEq κ]
def eqv (m m' : List (κ × ν)) : Prop := m.length = m'.length ∧ ∀ p ∈ m,mget m' p.1 = some p.2
instance [DecidableEq ν] (m m' : List (κ × ν)) : Decidable (eqv m m') := inferInstanceAs (Decidable (_ ∧ _))
end
end Pk
namespace Pk
open Go
section
variable {κ ν : Type} {ek : κ → Value} {ew : ν → Value} {P : Program}
variable [DecidableEq κ]
end
end Pk
namespace Pk
open Go
set_option maxRecDepth 10000
def putC (w : World) (b : Nat) : Nat → List Value → World
 | _,[] => w
 | o,u :: cs => putC (w.setCell ⟨b,o,none⟩ u) b (o + 1) cs
def setL (xs : List Value) : Nat → List Value → List Value
 | _,[] => xs
 | o,u :: cs => setL (xs.set o u) (o + 1) cs
theorem setL_eq : ∀ (cs xs : List Value) (o : Nat), o + cs.length ≤ xs.length → setL xs o cs = xs.take o ++ cs ++ xs.drop (o + cs.length)
 | [],xs,o,_ => by simp [setL]
 | u :: cs, xs, o, h => by
  simp only [List.length_cons] at h
  have := setL_eq cs (xs.set o u) (o + 1) (by simp; omega)
  rw [setL,this]
  apply List.ext_getElem?
  intro k
  rw [List.drop_set_of_lt (by omega),List.length_cons,show o + (cs.length + 1) = o + 1 + cs.length by omega]
  congr 2
  have ht : List.take (o + 1) (xs.set o u) = List.take o xs ++ [u] := by
   rw [List.take_add_one,List.take_set_of_le (Nat.le_refl _),List.getElem?_set_self (by omega)]
   rfl
  rw [ht]
  simp
theorem putC_mod {b : Nat} : ∀ (cs : List Value) {a w : World} (o : Nat), Mod (fun k => k = b) a w → Mod (fun k => k = b) a (putC w b o cs)
 | [],_,_,_,h => h
 | _ :: cs,_,_,o,h => putC_mod cs (o + 1) (h.setCell _ _ (.inl rfl))
end Pk
namespace Pk
open Go
set_option maxRecDepth 10000
theorem own_nothing (w : World) (base : Nat) (e : TypeId) (s : Nat) : w.ownsRow base e s (.slice none 0 0) 0 [] := ⟨by simp,.inl ⟨rfl,rfl⟩⟩
end Pk