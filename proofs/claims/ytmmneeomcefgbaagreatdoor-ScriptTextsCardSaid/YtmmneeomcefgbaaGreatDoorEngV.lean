/-
  The engine,part V: values of flat types (their cells are numbers,bools and strings) compared; maps whose keys are such.
-/
import Derived.Test.YtmmneeomcefgbaaGreatDoorEngR
import Derived.DeepKeys
import Derived.Test.YtmmneeomcefgbaaGreatDoorEngJ
import Derived.Laws.IdiomCopy
namespace Pk
open Go
def shp1 : CK → Value → Bool
  | .int k,.int k' _ => decide (k = k')
  | .bool,.bool _ => true
  | .str,.string _ => true
  | _,_ => false
def shp : List CK → List Value → Bool
  | [],[] => true
  | k :: ks,v :: vs => shp1 k v && shp ks vs
  | _,_ => false
def eqc : Value → Value → Bool
  | .int _ a,.int _ b => a == b
  | .bool a,.bool b => a == b
  | .string a,.string b => a == b
  | _,_ => false
def eqcs : List Value → List Value → Bool
  | [],[] => true
  | x :: xs,y :: ys => eqc x y && eqcs xs ys
  | _,_ => false
theorem shp_len : ∀ {ks : List CK} {vs : List Value}, shp ks vs = true → vs.length = ks.length
  | [],[],_ => rfl
  | _ :: _,_ :: _,h => congrArg (· + 1) (shp_len (Bool.and_eq_true_iff.1 h).2)
  | [],_ :: _,h => by cases h
  | _ :: _,[],h => by cases h
theorem shp_app : ∀ {ks ls : List CK} {vs : List Value}, shp (ks ++ ls) vs = true → shp ks (vs.take ks.length) = true ∧ shp ls (vs.drop ks.length) = true
  | [],ls,vs,h => ⟨rfl,h⟩
  | k :: ks,ls,[],h => by cases h
  | k :: ks, ls, v :: vs, h => by
    obtain ⟨h1,h2⟩ := Bool.and_eq_true_iff.1 h
    obtain ⟨h3,h4⟩ := shp_app h2
    exact ⟨Bool.and_eq_true_iff.2 ⟨h1,h3⟩,h4⟩
theorem eqcs_app : ∀ (a b c d : List Value), a.length = b.length → eqcs (a ++ c) (b ++ d) = (eqcs a b && eqcs c d)
  | [],[],c,d,_ => by simp [eqcs]
  | x :: a, y :: b, c, d, h => by
    simp only [List.cons_append,eqcs,eqcs_app a b c d (by simpa using h),Bool.and_assoc]
  | [],_ :: _,_,_,h => by simp at h
  | _ :: _,[],_,_,h => by simp at h
def aggT (P : Program) (t : TypeId) : Bool := match P.underlying t with | some (.struct _) | some (.array _ _) => true | _ => false
/-- The value of these cells. -/
def mkV (P : Program) (t : TypeId) (cs : List Value) : Value := if aggT P t then .agg cs.toArray else cs.headD undef
def flatQs (P : Program) (g : TypeId → Option (List CK)) : List Field → Nat → Option (List CK)
  | [],_ => some []
  | f :: fs, off => match g f.type, flatQs P g fs (off + P.cellsOf f.type) with
    | some l, some r => if f.offset == off && (P.cellsOf f.type == l.length && decide (f.name ≠ "_")) then some (l ++ r) else none
    | _,_ => none
def flatQ (P : Program) : Nat → TypeId → Option (List CK)
  | 0,_ => none
  | n + 1, t => match P.underlying t with
    | some (.int k) => some [.int k]
    | some .bool => some [.bool]
    | some .string => some [.str]
    | some (.struct ⟨fs⟩) => if P.stoodInHeld t then none else (flatQs P (flatQ P n) fs 0).bind fun l => if P.cellsOf t == l.length then some l else none
    | some (.array len e) => (flatQ P n e).bind fun l => if P.cellsOf e == l.length && P.cellsOf t == len * l.length then some (List.replicate len l).flatten else none
    | _ => none
section
variable {P : Program} (w : World)
theorem flatQ_info {n : Nat} {t : TypeId} {l : List CK} (h : flatQ P n t = some l) : ∃ i, P.info? t = some i := by
  cases n with
  | zero => cases h
  | succ n =>
    unfold flatQ at h
    cases hu : P.underlying t with
    | none => rw [hu] at h; cases h
    | some d => exact info_of_underlying hu
theorem flatQ_len : ∀ {n : Nat} {t : TypeId} {l : List CK}, flatQ P n t = some l → aggT P t = false → ∃ k, l = [k]
  | 0,_,_,h,_ => by cases h
  | n + 1, t, l, h, ha => by
    unfold flatQ at h
    unfold aggT at ha
    split at h
    · cases h; exact ⟨_,rfl⟩
    · cases h; exact ⟨_,rfl⟩
    · cases h; exact ⟨_,rfl⟩
    · rename_i hu; rw [hu] at ha; cases ha
    · rename_i hu; rw [hu] at ha; cases ha
    · cases h
theorem run_part_flat {n : Nat} {e : TypeId} {l : List CK} (h : flatQ P n e = some l) (hc : P.cellsOf e = l.length) (xs : Array Value) (off : Nat) (hx : off + l.length ≤ xs.size) :
    (part e xs off).run P w = .ok (mkV P e ((xs.toList.drop off).take l.length)) w := by
  obtain ⟨i,hi⟩ := flatQ_info h
  have key : (isAgg e).run P w = .ok (aggT P e) w := by
    unfold isAgg aggT
    cases n with
    | zero => cases h
    | succ n =>
      unfold flatQ at h
      cases hu : P.underlying e with
      | none => rw [hu] at h; cases h
      | some d =>
        simp only [Sem.run_bind,run_underlying hu,Result.andThen_ok]
        cases d <;> rfl
  unfold part mkV
  simp only [Sem.run_bind,key,Result.andThen_ok]
  cases ha : aggT P e with
  | true =>
    simp only [if_true,Sem.run_bind,run_sizeOf w hi,Result.andThen_ok,Sem.run_pure,hc]
    congr 2
    apply Array.ext'
    rw [Array.toList_extract]
    simp [List.extract]
  | false =>
    obtain ⟨k,rfl⟩ := flatQ_len h ha
    simp only [Bool.false_eq_true,if_false]
    have hlt : off < xs.size := by simp at hx; omega
    rw [Array.getElem?_eq_getElem hlt]
    simp only [Sem.run_pure]
    congr 1
    rw [List.drop_eq_getElem_cons (by simpa using hlt)]
    simp
theorem shp_int {k : IntKind} {x : List Value} (h : shp [.int k] x = true) : ∃ a, x = [.int k a] := by
  match x,h with
  | [v], h =>
    obtain ⟨h1,_⟩ := Bool.and_eq_true_iff.1 h
    cases v <;> simp [shp1] at h1
    subst h1
    exact ⟨_,rfl⟩
  | [],h => cases h
  | v :: u :: x,h => simp [shp] at h
theorem shp_bool {x : List Value} (h : shp [.bool] x = true) : ∃ a, x = [.bool a] := by
  match x,h with
  | [v], h =>
    obtain ⟨h1,_⟩ := Bool.and_eq_true_iff.1 h
    cases v <;> simp [shp1] at h1
    exact ⟨_,rfl⟩
  | [],h => cases h
  | v :: u :: x,h => simp [shp] at h
theorem shp_str {x : List Value} (h : shp [.str] x = true) : ∃ a, x = [.string a] := by
  match x,h with
  | [v], h =>
    obtain ⟨h1,_⟩ := Bool.and_eq_true_iff.1 h
    cases v <;> simp [shp1] at h1
    exact ⟨_,rfl⟩
  | [],h => cases h
  | v :: u :: x,h => simp [shp] at h
theorem flatQs_inv {g : TypeId → Option (List CK)} {f : Field} {fs : List Field} {off : Nat} {l : List CK} (h : flatQs P g (f :: fs) off = some l) :
    ∃ l1 r, g f.type = some l1 ∧ flatQs P g fs (off + l1.length) = some r ∧ f.offset = off ∧ P.cellsOf f.type = l1.length ∧ f.name ≠ "_" ∧ l = l1 ++ r := by
  unfold flatQs at h
  split at h
  · rename_i l1 r h1 h2
    split at h
    · rename_i hc
      simp only [Bool.and_eq_true,beq_iff_eq,decide_eq_true_eq] at hc
      cases h
      exact ⟨l1,r,h1,by rw [← hc.2.1]; exact h2,hc.1,hc.2.1,hc.2.2,rfl⟩
    · cases h
  · cases h
theorem take_drop_len {α : Type} (xs : List α) (off a b : Nat) : (xs.drop off).take (a + b) = (xs.drop off).take a ++ (xs.drop (off + a)).take b := by
  rw [List.take_add,List.drop_drop]
theorem eqFields_flat {n d : Nat} (ih : ∀ t l, flatQ P n t = some l → ∀ xs ys, shp l xs = true → shp l ys = true → (Op.equalIn d t (mkV P t xs) (mkV P t ys)).run P w = .ok (eqcs xs ys) w) (xs ys : Array Value) : ∀ (fs : List Field) (off : Nat) (l : List CK), flatQs P (flatQ P n) fs off = some l →
    off + l.length ≤ xs.size → off + l.length ≤ ys.size → shp l ((xs.toList.drop off).take l.length) = true → shp l ((ys.toList.drop off).take l.length) = true →
    (Op.eqFields d xs ys fs).run P w = .ok (eqcs ((xs.toList.drop off).take l.length) ((ys.toList.drop off).take l.length)) w
  | [], off, l, h, _, _, _, _ => by
    cases h
    simp [Op.eqFields,eqcs]
  | f :: fs, off, l, h, hx, hy, sx, sy => by
    obtain ⟨l1,r,h1,h2,ho,hc,hn,rfl⟩ := flatQs_inv h
    simp only [List.length_append] at hx hy sx sy ⊢
    rw [take_drop_len] at sx sy ⊢
    rw [take_drop_len ys.toList]
    have tx : ((xs.toList.drop off).take l1.length).length = l1.length := by simp; omega
    have ty : ((ys.toList.drop off).take l1.length).length = l1.length := by simp; omega
    obtain ⟨sx1,sx2⟩ := shp_app sx
    obtain ⟨sy1,sy2⟩ := shp_app sy
    rw [List.take_append_of_le_length (by omega),List.take_of_length_le (by omega)] at sx1 sy1
    have ex : ((xs.toList.drop off).take l1.length ++ (xs.toList.drop (off + l1.length)).take r.length).drop l1.length = (xs.toList.drop (off + l1.length)).take r.length := by
      rw [List.drop_append_of_le_length (by omega),List.drop_of_length_le (by omega)]; rfl
    have ey : ((ys.toList.drop off).take l1.length ++ (ys.toList.drop (off + l1.length)).take r.length).drop l1.length = (ys.toList.drop (off + l1.length)).take r.length := by
      rw [List.drop_append_of_le_length (by omega),List.drop_of_length_le (by omega)]; rfl
    rw [ex] at sx2
    rw [ey] at sy2
    have p1 := run_part_flat w h1 hc xs off (by omega)
    have p2 := run_part_flat w h1 hc ys off (by omega)
    have p3 := ih _ _ h1 _ _ sx1 sy1
    have p4 := eqFields_flat ih xs ys fs _ r h2 (by omega) (by omega) sx2 sy2
    rw [eqcs_app _ _ _ _ (by omega)]
    simp only [Op.eqFields,hn,ne_eq,not_false_eq_true,if_true,Sem.run_bind,ho,p1,p2,p3,Result.andThen_ok]
    cases eqcs (List.take l1.length (List.drop off xs.toList)) (List.take l1.length (List.drop off ys.toList)) with
    | true => simp [p4]
    | false => simp
theorem range'_succ' (k n : Nat) : List.range' k (n + 1) = k :: List.range' (k + 1) n := rfl
theorem eqItems_flat {n d : Nat} {e : TypeId} {l : List CK} (he : flatQ P n e = some l) (hc : P.cellsOf e = l.length) (ih : ∀ xs ys, shp l xs = true → shp l ys = true → (Op.equalIn d e (mkV P e xs) (mkV P e ys)).run P w = .ok (eqcs xs ys) w) (xs ys : Array Value) : ∀ (k j : Nat),
    (j + k) * l.length ≤ xs.size → (j + k) * l.length ≤ ys.size → shp (List.replicate k l).flatten ((xs.toList.drop (j * l.length)).take (k * l.length)) = true → shp (List.replicate k l).flatten ((ys.toList.drop (j * l.length)).take (k * l.length)) = true →
    (Op.eqItems d e (P.cellsOf e) xs ys (List.range' j k)).run P w = .ok (eqcs ((xs.toList.drop (j * l.length)).take (k * l.length)) ((ys.toList.drop (j * l.length)).take (k * l.length))) w
  | 0,j,_,_,_,_ => by simp [Op.eqItems,eqcs]
  | k + 1, j, hx, hy, sx, sy => by
    have e1 : (k + 1) * l.length = l.length + k * l.length := by rw [Nat.succ_mul]; omega
    have e2 : (j + 1) * l.length = j * l.length + l.length := Nat.succ_mul _ _
    have e3 : (j + (k + 1)) * l.length = j * l.length + (l.length + k * l.length) := by rw [Nat.add_mul,e1]
    rw [e3] at hx hy
    rw [e1,take_drop_len,List.replicate_succ,List.flatten_cons] at sx sy
    rw [e1,take_drop_len,take_drop_len ys.toList]
    have tx : ((xs.toList.drop (j * l.length)).take l.length).length = l.length := by simp; omega
    have ty : ((ys.toList.drop (j * l.length)).take l.length).length = l.length := by simp; omega
    obtain ⟨sx1,sx2⟩ := shp_app sx
    obtain ⟨sy1,sy2⟩ := shp_app sy
    rw [List.take_append_of_le_length (by omega),List.take_of_length_le (by omega)] at sx1 sy1
    rw [List.drop_append_of_le_length (by omega),List.drop_of_length_le (by omega)] at sx2 sy2
    simp only [List.nil_append] at sx2 sy2
    rw [← e2] at sx2 sy2 ⊢
    have p1 := run_part_flat w he hc xs (j * l.length) (by omega)
    have p2 := run_part_flat w he hc ys (j * l.length) (by omega)
    have p3 := ih _ _ sx1 sy1
    have p4 := eqItems_flat he hc ih xs ys k (j + 1) (by rw [Nat.add_mul,e2]; omega) (by rw [Nat.add_mul,e2]; omega) sx2 sy2
    rw [eqcs_app _ _ _ _ (by omega),range'_succ']
    simp only [Op.eqItems,Sem.run_bind,hc,p1,p2,p3,Result.andThen_ok]
    rw [hc] at p4
    cases eqcs (List.take l.length (List.drop (j * l.length) xs.toList)) (List.take l.length (List.drop (j * l.length) ys.toList)) with
    | true => simp [p4]
    | false => simp
theorem flat_rep (l : List CK) : ∀ n, (List.replicate n l).flatten.length = n * l.length
  | 0 => by simp
  | n + 1 => by rw [List.replicate_succ,List.flatten_cons,List.length_append,flat_rep l n,Nat.succ_mul]; omega
theorem equalIn_flat (d : Nat) : ∀ (n : Nat) (t : TypeId) (l : List CK), flatQ P n t = some l → ∀ xs ys, shp l xs = true → shp l ys = true → (Op.equalIn (d + n) t (mkV P t xs) (mkV P t ys)).run P w = .ok (eqcs xs ys) w
  | 0,_,_,h,_,_,_,_ => by cases h
  | n + 1, t, l, h, xs, ys, sx, sy => by
    unfold flatQ at h
    rw [show d + (n + 1) = (d + n) + 1 from rfl]
    split at h
    · rename_i k hu
      cases h
      obtain ⟨a,rfl⟩ := shp_int sx
      obtain ⟨b,rfl⟩ := shp_int sy
      simp [mkV,aggT,hu,run_equalIn_int w _ _ _ _ a b hu,eqcs,eqc]
    · rename_i hu
      cases h
      obtain ⟨a,rfl⟩ := shp_bool sx
      obtain ⟨b,rfl⟩ := shp_bool sy
      simp [mkV,aggT,hu,run_equalIn_bool' w _ _ a b hu,eqcs,eqc]
    · rename_i hu
      cases h
      obtain ⟨a,rfl⟩ := shp_str sx
      obtain ⟨b,rfl⟩ := shp_str sy
      simp [mkV,aggT,hu,run_equalIn_string w _ _ a b hu,eqcs,eqc,beq_toListBytes]
    · rename_i fs hu
      split at h
      · cases h
      · rename_i hs
        cases hf : flatQs P (flatQ P n) fs 0 with
        | none => rw [hf] at h; cases h
        | some l' =>
          rw [hf,Option.bind_some] at h
          split at h
          · rename_i hc
            cases h
            have lx := shp_len sx
            have ly := shp_len sy
            have hfs : P.fieldsOf t = ⟨fs⟩ := by simp [Program.fieldsOf,hu]
            have := eqFields_flat w (fun t' l' h' => equalIn_flat d n t' l' h') xs.toArray ys.toArray fs 0 l hf (by simp [lx]) (by simp [ly]) (by simpa [← lx] using sx) (by simpa [← ly] using sy)
            simp only [mkV,aggT,hu,if_true]
            rw [run_equalIn_struct w _ t _ _ (by rw [hfs]; exact hu) (by simpa using hs),hfs,this]
            simp only [List.drop_zero]
            rw [List.take_of_length_le (by omega),List.take_of_length_le (by omega)]
          · cases h
    · rename_i len e hu
      cases hf : flatQ P n e with
      | none => rw [hf] at h; cases h
      | some l' =>
        rw [hf,Option.bind_some] at h
        split at h
        · rename_i hc
          simp only [Bool.and_eq_true,beq_iff_eq] at hc
          cases h
          have lx := shp_len sx
          have ly := shp_len sy
          rw [flat_rep] at lx ly
          obtain ⟨i,hi⟩ := flatQ_info hf
          have := eqItems_flat w hf hc.1 (fun xs ys h1 h2 => equalIn_flat d n e l' hf xs ys h1 h2) xs.toArray ys.toArray len 0 (by simp [lx]) (by simp [ly]) (by rw [← lx]; simpa using sx) (by rw [← ly]; simpa using sy)
          simp only [mkV,aggT,hu,if_true]
          rw [run_equalIn_array w _ _ _ hu hi,List.range_eq_range',this]
          simp only [Nat.zero_mul,List.drop_zero]
          rw [List.take_of_length_le (by omega),List.take_of_length_le (by omega)]
        · cases h
    · cases h
end
/-- What simp asks of a flat type. -/
def flatA (P : Program) (t : TypeId) : Option (List CK) := if aggT P t then flatQ P 12 t else none
theorem equal_flat {P : Program} (w : World) {t : TypeId} {l : List CK} (h : flatA P t = some l) {xs ys : Array Value} (hx : shp l xs.toList = true) (hy : shp l ys.toList = true) :
    (Op.equal t (.agg xs) (.agg ys)).run P w = .ok (eqcs xs.toList ys.toList) w := by
  unfold flatA at h
  split at h
  · rename_i ha
    have := equalIn_flat w 9988 12 t l h _ _ hx hy
    simpa [mkV,ha,Op.equal,Op.maxDepth] using this
  · cases h
theorem run_eql_flat {P : Program} (w : World) {t : TypeId} {l : List CK} (h : flatA P t = some l) (xs ys : Array Value) (hx : shp l xs.toList = true) (hy : shp l ys.toList = true) :
    (binOp .eql t (.agg xs) (.agg ys)).run P w = .ok (.bool (eqcs xs.toList ys.toList)) w := by
  rw [run_eql_struct]
  have := equal_flat w h hx hy
  simp only [Op.equal,Op.maxDepth] at this
  rw [this]
  rfl
/-! ### Keys -/
section
variable {P : Program} (w : World)
end
end Pk
namespace Pk
open Go
section
variable {κ ν : Type} {ek : κ → Value} {ew : ν → Value} {P : Program} {w : World} {v : Value} {m : List (κ × ν)}
def MapV (ek : κ → Value) (ew : ν → Value) (w : World) (v : Value) (m : List (κ × ν)) : Prop :=
  (∃ r,v = .map (some r) ∧ MapAt ek ew w r m) ∨ (v = .map none ∧ m = [])
theorem MapAt.val {r : Nat} (h : MapAt ek ew w r m) : MapV ek ew w (.map (some r)) m := .inl ⟨r,rfl,h⟩
theorem MapV.nil : MapV ek ew w (.map none) ([] : List (κ × ν)) := .inr ⟨rfl,rfl⟩
theorem MapV.keep {w' : World} (h : MapV ek ew w v m) (hb : ∀ r, v = .map (some r) → r < w.heap.size → w'.heap[r]? = w.heap[r]?) : MapV ek ew w' v m := by
  rcases h with ⟨r, rfl, h⟩ | h
  · exact .inl ⟨r,rfl,h.keep (hb r rfl h.lt)⟩
  · exact .inr h
theorem MapV.ext {w' : World} (h : MapV ek ew w v m) (he : Ext w w') : MapV ek ew w' v m := h.keep fun r _ hr => he.blk r hr
theorem MapV.mod {w' : World} {S : Nat → Prop} (h : MapV ek ew w v m) (he : Mod S w w') (hs : ∀ r,v = .map (some r) → ¬ S r) : MapV ek ew w' v m := h.keep fun r e hr => he.blk r hr (hs r e)
theorem MapV.agr {w' : World} {S : Nat → Prop} (h : MapV ek ew w v m) (he : Agr S w w') (hs : ∀ r,v = .map (some r) → S r) : MapV ek ew w' v m := h.keep fun r e hr => he.blk r hr (hs r e)
theorem MapV.lt (h : MapV ek ew w v m) {r : Nat} (e : v = .map (some r)) : r < w.heap.size := by
  rcases h with ⟨r', rfl, h⟩ | ⟨rfl, _⟩
  · cases e; exact h.lt
  · cases e
theorem MapV.nodup (h : MapV ek ew w v m) : (m.map (·.1)).Nodup := by
  rcases h with ⟨r, rfl, h⟩ | ⟨rfl, rfl⟩
  · exact h.nodup
  · exact List.nodup_nil
theorem MapV.lookup [DecidableEq κ] {T K E : TypeId} (h : MapV ek ew w v m) (hK : KeyEq P K ek) (hT : P.underlying T = some (.map K E)) {z : Value} (hz : (zeroValue E).run P w = .ok z w) (k : κ) (ok : Bool) :
    (Instr.lookup T v (ek k) ok).run P w = .ok (if ok then .tuple #[((mget m k).map ew).getD z,.bool (mget m k).isSome] else ((mget m k).map ew).getD z) w := by
  rcases h with ⟨r, rfl, h⟩ | ⟨rfl, rfl⟩
  · exact h.lookup hK hT hz k ok
  · have hu := run_und hT w
    have hc := hK.check true k w
    have hf := hK.find k [] [] w rfl
    unfold Instr.lookup
    simp only [Sem.run_bind,hu,Result.andThen_ok,Sem.run_pure,Array.isEmpty_empty,hc,hf]
    cases ok <;> simp [hz,mget]
theorem MapV.len {T : TypeId} (h : MapV ek ew w v m) (hT : isM (P.underlying T) = true) (ty : TypeId) : (Builtin.len_ #[T] ty #[v]).run P w = .ok (.int .i64 m.length) w := by
  rcases h with ⟨r, rfl, h⟩ | ⟨rfl, rfl⟩
  · exact h.len hT ty
  · have hu := run_und (isM_inv hT) w
    simp [Builtin.len_,hu,goInt]
def VIter (ek : κ → Value) (ew : ν → Value) (w : World) (b : Nat) (v : Value) (m : List (κ × ν)) (idxs : List Nat) : Prop :=
  (∃ r,v = .map (some r) ∧ MIter ek ew w b r m idxs) ∨ (v = .map none ∧ m = [] ∧ idxs = [] ∧ ∃ c s d,w.heap[b]? = some (.mapIter none c s d))
variable {b : Nat} {idxs : List Nat}
theorem VIter.keep {w' : World} (h : VIter ek ew w b v m idxs) (h1 : ∀ r, v = .map (some r) → w'.heap[r]? = w.heap[r]?) (h2 : w'.heap[b]? = w.heap[b]?) : VIter ek ew w' b v m idxs := by
  rcases h with ⟨r, rfl, h⟩ | ⟨rfl, h3, h4, c, s, d, h5⟩
  · exact .inl ⟨r,rfl,h.keep (h1 r rfl) h2⟩
  · exact .inr ⟨rfl,h3,h4,c,s,d,h2.trans h5⟩
theorem VIter.lt (h : VIter ek ew w b v m idxs) : (∀ r, v = .map (some r) → r < w.heap.size) ∧ b < w.heap.size := by
  rcases h with ⟨r, rfl, h⟩ | ⟨rfl, h3, h4, c, s, d, h5⟩
  · exact ⟨fun r' e => by cases e; exact h.lt.1,h.lt.2⟩
  · exact ⟨fun r' e => (by cases e),(Array.getElem?_eq_some_iff.1 h5).1⟩
theorem VIter.ext {w' : World} (h : VIter ek ew w b v m idxs) (he : Ext w w') : VIter ek ew w' b v m idxs := h.keep (fun r e => he.blk _ (h.lt.1 r e)) (he.blk _ h.lt.2)
theorem VIter.mod {w' : World} {S : Nat → Prop} (h : VIter ek ew w b v m idxs) (hM : Mod S w w') (h1 : ∀ r,v = .map (some r) → ¬ S r) (h2 : ¬ S b) : VIter ek ew w' b v m idxs := h.keep (fun r e => hM.blk _ (h.lt.1 r e) (h1 r e)) (hM.blk _ h.lt.2 h2)
theorem VIter.agr {w' : World} {S : Nat → Prop} (h : VIter ek ew w b v m idxs) (hM : Agr S w w') (h1 : ∀ r,v = .map (some r) → S r) (h2 : S b) : VIter ek ew w' b v m idxs := h.keep (fun r e => hM.blk _ (h.lt.1 r e) (h1 r e)) (hM.blk _ h.lt.2 h2)
theorem VIter.obj (h : VIter ek ew w b v m idxs) : ∃ a c s d, w.heap[b]? = some (.mapIter a c s d) := by
  rcases h with ⟨r, rfl, h⟩ | ⟨rfl, h3, h4, c, s, d, h5⟩
  · exact h.obj
  · exact ⟨_,_,_,_,h5⟩
theorem VIter.bound (h : VIter ek ew w b v m idxs) : idxs.length ≤ m.length := by
  rcases h with ⟨r, rfl, h⟩ | ⟨rfl, rfl, rfl, _⟩
  · exact h.bound
  · exact Nat.le_refl _
theorem MapV.range (h : MapV ek ew w v m) {T K E : TypeId} (hT : P.underlying T = some (.map K E)) :
    ∃ o,(Instr.range T v).run P w = .ok (.pointer (some ⟨w.heap.size,0,none⟩)) (w.alloc o) ∧ VIter ek ew (w.alloc o) w.heap.size v m [] := by
  rcases h with ⟨r, rfl, h⟩ | ⟨rfl, rfl⟩
  · obtain ⟨o,h1,h2⟩ := h.range hT
    exact ⟨o,h1,.inl ⟨r,rfl,h2⟩⟩
  · have hu := run_und hT w
    refine ⟨.mapIter none 0 #[] 0,?_,.inr ⟨rfl,rfl,rfl,_,_,_,World.alloc_heap_new w _⟩⟩
    unfold Instr.range
    simp [hu,newObj,Sem.run]
theorem VIter.next (h : VIter ek ew w b v m idxs) (ty : TypeId) :
    (idxs.Perm (List.range m.length) ∧ (Instr.next (.pointer (some ⟨b,0,none⟩)) false ty).run P w = .ok (.tuple #[.bool false]) w) ∨
    ∃ (i : Nat) (p : κ × ν) (w' : World), m[i]? = some p ∧ i ∉ idxs ∧ (Instr.next (.pointer (some ⟨b, 0, none⟩)) false ty).run P w = .ok (.tuple #[.bool true, ek p.1, ew p.2]) w' ∧ VIter ek ew w' b v m (idxs ++ [i]) ∧ Mod (· = b) w w' ∧
      (Instr.entry (.pointer (some ⟨b,0,none⟩))).run P w' = .ok (.tuple #[ek p.1,ew p.2]) w' ∧ w'.heap.size = w.heap.size := by
  rcases h with ⟨r, rfl, h⟩ | ⟨rfl, rfl, rfl, c, s, d, h5⟩
  · rcases h.next (P := P) ty with h1 | ⟨i, p, w', h1, h2, h3, h4, h5⟩
    · exact .inl h1
    · exact .inr ⟨i,p,w',h1,h2,h3,.inl ⟨r,rfl,h4⟩,h5⟩
  · left
    refine ⟨by simp,?_⟩
    have hg : (getObj b).run P w = .ok (.mapIter none c s d) w := by simp [getObj,Sem.run,h5]
    unfold Instr.next
    simp [hg]
/-- What has been gone over. -/
def seenOf (m : List (κ × ν)) (idxs : List Nat) : List (κ × ν) := idxs.filterMap fun i => m[i]?
theorem seenOf_snoc {m : List (κ × ν)} {idxs : List Nat} {i : Nat} {p : κ × ν} (hp : m[i]? = some p) : seenOf m (idxs ++ [i]) = seenOf m idxs ++ [p] := by
  unfold seenOf
  rw [List.filterMap_append]
  simp [hp]
theorem seenOf_all {m : List (κ × ν)} {idxs : List Nat} (h : idxs.Perm (List.range m.length)) : (seenOf m idxs).Perm m := by
  have h2 : ∀ l : List (κ × ν), (List.range l.length).filterMap (fun i => l[i]?) = l := by
    intro l
    induction l with
    | nil => rfl
    | cons a l ih =>
      rw [List.length_cons,List.range_succ_eq_map,List.filterMap_cons]
      simp [List.filterMap_map,Function.comp_def]
      exact ih
  have := h.filterMap (fun i => m[i]?)
  rw [h2] at this
  exact this
theorem seenOf_len (m : List (κ × ν)) (idxs : List Nat) : (seenOf m idxs).length ≤ idxs.length := List.length_filterMap_le _ _
end

/-! ### Several new blocks -/
theorem cell_far (w : World) (b j : Nat) (h : w.heap.size ≤ b) : w.cell? ⟨b, j, none⟩ = none := by
  unfold World.cell?
  simp only [Array.getElem?_eq_none h]
@[simp] theorem cell_far1 (w : World) (j : Nat) : w.cell? ⟨w.heap.size + 1,j,none⟩ = none := cell_far w _ j (by omega)
@[simp] theorem cell_far2 (w : World) (j : Nat) : w.cell? ⟨w.heap.size + 1 + 1,j,none⟩ = none := cell_far w _ j (by omega)
@[simp] theorem cell_far3 (w : World) (j : Nat) : w.cell? ⟨w.heap.size + 1 + 1 + 1,j,none⟩ = none := cell_far w _ j (by omega)
@[simp] theorem cell_far4 (w : World) (j : Nat) : w.cell? ⟨w.heap.size + 1 + 1 + 1 + 1,j,none⟩ = none := cell_far w _ j (by omega)
@[simp] theorem cell_far5 (w : World) (j : Nat) : w.cell? ⟨w.heap.size + 1 + 1 + 1 + 1 + 1,j,none⟩ = none := cell_far w _ j (by omega)
@[simp] theorem cell_far6 (w : World) (j : Nat) : w.cell? ⟨w.heap.size + 1 + 1 + 1 + 1 + 1 + 1,j,none⟩ = none := cell_far w _ j (by omega)
theorem frozen_far (w : World) (b j : Nat) (h : w.heap.size ≤ b) : w.frozen? ⟨b, j, none⟩ = false := by
  unfold World.frozen?
  simp only [Array.getElem?_eq_none h]
@[simp] theorem frozen_far1 (w : World) (j : Nat) : w.frozen? ⟨w.heap.size + 1,j,none⟩ = false := frozen_far w _ j (by omega)
@[simp] theorem frozen_far2 (w : World) (j : Nat) : w.frozen? ⟨w.heap.size + 1 + 1,j,none⟩ = false := frozen_far w _ j (by omega)
@[simp] theorem frozen_far3 (w : World) (j : Nat) : w.frozen? ⟨w.heap.size + 1 + 1 + 1,j,none⟩ = false := frozen_far w _ j (by omega)
@[simp] theorem frozen_far4 (w : World) (j : Nat) : w.frozen? ⟨w.heap.size + 1 + 1 + 1 + 1,j,none⟩ = false := frozen_far w _ j (by omega)
@[simp] theorem frozen_far5 (w : World) (j : Nat) : w.frozen? ⟨w.heap.size + 1 + 1 + 1 + 1 + 1,j,none⟩ = false := frozen_far w _ j (by omega)
@[simp] theorem frozen_far6 (w : World) (j : Nat) : w.frozen? ⟨w.heap.size + 1 + 1 + 1 + 1 + 1 + 1,j,none⟩ = false := frozen_far w _ j (by omega)
@[simp] theorem ne_far2 (n : Nat) : (n + 1 + 1 = n) = False := eq_false (by omega)
@[simp] theorem ne_far3 (n : Nat) : (n + 1 + 1 + 1 = n) = False := eq_false (by omega)
@[simp] theorem ne_far4 (n : Nat) : (n + 1 + 1 + 1 + 1 = n) = False := eq_false (by omega)
@[simp] theorem ne_far5 (n : Nat) : (n + 1 + 1 + 1 + 1 + 1 = n) = False := eq_false (by omega)
@[simp] theorem ne_far6 (n : Nat) : (n + 1 + 1 + 1 + 1 + 1 + 1 = n) = False := eq_false (by omega)
@[simp] theorem ne_far2' (n : Nat) : (n = n + 1 + 1) = False := eq_false (by omega)
@[simp] theorem ne_far3' (n : Nat) : (n = n + 1 + 1 + 1) = False := eq_false (by omega)
@[simp] theorem ne_far4' (n : Nat) : (n = n + 1 + 1 + 1 + 1) = False := eq_false (by omega)
@[simp] theorem ne_far5' (n : Nat) : (n = n + 1 + 1 + 1 + 1 + 1) = False := eq_false (by omega)
@[simp] theorem ne_far6' (n : Nat) : (n = n + 1 + 1 + 1 + 1 + 1 + 1) = False := eq_false (by omega)
end Pk
namespace Pk
section
variable {κ ν : Type} [DecidableEq κ]
theorem kget_cons (p : κ × ν) (m : List (κ × ν)) (z : κ) : mget (p :: m) z = if p.1 = z then some p.2 else mget m z := by
  unfold mget
  rw [List.find?_cons]
  by_cases h : p.1 = z <;> simp [h]
theorem kget_mem {m : List (κ × ν)} {k : κ} {v : ν} (h : mget m k = some v) : (k, v) ∈ m := by
  unfold mget at h
  rw [Option.map_eq_some_iff] at h
  obtain ⟨q,h1,rfl⟩ := h
  have h2 := List.find?_some h1
  have h3 := List.mem_of_find?_eq_some h1
  simp at h2
  subst h2
  exact h3
theorem kget_none {m : List (κ × ν)} {k : κ} (h : mget m k = none) : ∀ p ∈ m, p.1 ≠ k := by
  intro p hp e
  unfold mget at h
  rw [Option.map_eq_none_iff,List.find?_eq_none] at h
  have := h p hp
  simp at this
  exact this e
theorem kget_iff {m : List (κ × ν)} (h : (m.map (·.1)).Nodup) {k : κ} {v : ν} : mget m k = some v ↔ (k, v) ∈ m := by
  refine ⟨kget_mem,fun hm => ?_⟩
  induction m with
  | nil => cases hm
  | cons p m ih =>
    rw [kget_cons]
    rw [List.map_cons,List.nodup_cons] at h
    rcases List.mem_cons.1 hm with rfl | hm
    · simp
    · have : p.1 ≠ k := fun e => h.1 (e ▸ List.mem_map.2 ⟨(k,v),hm,rfl⟩)
      rw [if_neg this]
      exact ih h.2 hm
theorem kset_keys (m : List (κ × ν)) (k : κ) (v : ν) : (mset m k v).map (·.1) = if (mget m k).isSome then m.map (·.1) else m.map (·.1) ++ [k] := by
  unfold mset
  split
  · rw [List.map_map]
    refine List.map_congr_left fun p _ => ?_
    simp only [Function.comp]
    split
    · rename_i h; exact h.symm
    · rfl
  · simp
theorem kset_nodup {m : List (κ × ν)} (h : (m.map (·.1)).Nodup) (k : κ) (v : ν) : ((mset m k v).map (·.1)).Nodup := by
  rw [kset_keys]
  cases hg : mget m k with
  | some u => simpa using h
  | none =>
    simp only [Option.isSome_none,Bool.false_eq_true,if_false]
    rw [List.nodup_append]
    refine ⟨h,by simp,fun a ha b hb => ?_⟩
    simp at hb
    subst hb
    obtain ⟨p,hp,rfl⟩ := List.mem_map.1 ha
    exact kget_none hg p hp
/-- A value that is written as what was there leaves what is made of the entries. -/
theorem kset_map {β : Type} {m : List (κ × ν)} (hn : (m.map (·.1)).Nodup) {k : κ} {u v : ν} (h : mget m k = some u) (f : κ × ν → β) (hf : f (k, v) = f (k, u)) : (mset m k v).map f = m.map f := by
  unfold mset
  rw [h]
  simp only [Option.isSome_some,if_true]
  rw [List.map_map]
  refine List.map_congr_left fun p hp => ?_
  simp only [Function.comp]
  split
  · rename_i e
    have : mget m p.1 = some p.2 := (kget_iff hn).2 hp
    rw [e,h] at this
    cases this
    rw [hf,← e]
  · rfl
/-- What is counted over the entries. -/
def tot (g : ν → Nat) (m : List (κ × ν)) : Nat := (m.map (fun p => g p.2)).sum
end
open Go
theorem cell_setCell (w : World) (b i b' j : Nat) (v : Value) : (w.setCell ⟨b, i, none⟩ v).cell? ⟨b', j, none⟩ = if b' = b ∧ j = i then (w.cell? ⟨b, i, none⟩).map (fun _ => v) else w.cell? ⟨b', j, none⟩ := by
  by_cases h : b' = b ∧ j = i
  · obtain ⟨rfl,rfl⟩ := h
    rw [if_pos ⟨rfl,rfl⟩]
    cases hc : w.cell? ⟨b',j,none⟩ with
    | some u => exact World.cell?_setCell_same _ _ _ hc
    | none =>
      unfold World.cell? at hc ⊢
      unfold World.setCell
      simp only [Array.getElem?_modify,if_true]
      cases ho : w.heap[b']? with
      | none => simp
      | some o =>
        rw [ho] at hc
        cases o <;> simp_all
  · rw [if_neg h]
    exact World.cell?_setCell_other _ _ _ _ (by simp only [ne_eq,Addr.mk.injEq,and_true]; exact fun e => h ⟨e.1.symm,e.2.symm⟩)
end Pk
namespace Pk
open Go
/-! ### Tests,as what they decide -/
theorem beq_dec (a b : Int) : (a == b) = decide (a = b) := by
  by_cases h : a = b <;> simp [h]
theorem bne_dec (a b : Int) : (a != b) = !decide (a = b) := by
  by_cases h : a = b <;> simp [h]
/-- The entry of k,by its stamp. -/
def EntAt {κ : Type} (ek : κ → Value) (w : World) (r : Nat) (k : κ) (n : Nat) : Prop :=
  ∃ es c i,∃ e : MapEntry,w.heap[r]? = some (.map es c) ∧ es.toList[i]? = some e ∧ e.key = ek k ∧ e.born = n ∧ (∀ (j : Nat) (e' : MapEntry),es.toList[j]? = some e' → e'.born = n → j = i)
theorem EntAt.keep {κ : Type} {ek : κ → Value} {w w' : World} {r : Nat} {k : κ} {n : Nat} (h : EntAt ek w r k n) (hb : w'.heap[r]? = w.heap[r]?) : EntAt ek w' r k n := by
  obtain ⟨es,c,i,e,h1,h2⟩ := h
  exact ⟨es,c,i,e,hb.trans h1,h2⟩
theorem EntAt.lt {κ : Type} {ek : κ → Value} {w : World} {r : Nat} {k : κ} {n : Nat} (h : EntAt ek w r k n) : r < w.heap.size := by
  obtain ⟨es,c,i,e,h1,h2⟩ := h
  exact (Array.getElem?_eq_some_iff.1 h1).1
theorem EntAt.ext {κ : Type} {ek : κ → Value} {w w' : World} {r : Nat} {k : κ} {n : Nat} (h : EntAt ek w r k n) (he : Ext w w') : EntAt ek w' r k n := h.keep (he.blk r h.lt)
theorem EntAt.mod {κ : Type} {ek : κ → Value} {w w' : World} {r : Nat} {k : κ} {n : Nat} {S : Nat → Prop} (h : EntAt ek w r k n) (he : Mod S w w') (hs : ¬ S r) : EntAt ek w' r k n := h.keep (he.blk r h.lt hs)
theorem born_uniq {es : List MapEntry} (h : (es.map (·.born)).Pairwise (· < ·)) {i j : Nat} {e e' : MapEntry} (hi : es[i]? = some e) (hj : es[j]? = some e') (hb : e'.born = e.born) : j = i := by
  have hp := List.pairwise_iff_getElem.1 h
  obtain ⟨hil,hi'⟩ := List.getElem?_eq_some_iff.1 hi
  obtain ⟨hjl,hj'⟩ := List.getElem?_eq_some_iff.1 hj
  rcases Nat.lt_trichotomy i j with hlt | hlt | hlt
  · have := hp i j (by simpa using hil) (by simpa using hjl) hlt
    simp [hi',hj',hb] at this
  · exact hlt.symm
  · have := hp j i (by simpa using hjl) (by simpa using hil) hlt
    simp [hi',hj',hb] at this
section
variable {κ ν : Type} [DecidableEq κ] {P : Program} {T K E : TypeId} {ek : κ → Value} {ew : ν → Value} {w : World} {r : Nat} {m : List (κ × ν)}
theorem mset_self {m : List (κ × ν)} {k : κ} {v : ν} (hn : (m.map (·.1)).Nodup) (h : mget m k = some v) : mset m k v = m := by
  have := kset_map hn h (fun p => p) rfl
  simpa using this
theorem MapAt.entry (h : MapAt ek ew w r m) (hK : KeyEq P K ek) (hT : P.underlying T = some (.map K E)) {z : ν} (hz : (zeroValue E).run P w = .ok (ew z) w) (k : κ) :
    ∃ w' n,(Instr.mapEntry T (.map (some r)) (ek k)).run P w = .ok (.tuple #[ew ((mget m k).getD z),.int .i64 (n : Nat)]) w' ∧ MapAt ek ew w' r (mset m k ((mget m k).getD z)) ∧ EntAt ek w' r k n ∧ Mod (· = r) w w' ∧ w'.heap.size = w.heap.size := by
  obtain ⟨es,c,h1,h2,h3,h4,hf⟩ := h.found hK k
  have hu := run_und hT w
  have hg : (getObj r).run P w = .ok (.map es c) w := by simp [getObj,Sem.run,h1]
  have hc := hK.check false k w
  have hlt := (Array.getElem?_eq_some_iff.1 h1).1
  have hset : ∀ o,(setObj r o).run P w = .ok () (w.putObj r o) := fun o => by simp [setObj,Sem.run,h1,World.putObj]
  have hlen : es.toList.length = m.length := by have := congrArg List.length h2; simpa using this
  have hmod : ∀ o,Mod (· = r) w (w.putObj r o) := fun o => ⟨rfl,rfl,rfl,by simp,fun b _ hb => World.putObj_heap_other hb⟩
  unfold Instr.mapEntry
  simp only [Sem.run_bind,hu,Result.andThen_ok,hg,hc,hf]
  cases hi : m.findIdx? (fun p => decide (p.1 = k)) with
  | none =>
    have hn : mget m k = none := by rw [mget_eq,hi]; rfl
    refine ⟨w.putObj r (.map (es.push { key := ek k, val := ew z, born := c }) (c + 1)), c, by simp only [Option.bind_none, Sem.run_bind, hz, Result.andThen_ok, hset, hn, Option.getD_none, Sem.run_pure, goInt], ?_, ?_, hmod _, by simp⟩
    · refine ⟨⟨es.push { key := ek k, val := ew z, born := c }, c + 1, World.putObj_heap_same hlt, ?_, ?_, ?_⟩, kset_nodup h.nodup _ _⟩
      · simp [mset,hn,h2]
      · simp only [Array.toList_push,List.map_append,List.map_cons,List.map_nil]
        rw [List.pairwise_append]
        refine ⟨h3,by simp,?_⟩
        intro a ha b hb
        simp at hb; subst hb
        obtain ⟨e,he,rfl⟩ := List.mem_map.1 ha
        exact h4 e he
      · intro e he
        simp only [Array.toList_push,List.mem_append,List.mem_singleton] at he
        rcases he with he | rfl
        · have := h4 e he; omega
        · exact Nat.lt_succ_self _
    · refine ⟨es.push { key := ek k,val := ew z,born := c },c + 1,es.size,{ key := ek k,val := ew z,born := c },World.putObj_heap_same hlt,by simp,rfl,rfl,?_⟩
      intro j e' hj hb
      simp only [Array.toList_push] at hj
      rcases Nat.lt_or_ge j es.toList.length with hjl | hjl
      · rw [List.getElem?_append_left hjl] at hj
        have := h4 e' (List.mem_of_getElem? hj)
        omega
      · have := (List.getElem?_eq_some_iff.1 hj).1
        simp at this hjl
        omega
  | some i =>
    obtain ⟨hil,hpi,hlt'⟩ := List.findIdx?_eq_some_iff_getElem.1 hi
    have hpk : (m[i]).1 = k := by simpa using hpi
    have hmi : m[i]? = some m[i] := List.getElem?_eq_getElem hil
    have hei : i < es.size := by rw [← Array.length_toList,hlen]; exact hil
    have hkey : (es[i]'hei).key = ek k := by
      have := congrArg (fun l => l[i]?) h2
      simp only [List.getElem?_map,hmi,Option.map_some,Array.getElem?_toList,Array.getElem?_eq_getElem hei,Option.some.injEq,Prod.mk.injEq] at this
      rw [this.1,hpk]
    have hk2 : ((es[i]?).map (·.key)).getD (ek k) = ek k := by simp [hei,hkey]
    have hn : mget m k = some (m[i]).2 := by rw [mget_eq,hi]; simp [hmi]
    have hbn : ((es[i]?).map (·.born)).getD 0 = (es[i]'hei).born := by simp [hei]
    have hsame : es.modify i (fun e => { e with key := ek k }) = es := by
      apply Array.ext_getElem?
      intro j
      rw [Array.getElem?_modify]
      by_cases e : i = j
      · subst e
        rw [if_pos rfl,Array.getElem?_eq_getElem hei]
        simp [← hkey]
      · rw [if_neg e]
    refine ⟨w.putObj r (.map (es.modify i fun e => { e with key := ek k }) c), (es[i]'hei).born, by simp only [Option.bind_some, hmi, Option.map_some, Sem.run_bind, hk2, hK.same, Result.andThen_ok, hset, hn, Option.getD_some, Sem.run_pure, goInt]; simp [hei], ?_, ?_, hmod _, by simp⟩
    · rw [hn,Option.getD_some,mset_self h.nodup hn,hsame]
      exact ⟨⟨es,c,World.putObj_heap_same hlt,h2,h3,h4⟩,h.nodup⟩
    · rw [hsame]
      exact ⟨es,c,i,es[i],World.putObj_heap_same hlt,by simp [hei],hkey,rfl,fun j e' hj hb => born_uniq h3 (by simp [hei]) hj hb⟩
theorem MapAt.entryStore (h : MapAt ek ew w r m) (hi : ∀ a b : κ, ek a = ek b → a = b) {k : κ} {n : Nat} (he : EntAt ek w r k n) (v : ν) :
    ∃ w',(Instr.entryStore T (.map (some r)) (.int .i64 (n : Nat)) (ew v)).run P w = .ok () w' ∧ MapAt ek ew w' r (mset m k v) ∧ Mod (· = r) w w' ∧ w'.heap.size = w.heap.size := by
  obtain ⟨⟨es,c,h1,h2,h3,h4⟩,h5⟩ := h
  obtain ⟨es',c',i,e,g1,g2,g3,g4,g5⟩ := he
  rw [h1] at g1
  cases g1
  have hg : (getObj r).run P w = .ok (.map es c) w := by simp [getObj,Sem.run,h1]
  have hlt := (Array.getElem?_eq_some_iff.1 h1).1
  have hset : ∀ o,(setObj r o).run P w = .ok () (w.putObj r o) := fun o => by simp [setObj,Sem.run,h1,World.putObj]
  have hmod : ∀ o,Mod (· = r) w (w.putObj r o) := fun o => ⟨rfl,rfl,rfl,by simp,fun b _ hb => World.putObj_heap_other hb⟩
  have hlen : es.toList.length = m.length := by have := congrArg List.length h2; simpa using this
  have hil : i < es.toList.length := (List.getElem?_eq_some_iff.1 g2).1
  have hes : es[i]? = some e := by rw [← Array.getElem?_toList]; exact g2
  have hfi : es.findIdx? (fun e => (e.born : Int) == (n : Int)) = some i := by
    rw [Array.findIdx?_eq_some_iff_getElem]
    obtain ⟨h6,h7⟩ := Array.getElem?_eq_some_iff.1 hes
    refine ⟨h6,by simp [h7,g4],fun j hj => ?_⟩
    intro hc
    have h8 : es.toList[j]? = some es[j] := by simp
    have := g5 j es[j] h8 (by have : ((es[j].born : Int)) = n := by simpa using hc
                              omega)
    omega
  have hm : m[i]? = some (k, (m[i]'(by omega)).2) := by
    have := congrArg (fun l => l[i]?) h2
    simp only [List.getElem?_map,g2,Option.map_some,List.getElem?_eq_getElem (show i < m.length by omega),Option.some.injEq,Prod.mk.injEq] at this
    rw [List.getElem?_eq_getElem (show i < m.length by omega)]
    congr 1
    rw [Prod.ext_iff]
    exact ⟨hi _ _ (this.1.symm.trans g3),rfl⟩
  have hget : mget m k = some (m[i]'(by omega)).2 := (kget_iff h5).2 (List.mem_of_getElem? hm)
  refine ⟨w.putObj r (.map (es.modify i fun e => { e with val := ew v }) c), by simp [Instr.entryStore, hg, hfi, hset], ⟨⟨_, c, World.putObj_heap_same hlt, ?_, ?_, ?_⟩, kset_nodup h5 _ _⟩, hmod _, by simp⟩
  · have hs : (mget m k).isSome = true := by rw [hget]; rfl
    simp only [mset,hs,if_true]
    apply List.ext_getElem?
    intro j
    have hj := congrArg (fun l => l[j]?) h2
    simp only [List.getElem?_map,Array.getElem?_toList,Array.getElem?_modify] at hj ⊢
    by_cases e0 : i = j
    · subst e0
      rw [if_pos rfl,hes,hm]
      simp [g3]
    · rw [if_neg e0,hj]
      cases hmj : m[j]? with
      | none => rfl
      | some p =>
        have hne : p.1 ≠ k := by
          intro hpk
          have hjl : j < m.length := (List.getElem?_eq_some_iff.1 hmj).1
          have hpj : m[j] = p := by have := List.getElem?_eq_getElem hjl; rw [hmj] at this; exact (Option.some.inj this).symm
          have hmi' : m[i]'(by omega) = (k,(m[i]'(by omega)).2) := by have := List.getElem?_eq_getElem (show i < m.length by omega); rw [hm] at this; exact (Option.some.inj this).symm
          have hk' : (m[i]'(by omega)).1 = k := by rw [hmi']
          have hnd := List.pairwise_iff_getElem.1 h5
          rcases Nat.lt_or_ge i j with hij | hij
          · exact hnd i j (by simp; omega) (by simpa using hjl) hij (by simp [hk',hpj,hpk])
          · exact hnd j i (by simpa using hjl) (by simp; omega) (by omega) (by simp [hk',hpj,hpk])
        simp [hne]
  · have : (es.modify i fun e => { e with val := ew v }).toList.map (·.born) = es.toList.map (·.born) := by
      apply List.ext_getElem?
      intro j
      simp only [List.getElem?_map,Array.getElem?_toList,Array.getElem?_modify]
      by_cases e : i = j
      · subst e; simp [hes]
      · simp [e]
    rw [this]; exact h3
  · intro x hx
    obtain ⟨j,hj⟩ := List.mem_iff_getElem?.1 hx
    simp only [Array.getElem?_toList,Array.getElem?_modify] at hj
    by_cases e' : i = j
    · subst e'
      rw [if_pos rfl,hes] at hj
      simp at hj
      subst hj
      exact h4 e (List.mem_of_getElem? g2)
    · rw [if_neg e'] at hj
      exact h4 x (List.mem_iff_getElem?.2 ⟨j,by simpa using hj⟩)
end
end Pk
namespace Pk
open Go
theorem agr_any {w w' : World} (h : Mod (fun _ => True) w w') : Agr (fun _ => true = false) w w' := h.agr fun _ hi => by cases hi
theorem Mod.setC {a w : World} {b : Nat} (h : Mod (fun k => k = b) a w) (i : Nat) (v : Value) : Mod (fun k => k = b) a (w.setCell ⟨b,i,none⟩ v) := h.setCell _ _ (.inl rfl)
theorem Mod.any {w w' : World} (h : Mod (fun _ => True) w w') (p : Addr) (v : Value) : Mod (fun _ => True) w (w'.setCell p v) := h.setCell p v (.inl trivial)
section
variable {P : Program} {t : TypeId}
theorem sl_l (hs : isS (P.underlying t) = true) (a : Option Addr) (n c : Nat) (k : IntKind) (l : Int) (h0 : 0 ≤ l) (h1 : l ≤ n) (W : World) :
    (Instr.sliceAt t (.slice a n c) (some (.int k l)) none none).run P W = ((Go.sizeOf (elemT (P.underlying t))).run P W).andThen fun s w => .ok (sliced a l.toNat n c s) w := by
  rw [run_sliceAt_slice W t _ _ _ _ (elem_of hs),elemT_of hs,run_slice_l W t a n c (elem_of hs) k l h0 h1]
end
end Pk
namespace Pk
open Go
theorem Mod.agr_old {O C : Nat → Prop} {w W W' : World} (h : Mod O w W) (hag : Agr (fun k => k < w.heap.size ∨ C k) W W') : Mod O w W' :=
  ⟨hag.os.trans h.os,hag.tape.trans h.tape,hag.out.trans h.out,Nat.le_trans h.size hag.size,fun i hi hn => (hag.blk i (Nat.lt_of_lt_of_le hi h.size) (.inl hi)).trans (h.blk i hi hn)⟩
theorem WC_rangeFuncA {α : Type} {P : Program} {n : Nat} {f : Operand} {ps : List Tmp} {assign body : Code} {Q : Post} {ρ : Env} {ds : List Deferred} {w : World}
    {enc : α → List Value} {S Sp : List α → Prop} {Cap : Nat → Prop} {gf : FuncId} {first caps : Array Value} (hgv : ev ρ f = .func (.func gf) first caps) (hent : ∀ as w,(callFunc gf as).run P w = .ok (.enter gf as) w)
    (hit : Iter P (.func (.func gf) first caps) enc S Sp Cap w) (henc : ∀ x,(enc x).length = ps.length)
    (C0 : Nat → Prop) (J : (Nat → Prop) → List α → World → Prop) (Jx : Code → (Nat → Prop) → List α → World → Prop)
    (hcap : ∀ k,Cap k → k < w.heap.size ∧ ¬ C0 k) (hC0 : ∀ k,C0 k → k < w.heap.size)
    (hJ : ∀ C pre W W',J C pre W → Agr (fun k => k < w.heap.size ∨ C k) W W' → J C pre W')
    (hJx : ∀ c C pre W W',Jx c C pre W → Agr (fun k => k < w.heap.size ∨ C k) W W' → Jx c C pre W')
    (h0 : J C0 [] w)
    (A : α → Nat → Env → World → Prop) (hAs : ∀ x B ρ' W W',A x B ρ' W → Agr (fun k => B ≤ k) W W' → A x B ρ' W')
    (hassign : ∀ l x W,vc P n (some l) assign (QS (fun ρ' ds' W' => ds' = [] ∧ Ext W W' ∧ A x W.heap.size ρ' W') (fun _ _ _ _ => False)) (setsE ρ ps (enc x)) [] W)
    (hbody : ∀ l C pre x B ρ' W,Sp (pre ++ [x]) → J C pre W → w.heap.size ≤ l → l < B → ¬ C l → B ≤ W.heap.size → A x B ρ' W → vc P n (some l) body (QR J Jx C (pre ++ [x]) W) ρ' [] W)
    (hdone : ∀ C xs W,S xs → J C xs W → W.heap[w.heap.size]? = some (.deferred (some [])) → Q .normal ρ ({ target := .collected w.heap.size,args := #[] } :: ds) W)
    (hstop : ∀ c C pre W,Sp pre → Jx c C pre W → W.heap[w.heap.size]? = some (.deferred (some [])) → QC Q c ρ ({ target := .collected w.heap.size,args := #[] } :: ds) W) :
    WC P n none (.rangeFunc f ps.toArray assign body) Q ρ ds w := by
  intro hok tmps hA
  have hok1 := Bool.and_eq_true_iff.1 hok
  have hok2 := Bool.and_eq_true_iff.1 hok1.2
  have hok3 := Bool.and_eq_true_iff.1 hok2.2
  have hps : ∀ p ∈ ps,p < n := fun p hp => by simpa using List.all_eq_true.1 hok2.1 p hp
  refine wpIn_rangeFunc ?_
  intro fn _
  obtain ⟨rec,hrec⟩ : ∃ rec : LoopState → Option Code → Loop,rec = fun st pe => { state := st,pending := pe,fn,tmps := tmps,params := ps.toArray,assign,body,defers := w.heap.size } := ⟨_,rfl⟩
  obtain ⟨W1,hW1⟩ : ∃ W1,(w.alloc (.deferred (some []))).alloc (.loop (rec .ready none)) = W1 := ⟨_,rfl⟩
  have hs1 : W1.heap.size = w.heap.size + 2 := by rw [← hW1]; simp
  have hL1 : W1.heap[w.heap.size + 1]? = some (.loop (rec .ready none)) := by
    rw [← hW1]; have := World.alloc_heap_new (w.alloc (.deferred (some []))) (.loop (rec .ready none)); rwa [World.size_alloc] at this
  have hD1 : W1.heap[w.heap.size]? = some (.deferred (some [])) := by
    rw [← hW1]; exact (Go.RowKit.Below.heap_alloc _ _ _ (by simp)).trans (World.alloc_heap_new w _)
  have hx1 : Ext w W1 := by rw [← hW1]; exact ((Ext.refl w).alloc _).alloc _
  have hg : ev ρ f = (Act.mk tmps ds).eval f := (eval_eq hA hok1.1).symm
  -- the caller's state and the record beside it
  let l := w.heap.size + 1
  let D := w.heap.size
  let J' : (Nat → Prop) → List α → World → Prop := fun C pre W => ∃ C1,J C1 pre W ∧ (∀ k,C k ↔ C1 k ∨ k = l) ∧ ¬ C1 l ∧ ¬ C1 D ∧ W.heap[l]? = some (.loop (rec .ready none)) ∧ W.heap[D]? = some (.deferred (some []))
  let Jx' : (Nat → Prop) → List α → World → Prop := fun C pre W => ∃ C1 c,Jx c C1 pre W ∧ (∀ k,C k ↔ C1 k ∨ k = l) ∧ ¬ C1 l ∧ W.heap[l]? = some (.loop (rec .done (some c))) ∧ W.heap[D]? = some (.deferred (some []))
  have hcall := hit (.func (.yield l) #[] #[]) (fun k => C0 k ∨ k = l) J' Jx' W1 hx1.agr
    (fun k hk => ⟨(hcap k hk).1,fun h => h.elim (hcap k hk).2 (fun e => by have := (hcap k hk).1; simp only [l] at e; omega)⟩)
    (fun k hk => by
      rcases hk with hk | hk
      · have := hC0 k hk; omega
      · simp only [l] at hk; omega) ?_ ?_ ?_ ?_
  case refine_1 =>
    rintro C pre Wa Wb ⟨C1,hj,hC,hl,hd,h1,h2⟩ hag
    refine ⟨C1,hJ _ _ _ _ hj (hag.weaken ?_),hC,hl,hd,hag.obj h1 (.inl (by simp only [l]; omega)),hag.obj h2 (.inl (by simp only [D]; omega))⟩
    rintro i (hi | hi)
    · exact .inl (by omega)
    · exact .inr ((hC i).2 (.inl hi))
  case refine_2 =>
    rintro C pre Wa Wb ⟨C1,c,hj,hC,hnl,h1,h2⟩ hag
    refine ⟨C1,c,hJx _ _ _ _ _ hj (hag.weaken ?_),hC,hnl,hag.obj h1 (.inl (by simp only [l]; omega)),hag.obj h2 (.inl (by simp only [D]; omega))⟩
    rintro i (hi | hi)
    · exact .inl (by omega)
    · exact .inr ((hC i).2 (.inl hi))
  case refine_3 =>
    rintro C pre x W hsp ⟨C1,hj,hC,hnl,hnd,hl,hd⟩
    have hlt : l < W.heap.size := (Array.getElem?_eq_some_iff.1 hl).1
    have hy := run_yield (P := P) (args := (enc x).toArray) hl (by rw [hrec]; simpa using henc x)
    rw [hrec] at hy
    show YD P l ([] ++ enc x) W _
    unfold YD
    rw [List.nil_append,hy]
    have hround : RoundIn (FR none) 0 P l fn ((ps.toArray.zip (enc x).toArray).foldl (fun tmps (t, a) => tmps.setIfInBounds t a) tmps) assign body W (fun e W' =>
        (e = .returned (.bool true) ∧ ∃ C',J' C' (pre ++ [x]) W' ∧ Own C C' W W') ∨ (e = .returned (.bool false) ∧ ∃ C',Jx' C' (pre ++ [x]) W' ∧ Own C C' W W')) := by
      refine roundIn_of_wpIn trivial ?_
      have hAx : Ag n ((ps.toArray.zip (enc x).toArray).foldl (fun tmps (t, a) => tmps.setIfInBounds t a) tmps) (setsE ρ ps (enc x)) := by
        have := Ag.sets ps (enc x) tmps ρ hA hps
        rw [← Array.foldl_toList]
        simpa using this
      refine wpIn_mono (vc_sound assign _ _ _ _ (hassign l x W) hok3.1 _ hAx) ?_
      rintro e a1 W' ⟨ρ',hA',hq⟩
      cases e with
      | normal =>
        obtain ⟨hds,hEx,hAx'⟩ := hq
        have hlB := hlt
        have hsB := hEx.size
        have hlA : W'.heap[l]? = some (.loop (rec .ready none)) := hEx.obj hl
        have hdA : W'.heap[D]? = some (.deferred (some [])) := hEx.obj hd
        have hltA : l < W'.heap.size := (Array.getElem?_eq_some_iff.1 hlA).1
        obtain ⟨W2,hW2⟩ : ∃ W2,W2 = W'.putObj l (.loop { rec .ready none with state := .busy }) := ⟨_,rfl⟩
        refine ⟨W2,by rw [hW2]; exact run_beginRound hlA (by rw [hrec]),?_⟩
        have hl2 : W2.heap[l]? = some (.loop { rec .ready none with state := .busy }) := by rw [hW2]; exact World.putObj_heap_same hltA
        have hd2 : W2.heap[D]? = some (.deferred (some [])) := by rw [hW2]; exact (World.putObj_heap_other (by simp only [l,D]; omega)).trans hdA
        have hj2 : J C1 pre W2 := hJ _ _ _ _ (hJ _ _ _ _ hj hEx.agr) (by
          rw [hW2]
          refine Agr.putObj _ ?_
          rintro (h | h)
          · simp only [l] at h; omega
          · exact hnl h)
        have hm2 : Mod (· = l) W' W2 := by rw [hW2]; exact Mod.putObj _ _
        have hs2 : W2.heap.size = W'.heap.size := by rw [hW2]; simp
        have hA2 : A x W.heap.size ρ' W2 := hAs _ _ _ _ _ hAx' (by rw [hW2]; exact Agr.putObj _ (by omega))
        have hb := hbody l C1 pre x W.heap.size ρ' W2 hsp hj2 (by simp only [l]; omega) hlt hnl (by rw [hs2]; exact hsB) hA2
        have hwp := vc_sound body _ _ _ _ hb hok3.2 _ hA'
        have ha1 : a1 = ⟨a1.tmps,[]⟩ := by cases a1; simp_all
        rw [ha1]
        refine wpIn_mono hwp ?_
        rintro e a3 W3 ⟨ρ3,hA3,hq3⟩
        have fin : ∀ (jump : Option Code) (C' : Nat → Prop), Own C1 C' W2 W3 →
            ∃ W4, (Instr.endRound l jump).run P W3 = .ok (.bool jump.isNone) W4 ∧ W4 = W3.putObj l (.loop (rec (if jump.isNone then .ready else .done) jump)) ∧ W4.heap[l]? = some (.loop (rec (if jump.isNone then .ready else .done) jump)) ∧
              W4.heap[D]? = some (.deferred (some [])) ∧ ¬ C' l ∧ ¬ C' D ∧ Own C (fun k => C' k ∨ k = l) W W4 := by
          intro jump C' hown
          have hl3 : W3.heap[l]? = some (.loop { rec .ready none with state := .busy }) := hown.mod.obj hl2 hnl
          have hd3 : W3.heap[D]? = some (.deferred (some [])) := hown.mod.obj hd2 hnd
          have hlt3 : l < W3.heap.size := (Array.getElem?_eq_some_iff.1 hl3).1
          have hr := run_endRound (P := P) jump hl3
          have hDl : D < W2.heap.size := (Array.getElem?_eq_some_iff.1 hd2).1
          refine ⟨W3.putObj l (.loop (rec (if jump.isNone then .ready else .done) jump)), ?_, rfl, World.putObj_heap_same hlt3, (World.putObj_heap_other (by simp only [l, D]; omega)).trans hd3, ?_, ?_, ?_⟩
          · rw [hr,hrec]
          · intro h; rcases hown.own _ h with h | h
            · exact hnl h
            · omega
          · intro h; rcases hown.own _ h with h | h
            · exact hnd h
            · omega
          · refine ⟨?_, ?_, ?_⟩
            · have m1 : Mod C W W2 := hEx.mod.trans (hm2.weaken (fun i e => (hC i).2 (.inr e)))
              have m2 : Mod C W2 W3 := hown.mod.weaken (fun i h => (hC i).2 (.inl h))
              exact (m1.trans m2).trans ((Mod.putObj _ _).weaken (fun i e => (hC i).2 (.inr e)))
            · rintro k (h | h)
              · rcases hown.own k h with h | h
                · exact .inl ((hC k).2 (.inl h))
                · exact .inr (by omega)
              · exact .inl ((hC k).2 (.inr h))
            · rintro k (h | h)
              · rcases hown.lt k h with h | h
                · exact .inl ((hC k).2 (.inl h))
                · exact .inr (by simpa using h)
              · exact .inl ((hC k).2 (.inr h))
        have stab : ∀ (C' : Nat → Prop) (W4 : World) (o : Obj), W4 = W3.putObj l o → ¬ C' l → Agr (fun k => k < w.heap.size ∨ C' k) W3 W4 := by
          intro C' W4 o e hn
          rw [e]
          refine Agr.putObj _ ?_
          rintro (h | h)
          · simp only [l] at h; omega
          · exact hn h
        cases e with
        | normal =>
          obtain ⟨-,C',hj3,hown⟩ := hq3
          obtain ⟨W4,hr,e4,hl4,hd4,hn1,hn2,ho⟩ := fin none C' hown
          exact ⟨_,W4,hr,.inl ⟨rfl,_,⟨C',hJ _ _ _ _ hj3 (stab C' W4 _ e4 hn1),fun k => Iff.rfl,hn1,hn2,hl4,hd4⟩,ho⟩⟩
        | ret =>
          obtain ⟨-,C',hj3,hown⟩ := hq3
          obtain ⟨W4,hr,e4,hl4,hd4,hn1,hn2,ho⟩ := fin (some .ret) C' hown
          exact ⟨_,W4,hr,.inr ⟨rfl,_,⟨C',.ret,hJx _ _ _ _ _ hj3 (stab C' W4 _ e4 hn1),fun k => Iff.rfl,hn1,hl4,hd4⟩,ho⟩⟩
        | exit id =>
          obtain ⟨-,C',hj3,hown⟩ := hq3
          obtain ⟨W4,hr,e4,hl4,hd4,hn1,hn2,ho⟩ := fin (some (.exit id)) C' hown
          exact ⟨_,W4,hr,.inr ⟨rfl,_,⟨C',.exit id,hJx _ _ _ _ _ hj3 (stab C' W4 _ e4 hn1),fun k => Iff.rfl,hn1,hl4,hd4⟩,ho⟩⟩
        | goto t =>
          obtain ⟨-,C',hj3,hown⟩ := hq3
          obtain ⟨W4,hr,e4,hl4,hd4,hn1,hn2,ho⟩ := fin (some (.goto t)) C' hown
          exact ⟨_,W4,hr,.inr ⟨rfl,_,⟨C',.goto t,hJx _ _ _ _ _ hj3 (stab C' W4 _ e4 hn1),fun k => Iff.rfl,hn1,hl4,hd4⟩,ho⟩⟩
        | panic ch => exact hq3.elim
        | outgrown => exact hq3.elim
      | _ => exact hq.elim
    exact hround
  case refine_4 =>
    refine ⟨C0, hJ _ _ _ _ h0 hx1.agr, fun k => Iff.rfl, ?_, ?_, hL1, hD1⟩
    · intro h; have := hC0 _ h; simp only [l] at this; omega
    · intro h; have := hC0 _ h; simp only [D] at this; omega
  -- the one call
  have fin : ∀ e W', ((∃ v, e = .returned v) ∧ ∃ C', ((∃ xs, S xs ∧ J' C' xs W') ∨ (∃ pre, Sp pre ∧ Jx' C' pre W'))) →
      rangePost (FR none) 0 P l (fun e a w' => ∃ ρ',Ag n a.tmps ρ' ∧ Q e ρ' a.defers w') ⟨tmps,{ target := .collected D,args := #[] } :: ds⟩ e W' := by
    rintro e W' ⟨⟨v, rfl⟩, C', (⟨xs, hS, C1, hj, -, hn1, hn2, hl, hd⟩ | ⟨pre, hS, C1, c, hj, -, hn1, hl, hd⟩)⟩
    · have hr := run_endLoop (P := P) hl (by rw [hrec]; simp)
      rw [hrec] at hr
      refine ⟨none,_,hr,ρ,hA,hdone C1 xs _ hS (hJ _ _ _ _ hj (Agr.putObj _ ?_)) ((World.putObj_heap_other (by simp only [l]; omega)).trans hd)⟩
      rintro (h | h)
      · simp only [l] at h; omega
      · exact hn1 h
    · have hr := run_endLoop (P := P) hl (by rw [hrec]; simp)
      rw [hrec] at hr
      refine ⟨some c,_,hr,QC_sound hA (hstop c C1 pre _ hS (hJx _ _ _ _ _ hj (Agr.putObj _ ?_)) ((World.putObj_heap_other (by simp only [l]; omega)).trans hd))⟩
      rintro (h | h)
      · simp only [l] at h; omega
      · exact hn1 h
  have hcall' : FN P gf (first.toList ++ ([.func (.yield l) #[] #[]] ++ caps.toList)) W1 _ := hcall
  unfold FN at hcall'
  rw [hent] at hcall'
  refine ⟨l, [{ target := .collected D, args := #[] }], W1, { target := .fn (.func gf) caps, args := first ++ #[Value.func (.yield l) #[] #[]] }, W1, gf, (first.toList ++ ([Value.func (.yield l) #[] #[]] ++ caps.toList)).toArray, W1, ?_, ?_, fun _ _ => trivial, ?_, fun h => by simp [FR] at h, ?_⟩
  · rw [← hW1,hrec]; exact run_enterLoop_outer _ _ _ _ _
  · have : (Act.mk tmps ds).eval f = .func (.func gf) first caps := hg.symm.trans hgv
    simp only [resolve,this,Deferred.ofValue]
    simp [Act.eval]
  · have e0 : (first ++ #[Value.func (.yield l) #[] #[]] ++ caps) = (first.toList ++ ([Value.func (.yield l) #[] #[]] ++ caps.toList)).toArray := by apply Array.ext'; simp
    simp only [invoke]
    rw [e0]; exact hent _ _
  · exact callsIn_FR (hcall'.mono fun e W' h => fin e W' h)
end Pk
namespace Pk
open Go
/-- A row that is given: where it has no room at all,its address may be whatever. -/
structure SlB (w : World) (s : Nat) (v : Value) (n : Nat) (cs : List Value) : Prop where
  len : cs.length = n * s
  val : ∃ ao c,v = .slice ao n c ∧ n ≤ c ∧ (0 < n → ∃ b o,ao = some ⟨b,o,none⟩)
  at_ : ∀ j u,cs[j]? = some u → w.cell? ⟨slB v,slO v + j,none⟩ = some u
theorem Sl.toB {w : World} {s : Nat} {v : Value} {n : Nat} {cs : List Value} (h : Sl w s v n cs) : SlB w s v n cs := by
  refine ⟨h.len,?_,h.at_⟩
  rcases h.val with ⟨c, rfl, rfl⟩ | ⟨b, o, c, rfl, hc⟩
  · exact ⟨none,c,rfl,Nat.zero_le _,fun h => by omega⟩
  · exact ⟨_,c,rfl,hc,fun _ => ⟨b,o,rfl⟩⟩
theorem SlB.nil (w : World) (s c : Nat) : SlB w s (.slice none 0 c) 0 [] := (Sl.nil w s c).toB
theorem SlB.toSl {w : World} {s : Nat} {v : Value} {n : Nat} {cs : List Value} (h : SlB w s v n cs) (h0 : 0 < n) : Sl w s v n cs := by
  obtain ⟨ao,c,rfl,hc,ha⟩ := h.val
  obtain ⟨b,o,rfl⟩ := ha h0
  exact ⟨h.len,.inr ⟨b,o,c,rfl,hc⟩,h.at_⟩
theorem SlB.isSlice {w : World} {s : Nat} {v : Value} {n : Nat} {cs : List Value} (h : SlB w s v n cs) : ∃ a c, v = .slice a n c := by
  obtain ⟨a,c,rfl,-⟩ := h.val
  exact ⟨a,c,rfl⟩
theorem SlB.kept {w w' : World} {s : Nat} {v : Value} {n : Nat} {cs : List Value} (h : SlB w s v n cs) (hw : cs ≠ [] → ∀ (a : Addr) (u : Value), a.block = slB v → w.cell? a = some u → w'.cell? a = some u) : SlB w' s v n cs :=
  ⟨h.len,h.val,fun j u hj => hw (fun e => by rw [e] at hj; simp at hj) _ _ rfl (h.at_ j u hj)⟩
theorem SlB.ext {w w' : World} {s : Nat} {v : Value} {n : Nat} {cs : List Value} (h : SlB w s v n cs) (he : Ext w w') : SlB w' s v n cs := h.kept fun _ _ _ _ hu => he.cell_eq hu
theorem SlB.mod {w w' : World} {s : Nat} {v : Value} {n : Nat} {cs : List Value} {S : Nat → Prop} (h : SlB w s v n cs) (he : Mod S w w') (hs : cs ≠ [] → ¬ S (slB v)) : SlB w' s v n cs :=
  h.kept fun hc a _ ha hu => he.cell hu (by rw [ha]; exact hs hc)
theorem SlB.agr {w w' : World} {s : Nat} {v : Value} {n : Nat} {cs : List Value} {S : Nat → Prop} (h : SlB w s v n cs) (he : Agr S w w') (hs : cs ≠ [] → S (slB v)) : SlB w' s v n cs :=
  h.kept fun hc a _ ha hu => he.cell hu (by rw [ha]; exact hs hc)
theorem SlB.lt {w : World} {s : Nat} {v : Value} {n : Nat} {cs : List Value} (h : SlB w s v n cs) (h0 : 0 < cs.length) : slB v < w.heap.size :=
  World.block_lt_of_cell? w _ (h.at_ 0 cs[0] (by simp [h0]))
section
variable {P : Program} {w : World} {s : Nat} {v : Value} {n : Nat} {cs : List Value} {t : TypeId}
theorem SlB.isLen (h : SlB w s v n cs) (hs : isS (P.underlying t) = true) (ty : TypeId) (w' : World) : (Builtin.len_ #[t] ty #[v]).run P w' = .ok (.int .i64 n) w' := by
  obtain ⟨ao,c,rfl,_⟩ := h.val
  exact r_len_slice P w' t ty ao n c hs
theorem SlB.index (h : SlB w s v n cs) (hs : isS (P.underlying t) = true) (k : IntKind) (i : Int) (h0 : 0 ≤ i) (h1 : i < n) (w' : World) :
    (Instr.indexAt t v (.int k i)).run P w' = ((Go.sizeOf (elemT (P.underlying t))).run P w').andThen fun n w' => .ok (.pointer (some ⟨slB v,slO v + i.toNat * n,none⟩)) w' := (h.toSl (by omega)).index hs k i h0 h1 w'
theorem SlB.src (h : SlB w s v n cs) (hs : isS (P.underlying t) = true) (h1 : ∀ u ∈ cs, u.oneCell' = true) : Src P s t v n cs w := by
  obtain ⟨ao,c,hv,hc,ha⟩ := h.val
  by_cases h0 : n = 0
  · subst h0
    have hcs : cs = [] := List.eq_nil_of_length_eq_zero (by simpa using h.len)
    subst hcs
    subst hv
    cases ao with
    | none => exact Src.ofNil w (elem_of hs) c
    | some a => exact ⟨.inl ⟨_,elem_of hs⟩,fun _ => rfl,run_firstCells_some w s 0 a 0 c [] (by simp) (by simp),run_firstCells_some w.drew s 0 a 0 c [] (by simp) (by simp),by simp,fun _ h => by cases h⟩
  · exact (h.toSl (by omega)).src hs h1
end
end Pk
namespace Pk
open Go
set_option maxRecDepth 10000
theorem own_lt {w : World} {base e s : Nat} {v : Value} {n : Nat} {xs : List Value} (h : w.ownsRow base e s v n xs) (h0 : slN v = false) : slB v < w.heap.size := by
  obtain ⟨h1,h2⟩ := h
  rcases h2 with ⟨rfl, rfl⟩ | ⟨g, cap, cur, rfl, a1, a2, a3⟩
  · simp [slN] at h0
  · exact (Array.getElem?_eq_some_iff.1 a2).1
theorem own_empty {e : TypeId} {s : Nat} (W : World) (base : Nat) (h : base ≤ W.heap.size) : (W.alloc (.cells #[] e)).ownsRow base e s (.slice (some ⟨W.heap.size, 0, none⟩) 0 0) 0 [] :=
  ⟨by simp,.inr ⟨W.heap.size,0,#[],rfl,h,World.alloc_heap_new W _,Nat.le_refl _,by simp,by simp,by simp⟩⟩
theorem own_made (W : World) (cs : List Value) (t : TypeId) (s n : Nat) (h : cs.length = n * s) (hn : n ≤ 1000) (base : Nat) (hb : base ≤ W.heap.size) : (W.alloc (.cells cs.toArray t)).ownsRow base t s (.slice (some ⟨W.heap.size, 0, none⟩) n n) n cs :=
  ⟨h,.inr ⟨W.heap.size,n,cs.toArray,rfl,hb,World.alloc_heap_new W _,Nat.le_refl _,by simp [maxLen]; omega,by simp [h],by simp [← h]⟩⟩
theorem own_set {w : World} {base e s : Nat} {v : Value} {n : Nat} {xs : List Value} (h : w.ownsRow base e s v n xs) (j : Nat) (hj : j < xs.length) (u : Value) :
    (w.setCell ⟨slB v,slO v + j,none⟩ u).ownsRow base e s v n (xs.set j u) := by
  obtain ⟨h1,h2⟩ := h
  refine ⟨by simpa using h1,?_⟩
  rcases h2 with ⟨rfl, rfl⟩ | ⟨g, cap, cur, rfl, hb, hg, hc, hm, hs, ht⟩
  · rw [Nat.zero_mul] at h1; omega
  · refine .inr ⟨g, cap, cur.set! j u, rfl, hb, ?_, hc, hm, by simpa using hs, ?_⟩
    · simpa [slB,slO] using heap_setCell_same w g j cur e u hg
    · rw [← ht]
      simp [Array.set!,List.take_set]
def dmark (D : Nat) : Deferred := { target := .collected D,args := #[] }
/-- Marks behind ranges over functions: they are taken up at the return. -/
theorem LV_marks {P : Program} {rs : Array ResultVar} {R : Ending → World → Prop} {ρ : Env} : ∀ (Ds : List Nat) (w : World), Ds.Nodup → (∀ D ∈ Ds, w.heap[D]? = some (.deferred (some []))) → (∀ w', Mod (· ∈ Ds) w w' → LV P rs R ρ [] .returning w') →
    LV P rs R ρ (Ds.map dmark) .returning w
  | [],w,_,_,hk => hk w (Mod.refl _ _)
  | D :: Ds, w, hn, hm, hk => by
    obtain ⟨h1,h2⟩ := List.nodup_cons.1 hn
    refine LV_mark (hm D (by simp)) (by simp) ?_
    refine LV_marks Ds _ h2 (fun E hE => ?_) fun w' hM => ?_
    · rw [World.putObj_heap_other (fun e => h1 (by rw [← e]; exact hE))]
      exact hm E (by simp [hE])
    · refine hk w' ?_
      exact ((Mod.putObj D _).weaken fun i hi => by simp [hi]).trans (hM.weaken fun i hi => by simp [hi])
/-- What stands behind the first few of a row. -/
theorem sl_tail {P : Program} {t : TypeId} {w : World} {s : Nat} {v : Value} {n : Nat} {cs : List Value} (h : Sl w s v n cs) (hs : isS (P.underlying t) = true) (hz : ∀ W, (Go.sizeOf (elemT (P.underlying t))).run P W = .ok s W) (k : IntKind) (i : Nat) (hi : i ≤ n) :
    ∃ u,(∀ W,(Instr.sliceAt t v (some (.int k i)) none none).run P W = .ok u W) ∧ (∀ W,Sl W s v n cs → Sl W s u (n - i) (cs.drop (i * s))) ∧ slB u = slB v := by
  obtain ⟨a, c, hv⟩ : ∃ a c, v = .slice a n c := by
    rcases h.val with ⟨c, h1, h2⟩ | ⟨b', o', c', h1, _⟩
    · exact ⟨_,_,by rw [h1,h2]⟩
    · exact ⟨_,_,h1⟩
  subst hv
  refine ⟨sliced a i n c s, fun W => ?_, fun W hS => ?_, ?_⟩
  · have := sl_l (P := P) hs a n c k i (by omega) (by omega) W
    rw [this,hz]
    simp
  · have hm : i * s ≤ n * s := Nat.mul_le_mul_right _ hi
    refine ⟨by rw [List.length_drop, hS.len, Nat.sub_mul], ?_, ?_⟩
    · rcases hS.val with ⟨c', h1, h2⟩ | ⟨b', o', c', h1, h2⟩
      · cases h1
        have : i = 0 := by omega
        subst this
        exact .inl ⟨c,by simp [sliced],by omega⟩
      · cases h1
        refine .inr ?_
        unfold sliced
        split
        · exact ⟨b',o',_,rfl,by omega⟩
        · exact ⟨b',o' + i * s,c - i,by simp,by omega⟩
    · intro j u hj
      rw [List.getElem?_drop] at hj
      have hc := hS.at_ _ u hj
      have hlt := (List.getElem?_eq_some_iff.1 hj).1
      rw [hS.len] at hlt
      rcases hS.val with ⟨c', h1, h2⟩ | ⟨b', o', c', h1, h2⟩
      · subst h2; omega
      · cases h1
        by_cases hci : c = i
        · have : n = i := by omega
          subst this
          omega
        · have e : sliced (some ⟨b', o', none⟩) i n c s = .slice (some ⟨b', o' + i * s, none⟩) (n - i) (c - i) := by
            unfold sliced; rw [if_neg hci]; simp
          rw [e]
          simp only [slB,slO] at hc ⊢
          rw [Nat.add_assoc]; exact hc
  · rcases h.val with ⟨c', h1, h2⟩ | ⟨b', o', c', h1, h2⟩
    · cases h1
      simp [sliced,slB]
    · cases h1
      unfold sliced
      split
      · rfl
      · simp [slB]
/-- What may be written,for a plan. -/
noncomputable def Xf (S : Nat → Prop) : Nat → Bool := fun k => @decide (S k) (Classical.propDecidable _)
theorem Xf_f {S : Nat → Prop} {k : Nat} (h : ¬ S k) : Xf S k = false := by unfold Xf; simp [h]
theorem Xf_not {S : Nat → Prop} {k : Nat} (h : Xf S k = false) : ¬ S k := by unfold Xf at h; simpa using h
theorem Xf_agr {S : Nat → Prop} {w w' : World} (h : Mod S w w') : Agr (fun k => Xf S k = false) w w' := h.agr fun _ hk => Xf_not hk
/-- A block of cells that may be written. -/
def Blk (w : World) (b : Nat) (cs : List Value) : Prop := ∃ t,w.heap[b]? = some (.cells cs.toArray t (0,0))
theorem Blk.cell {w : World} {b : Nat} {cs : List Value} (h : Blk w b cs) (j : Nat) (u : Value) (hj : cs[j]? = some u) : w.cell? ⟨b, j, none⟩ = some u := by
  obtain ⟨t,h⟩ := h
  simp [World.cell?,h,hj]
theorem Blk.thaw {w : World} {b : Nat} {cs : List Value} (h : Blk w b cs) (j : Nat) : w.frozen? ⟨b, j, none⟩ = false := by
  obtain ⟨t,h⟩ := h
  simp [World.frozen?,h]
theorem Blk.lt {w : World} {b : Nat} {cs : List Value} (h : Blk w b cs) : b < w.heap.size := by
  obtain ⟨t,h⟩ := h
  exact (Array.getElem?_eq_some_iff.1 h).1
theorem Blk.keep {w w' : World} {b : Nat} {cs : List Value} (h : Blk w b cs) (hb : w'.heap[b]? = w.heap[b]?) : Blk w' b cs := by
  obtain ⟨t,h⟩ := h
  exact ⟨t,hb.trans h⟩
theorem Blk.ext {w w' : World} {b : Nat} {cs : List Value} (h : Blk w b cs) (he : Ext w w') : Blk w' b cs := h.keep (he.blk b h.lt)
theorem Blk.mod {w w' : World} {b : Nat} {cs : List Value} {S : Nat → Prop} (h : Blk w b cs) (he : Mod S w w') (hs : ¬ S b) : Blk w' b cs := h.keep (he.blk b h.lt hs)
theorem Blk.agr {w w' : World} {b : Nat} {cs : List Value} {S : Nat → Prop} (h : Blk w b cs) (he : Agr S w w') (hs : S b) : Blk w' b cs := h.keep (he.blk b h.lt hs)
theorem Blk.new (w : World) (cs : List Value) (t : TypeId) : Blk (w.alloc (.cells cs.toArray t)) w.heap.size cs := ⟨t,World.alloc_heap_new w _⟩
theorem Blk.set {w : World} {b : Nat} {cs : List Value} (h : Blk w b cs) (j : Nat) (u : Value) : Blk (w.setCell ⟨b, j, none⟩ u) b (cs.set j u) := by
  obtain ⟨t,h⟩ := h
  refine ⟨t,?_⟩
  have := heap_setCell_same w b j cs.toArray t u h
  simpa using this
end Pk
namespace Pk
section
variable {α : Type}
/-- A row with one more at a place. -/
def insAt (R : List α) (k : Nat) (d : α) : List α := R.take k ++ d :: R.drop k
end
end Pk
namespace Pk
open Go
section
variable {κ ν : Type} [DecidableEq κ]
/-- The same keys with the same values. -/
def eqv (m m' : List (κ × ν)) : Prop := m.length = m'.length ∧ ∀ p ∈ m,mget m' p.1 = some p.2
instance [DecidableEq ν] (m m' : List (κ × ν)) : Decidable (eqv m m') := inferInstanceAs (Decidable (_ ∧ _))
end
end Pk
namespace Pk
open Go
section
variable {κ ν : Type} {ek : κ → Value} {ew : ν → Value} {P : Program}
/-- An iterator b over the map r,which has m now; it has given the entries of these keys. -/
def DIter (ek : κ → Value) (ew : ν → Value) (w : World) (b r : Nat) (m : List (κ × ν)) (vis : List κ) : Prop :=
  ∃ es c seen, w.heap[r]? = some (.map es c) ∧ es.toList.map (fun e => (e.key, e.val)) = m.map (fun p => (ek p.1, ew p.2)) ∧ (es.toList.map (·.born)).Pairwise (· < ·) ∧ (∀ e ∈ es.toList, e.born < c) ∧
    w.heap[b]? = some (.mapIter (some r) c seen c) ∧ (m.map (·.1)).Nodup ∧ ∀ (i : Nat) (e : MapEntry) (p : κ × ν),es.toList[i]? = some e → m[i]? = some p → (seen.contains e.born = true ↔ p.1 ∈ vis)
theorem DIter.keep {w w' : World} {b r : Nat} {m : List (κ × ν)} {vis : List κ} (h : DIter ek ew w b r m vis) (h1 : w'.heap[r]? = w.heap[r]?) (h2 : w'.heap[b]? = w.heap[b]?) : DIter ek ew w' b r m vis := by
  obtain ⟨es,c,s,a1,a2,a3,a4,a5,a6⟩ := h
  exact ⟨es,c,s,h1.trans a1,a2,a3,a4,h2.trans a5,a6⟩
theorem DIter.lt {w : World} {b r : Nat} {m : List (κ × ν)} {vis : List κ} (h : DIter ek ew w b r m vis) : r < w.heap.size ∧ b < w.heap.size := by
  obtain ⟨es,c,s,a1,a2,a3,a4,a5,a6⟩ := h
  exact ⟨(Array.getElem?_eq_some_iff.1 a1).1,(Array.getElem?_eq_some_iff.1 a5).1⟩
theorem DIter.ne {w : World} {b r : Nat} {m : List (κ × ν)} {vis : List κ} (h : DIter ek ew w b r m vis) : b ≠ r := by
  obtain ⟨es,c,s,a1,a2,a3,a4,a5,a6⟩ := h
  rintro rfl
  rw [a1] at a5; cases a5
theorem DIter.mod {w w' : World} {b r : Nat} {m : List (κ × ν)} {vis : List κ} {S : Nat → Prop} (h : DIter ek ew w b r m vis) (hM : Mod S w w') (h1 : ¬ S r) (h2 : ¬ S b) : DIter ek ew w' b r m vis := h.keep (hM.blk _ h.lt.1 h1) (hM.blk _ h.lt.2 h2)
theorem DIter.ext {w w' : World} {b r : Nat} {m : List (κ × ν)} {vis : List κ} (h : DIter ek ew w b r m vis) (hE : Ext w w') : DIter ek ew w' b r m vis := h.keep (hE.blk _ h.lt.1) (hE.blk _ h.lt.2)
theorem DIter.map {w : World} {b r : Nat} {m : List (κ × ν)} {vis : List κ} (h : DIter ek ew w b r m vis) : MapAt ek ew w r m := by
  obtain ⟨es,c,s,a1,a2,a3,a4,a5,a6,a7⟩ := h
  exact ⟨⟨es,c,a1,a2,a3,a4⟩,a6⟩
theorem DIter.next [DecidableEq κ] {w : World} {b r : Nat} {m : List (κ × ν)} {vis : List κ} (h : DIter ek ew w b r m vis) (ty : TypeId) :
    ((∀ p ∈ m,p.1 ∈ vis) ∧ (Instr.next (.pointer (some ⟨b,0,none⟩)) false ty).run P w = .ok (.tuple #[.bool false]) w) ∨
    ∃ (p : κ × ν) (w' : World), p ∈ m ∧ p.1 ∉ vis ∧ (Instr.next (.pointer (some ⟨b, 0, none⟩)) false ty).run P w = .ok (.tuple #[.bool true, ek p.1, ew p.2]) w' ∧ DIter ek ew w' b r m (p.1 :: vis) ∧ Mod (· = b) w w' ∧
      (Instr.entry (.pointer (some ⟨b,0,none⟩))).run P w' = .ok (.tuple #[ek p.1,ew p.2]) w' ∧ w'.heap.size = w.heap.size := by
  have hne' := h.ne
  obtain ⟨es,c,s,a1,a2,a3,a4,a5,a6,a7⟩ := h
  have hlen : es.toList.length = m.length := by have := congrArg List.length a2; simpa using this
  have hbn : (es.toList.map (·.born)).Nodup := a3.imp (fun h => by omega)
  rcases run_next_at (P := P) w ty b r c c s es c a5 a1 a4 (Nat.le_refl _) with ⟨h0, hrun⟩ | ⟨e, he, w1, hal, hrun⟩
  · left
    refine ⟨fun p hp => ?_,hrun⟩
    obtain ⟨i,hi,rfl⟩ := List.getElem_of_mem hp
    have hi' : i < es.toList.length := by omega
    exact (a7 i es.toList[i] m[i] (List.getElem?_eq_getElem hi') (List.getElem?_eq_getElem hi)).1 (all_seen es s h0 _ (List.getElem_mem hi'))
  · right
    obtain ⟨hem,hes⟩ := Go.mem_left he
    obtain ⟨i,hi,rfl⟩ := List.mem_iff_getElem.1 hem
    have him : i < m.length := by omega
    have hkv : ((es.toList[i]).key, (es.toList[i]).val) = (ek m[i].1, ew m[i].2) := by
      have := congrArg (·[i]?) a2
      simp only [List.getElem?_map,List.getElem?_eq_getElem hi,List.getElem?_eq_getElem him,Option.map_some,Option.some.injEq] at this
      exact this
    have hk := congrArg Prod.fst hkv
    have hv := congrArg Prod.snd hkv
    simp only at hk hv
    rw [hk,hv] at hrun
    have hr1 : w1.heap[b]? = some (.mapIter (some r) c s c) := by rcases hal with rfl | rfl <;> exact a5
    have hb1 : w1.heap[r]? = some (.map es c) := by rcases hal with rfl | rfl <;> exact a1
    have hset := Go.MapKept.heap_set (o' := .mapIter (some r) c (s.push (es.toList[i]).born) c) hr1
    have hb' : (Go.ChangeMaps.setBlock w1 b (.mapIter (some r) c (s.push (es.toList[i]).born) c)).heap[r]? = some (.map es c) := (hset.2 r (Ne.symm hne')).trans hb1
    have hent := run_entry_at (P := P) (Go.ChangeMaps.setBlock w1 b (.mapIter (some r) c (s.push (es.toList[i]).born) c)) b r c s es c (es.toList[i]) hset.1 hb' hem hbn
    rw [hk,hv] at hent
    have hni : m[i].1 ∉ vis := fun hc => by
      have := (a7 i _ _ (List.getElem?_eq_getElem hi) (List.getElem?_eq_getElem him)).2 hc
      rw [hes] at this; cases this
    refine ⟨m[i], _, List.getElem_mem him, hni, hrun, ⟨es, c, _, hb', a2, a3, a4, hset.1, a6, ?_⟩, ?_, hent, ?_⟩
    · intro j e p hj hp
      obtain ⟨hjl,rfl⟩ := List.getElem?_eq_some_iff.1 hj
      obtain ⟨hjm,rfl⟩ := List.getElem?_eq_some_iff.1 hp
      rw [Array.contains_push,Bool.or_eq_true,a7 j _ _ hj hp,List.mem_cons]
      have : ((es.toList[j].born == es.toList[i].born) = true) ↔ m[j].1 = m[i].1 := by
        rw [beq_iff_eq]
        constructor
        · intro e
          have : (es.toList.map (·.born))[j]'(by simpa using hjl) = (es.toList.map (·.born))[i]'(by simpa using hi) := by simpa using e
          have := (List.getElem_inj hbn).1 this
          subst this; rfl
        · intro e
          have : (m.map (·.1))[j]'(by simpa using hjm) = (m.map (·.1))[i]'(by simpa using him) := by simpa using e
          have := (List.getElem_inj a6).1 this
          subst this; rfl
      rw [this]
      exact ⟨fun h => h.symm,fun h => h.symm⟩
    · rcases hal with rfl | rfl <;> exact ⟨rfl,rfl,rfl,by simp [Go.ChangeMaps.setBlock],fun k _ hk => hset.2 k hk⟩
    · rcases hal with rfl | rfl <;> simp [Go.ChangeMaps.setBlock]
variable [DecidableEq κ]
theorem mdel_erase {m : List (κ × ν)} (hn : (m.map (·.1)).Nodup) {k : κ} {i : Nat} (hi : m.findIdx? (fun p => decide (p.1 = k)) = some i) : mdel m k = m.eraseIdx i := by
  obtain ⟨hil,hpi,hlt'⟩ := List.findIdx?_eq_some_iff_getElem.1 hi
  have hpk : (m[i]).1 = k := by simpa using hpi
  unfold mdel
  have hnd := List.pairwise_iff_getElem.1 hn
  rw [List.eraseIdx_eq_take_drop_succ]
  conv => lhs; rw [← List.take_append_drop i m]
  rw [List.filter_append,List.drop_eq_getElem_cons hil,List.filter_cons]
  simp only [hpk,ne_eq,not_true_eq_false,decide_false,Bool.false_eq_true,if_false]
  congr 1
  · rw [List.filter_eq_self]
    intro p hp
    obtain ⟨j,hj,rfl⟩ := List.mem_iff_getElem.1 hp
    simp only [List.length_take] at hj
    have := hlt' j (by omega)
    simp only [List.getElem_take]
    simpa using this
  · rw [List.filter_eq_self]
    intro p hp
    obtain ⟨j,hj,rfl⟩ := List.mem_iff_getElem.1 hp
    simp only [List.length_drop] at hj
    simp only [List.getElem_drop,decide_eq_true_eq]
    intro e
    exact hnd i (i + 1 + j) (by simpa using hil) (by simp; omega) (by omega) (by simp [hpk,e])
theorem DIter.delete {T K E : TypeId} {w : World} {b r : Nat} {m : List (κ × ν)} {vis : List κ} (h : DIter ek ew w b r m vis) (hK : KeyEq P K ek) (hT : P.underlying T = some (.map K E)) (k : κ) (kt ty : TypeId) :
    ∃ w',(Builtin.delete_ #[T,kt] ty #[.map (some r),ek k]).run P w = .ok (.tuple #[]) w' ∧ DIter ek ew w' b r (mdel m k) vis ∧ Mod (· = r) w w' ∧ w'.heap.size = w.heap.size := by
  have hne := h.ne
  have hmap := h.map
  obtain ⟨es,c,s,a1,a2,a3,a4,a5,a6,a7⟩ := h
  obtain ⟨es1,c1,h1,h2,h3,h4,hf⟩ := hmap.found hK k
  rw [a1] at h1
  cases h1
  have hc := hK.check es.isEmpty k w
  have hu := run_und hT w
  have hg : (getObj r).run P w = .ok (.map es c) w := by simp [getObj,Sem.run,a1]
  have hlt := (Array.getElem?_eq_some_iff.1 a1).1
  have hset : ∀ o,(setObj r o).run P w = .ok () (w.putObj r o) := fun o => by simp [setObj,Sem.run,a1,World.putObj]
  have hlen : es.toList.length = m.length := by have := congrArg List.length h2; simpa using this
  have hmod : ∀ o,Mod (· = r) w (w.putObj r o) := fun o => ⟨rfl,rfl,rfl,by simp,fun b _ hb => World.putObj_heap_other hb⟩
  have hnd' : ((mdel m k).map (·.1)).Nodup := a6.sublist ((List.filter_sublist).map _)
  unfold Builtin.delete_
  cases hi : m.findIdx? (fun p => decide (p.1 = k)) with
  | none =>
    have hd : mdel m k = m := by
      unfold mdel
      rw [List.filter_eq_self]
      intro p hp
      have := (List.findIdx?_eq_none_iff.1 hi) p hp
      simpa using this
    refine ⟨w.putObj r (.map es c),?_,⟨es,c,s,World.putObj_heap_same hlt,by rw [hd]; exact h2,h3,h4,(World.putObj_heap_other hne).trans a5,hnd',by rw [hd]; exact a7⟩,hmod _,by simp⟩
    simp [hu,hg,hc,hf,hi,hset]
  | some i =>
    obtain ⟨hil,hpi,hlt'⟩ := List.findIdx?_eq_some_iff_getElem.1 hi
    have hmi : m[i]? = some m[i] := List.getElem?_eq_getElem hil
    have hei : i < es.size := by rw [← Array.length_toList,hlen]; exact hil
    have hdel := mdel_erase a6 hi
    have he : (es.eraseIdxIfInBounds i).toList = es.toList.eraseIdx i := by simp [Array.eraseIdxIfInBounds,hei]
    refine ⟨w.putObj r (.map (es.eraseIdxIfInBounds i) c), ?_, ⟨es.eraseIdxIfInBounds i, c, s, World.putObj_heap_same hlt, ?_, ?_, ?_, (World.putObj_heap_other hne).trans a5, hnd', ?_⟩, hmod _, by simp⟩
    · simp [hu,hg,hc,hf,hi,hmi,hset]
    · rw [he,hdel,map_eraseIdx',map_eraseIdx',h2]
    · rw [he,map_eraseIdx']
      exact h3.sublist (List.eraseIdx_sublist _ _)
    · rw [he]
      exact fun e hm => h4 e (List.mem_of_mem_eraseIdx hm)
    · intro j e p hj hp
      rw [he,List.getElem?_eraseIdx] at hj
      rw [hdel,List.getElem?_eraseIdx] at hp
      by_cases hji : j < i
      · rw [if_pos hji] at hj hp; exact a7 j e p hj hp
      · rw [if_neg hji] at hj hp; exact a7 (j + 1) e p hj hp
/-- Every entry of the one list stands in the other; kept folded,so that no simplification opens it. -/
def Within {α : Type} (a b : List α) : Prop := ∀ x ∈ a,x ∈ b

end
end Pk
namespace Pk
open Go
set_option maxRecDepth 10000
def putC (w : World) (b : Nat) : Nat → List Value → World
  | _,[] => w
  | o,u :: cs => putC (w.setCell ⟨b,o,none⟩ u) b (o + 1) cs
def setL (xs : List Value) : Nat → List Value → List Value
  | _,[] => xs
  | o,u :: cs => setL (xs.set o u) (o + 1) cs
theorem setL_eq : ∀ (cs xs : List Value) (o : Nat), o + cs.length ≤ xs.length → setL xs o cs = xs.take o ++ cs ++ xs.drop (o + cs.length)
  | [],xs,o,_ => by simp [setL]
  | u :: cs, xs, o, h => by
    simp only [List.length_cons] at h
    have := setL_eq cs (xs.set o u) (o + 1) (by simp; omega)
    rw [setL,this]
    apply List.ext_getElem?
    intro k
    rw [List.drop_set_of_lt (by omega),List.length_cons,show o + (cs.length + 1) = o + 1 + cs.length by omega]
    congr 2
    have ht : List.take (o + 1) (xs.set o u) = List.take o xs ++ [u] := by
      rw [List.take_add_one,List.take_set_of_le (Nat.le_refl _),List.getElem?_set_self (by omega)]
      rfl
    rw [ht]
    simp
theorem putC_mod {b : Nat} : ∀ (cs : List Value) {a w : World} (o : Nat), Mod (fun k => k = b) a w → Mod (fun k => k = b) a (putC w b o cs)
  | [],_,_,_,h => h
  | _ :: cs,_,_,o,h => putC_mod cs (o + 1) (h.setCell _ _ (.inl rfl))
end Pk
namespace Pk
open Go
set_option maxRecDepth 10000
structure Gr (W0 w : World) (t : Nat) (cs : List Value) (e : TypeId) (s : Nat) (v : Value) (n : Nat) (xs : List Value) : Prop where
  blk : Blk w t cs
  own : w.ownsRow W0.heap.size e s v n xs
  mod : Mod (fun k => W0.heap.size ≤ k ∨ k = t) W0 w
theorem own_nothing (w : World) (base : Nat) (e : TypeId) (s : Nat) : w.ownsRow base e s (.slice none 0 0) 0 [] := ⟨by simp,.inl ⟨rfl,rfl⟩⟩
theorem Gr.ext {W0 w w' : World} {t : Nat} {cs : List Value} {e : TypeId} {s : Nat} {v : Value} {n : Nat} {xs : List Value} (h : Gr W0 w t cs e s v n xs) (hE : Ext w w') : Gr W0 w' t cs e s v n xs :=
  ⟨h.blk.ext hE,own_ext h.own hE,h.mod.trans hE.mod⟩
/-- One more. -/
theorem Gr.push {P : Program} {W0 w : World} {t : Nat} {cs : List Value} {e : TypeId} {s : Nat} {v : Value} {n : Nat} {xs : List Value} {T : TypeId} (h : Gr W0 w t cs e s v n xs) (ht : t < W0.heap.size) (hs : isS (P.underlying T) = true) (he : elemT (P.underlying T) = e) (hi : elOk (P.info? e) s = true)
    (ys : List Value) (hys : ys.length = s) (h1 : ∀ u ∈ ys,u.oneCell' = true) (hn : n ≤ 10000) :
    ∃ a c w', (Builtin.append_ #[T, T] T #[v, .slice (some ⟨w.heap.size, 0, none⟩) 1 1]).run P (w.alloc (.cells ys.toArray e)) = .ok (.slice a (n + 1) c) w' ∧ Blk w' t cs ∧ Mod (fun k => W0.heap.size ≤ k ∨ k = t) W0 w' ∧
      ∀ j,Gr W0 (w'.setCell ⟨t,j,none⟩ (.slice a (n + 1) c)) t (cs.set j (.slice a (n + 1) c)) e s (.slice a (n + 1) c) (n + 1) (xs ++ ys) := by
  have hE := (Ext.refl w).alloc (.cells ys.toArray e)
  have hsl := Sl.made w ys e s 1 (by simpa using hys)
  have hz := h.mod.size
  obtain ⟨v',w',hr,ho,hM,-⟩ := append_own (P := P) (t := T) (ty := T) (e := e) (s := s) hs he hi (own_ext h.own hE) hsl h1 (by omega) (by have := hE.size; omega)
  obtain ⟨a,c,rfl⟩ := own_val ho
  have hge := fun hn => own_ge h.own hn
  have nt : ∀ k,k < W0.heap.size → ¬ (slN v = false ∧ k = slB v) := fun k hk ⟨e1,e2⟩ => by have := hge e1; omega
  have hb := (h.blk.ext hE).mod hM (nt t ht)
  have hM2 : Mod (fun k => W0.heap.size ≤ k ∨ k = t) W0 w' := (h.mod.trans hE.mod).trans (hM.weaken fun k hk => .inl (by have := hge hk.1; omega))
  refine ⟨a, c, w', hr, hb, hM2, fun j => ⟨hb.set j _, own_keep ho fun hn _ => ?_, hM2.setCell _ _ (.inl (.inr rfl))⟩⟩
  · have := own_ge ho hn
    exact Go.RowKit.Below.heap_setCell w' _ _ _ (by simp only; omega)
end Pk
