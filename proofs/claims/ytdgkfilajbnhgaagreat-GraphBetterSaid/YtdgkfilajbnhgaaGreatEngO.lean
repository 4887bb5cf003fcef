/-
 The engine, part O: what is alike in every world that goes on from this one.
-/
import Derived.Test.YtdgkfilajbnhgaaGreatEngI
namespace Pk
open Go

theorem calm_zero (t : TypeId) : Calm (zeroValue t) := by
 unfold zeroValue
 refine calm_bind (calm_info t) fun i => ?_
 split
 ·exact calm_pure _
 ·exact (never_unsupported _).calm
theorem calm_isAgg (t : TypeId) : Calm (isAgg t) := by
 unfold isAgg
 refine calm_bind (calm_und t) fun u => ?_
 split <;> exact calm_pure _
theorem calm_asBool (v : Value) : Calm (asBool v) := by
 unfold asBool
 split
 ·exact calm_pure _
 ·exact (never_stuck _).calm
theorem calm_asAgg (v : Value) : Calm (asAgg v) := by
 unfold asAgg
 split
 ·exact calm_pure _
 ·exact (never_stuck _).calm
theorem calm_part (t : TypeId) (cs : Array Value) (off : Nat) : Calm (part t cs off) := by
 unfold part
 refine calm_bind (calm_isAgg t) fun b => ?_
 split
 ·exact calm_bind (calm_size t) fun _ => calm_pure _
 ·split
  ·exact calm_pure _
  ·exact (never_stuck _).calm
theorem calm_extract (v : Value) (i : Nat) : Calm (Instr.extract v i) := by
 unfold Instr.extract
 split
 ·split
  ·exact calm_pure _
  ·exact (never_stuck _).calm
 ·exact (never_stuck _).calm
theorem calm_field (t : TypeId) (v : Value) (f : Nat) : Calm (Instr.field t v f) := by
 unfold Instr.field
 refine calm_bind (calm_und t) fun u => ?_
 split
 ·split
  ·exact calm_bind (calm_asAgg _) fun _ => calm_part _ _ _
  ·exact (never_stuck _).calm
 ·exact (never_stuck _).calm
theorem calm_mkI (t : TypeId) (v : Value) : Calm (Instr.makeInterface t v) := by
 unfold Instr.makeInterface
 refine calm_bind (calm_und t) fun u => ?_
 split
 ·exact (never_stuck _).calm
 ·exact calm_pure _
theorem calm_bound (x : Value) (y : Nat) (c : BoundsCode) : Calm (Instr.sliceBound x y c) := by
 unfold Instr.sliceBound
 refine calm_bind (calm_asInt x) fun kn => ?_
 obtain ⟨k, n⟩ := kn
 dsimp only
 split
 ·exact calm_pure _
 ·exact (never_bounds _ _ _ _).calm
theorem calm_bounds (b : Bool) (l c : Nat) (lo hi mx : Option Value) : Calm (Instr.sliceBounds b l c lo hi mx) := by
 unfold Instr.sliceBounds
 dsimp only
 have h3 : ∀ m h : Nat, Calm (do
   let l ← match lo with
    | some v => Instr.sliceBound v h (if mx.isSome then .slice3C else .sliceB)
    | none => pure 0
   pure (l, h, m) : Sem (Nat × Nat × Nat)) := by
  intro m h
  cases lo with
  | none => exact calm_bind (calm_pure _) fun _ => calm_pure _
  | some v => exact calm_bind (calm_bound _ _ _) fun _ => calm_pure _
 have h2 : ∀ m : Nat, Calm (do
   let h ← match hi, mx with
    | some v, some _ => Instr.sliceBound v m .slice3B
    | some v, none => Instr.sliceBound v m (if b then .sliceAcap else .sliceAlen)
    | none, none => pure l
    | none, some _ => stuck "Slice: max without high"
   let l ← match lo with
    | some v => Instr.sliceBound v h (if mx.isSome then .slice3C else .sliceB)
    | none => pure 0
   pure (l, h, m) : Sem (Nat × Nat × Nat)) := by
  intro m
  cases hi <;> cases mx
  ·exact calm_bind (calm_pure _) fun h => h3 m h
  ·exact calm_bind (never_stuck _).calm fun h => h3 m h
  ·exact calm_bind (calm_bound _ _ _) fun h => h3 m h
  ·exact calm_bind (calm_bound _ _ _) fun h => h3 m h
 cases mx with
 | none => exact calm_bind (calm_pure _) fun m => h2 m
 | some v => exact calm_bind (calm_bound _ _ _) fun m => h2 m
theorem calm_sliceAt (t : TypeId) (x : Value) (lo hi mx : Option Value) : Calm (Instr.sliceAt t x lo hi mx) := by
 unfold Instr.sliceAt
 refine calm_bind (calm_und t) fun u => ?_
 split
 ·refine calm_bind (calm_addr _) fun a => calm_bind (calm_bounds _ _ _ _ _ _) fun lhm => ?_
  obtain ⟨l, h, m⟩ := lhm
  exact calm_bind (calm_size _) fun _ => calm_pure _
 ·unfold Instr.slice
  refine calm_bind (calm_und t) fun u => ?_
  dsimp only
  split
  ·split
   ·exact calm_bind (never_stuck _).calm fun _ => calm_bind (calm_bounds _ _ _ _ _ _) fun lhm => calm_pure _
   ·exact calm_bind (calm_bounds _ _ _ _ _ _) fun lhm => calm_pure _
  ·exact calm_bind (calm_bounds _ _ _ _ _ _) fun lhm => calm_bind (calm_size _) fun _ => calm_pure _
  ·refine calm_bind ?_ fun a => calm_bind (calm_und _) fun u' => ?_
   ·unfold asAddr
    split
    ·exact calm_pure _
    ·exact (show Never (runtimePanic .nilDeref : Sem Addr) from fun P w v w' e => by cases e).calm
    ·exact (never_stuck _).calm
   ·split
    ·exact calm_bind (calm_bounds _ _ _ _ _ _) fun lhm => calm_bind (calm_size _) fun _ => calm_pure _
    ·exact (never_stuck _).calm
  ·exact (never_stuck _).calm
theorem calm_len {P : Program} {t ty : TypeId} {v : Value} (h : (isS (P.underlying t) || isStr (P.underlying t)) = true) {w w' : World} {u : Value} (e : (Builtin.len_ #[t] ty #[v]).run P w = .ok u w') (W : World) : (Builtin.len_ #[t] ty #[v]).run P W = .ok u W := by
 rw [Bool.or_eq_true] at h
 rcases h with h | h
 ·have hu := fun W => run_und (P := P) (isS_inv h) W
  cases v with
  | slice a n c => simp [Builtin.len_, hu] at e ⊢; exact e.1
  | _ => simp [Builtin.len_, hu] at e
 ·have hu := fun W => run_und (P := P) (isStr_inv h) W
  cases v with
  | string a => simp [Builtin.len_, hu] at e ⊢; exact e.1
  | _ => simp [Builtin.len_, hu] at e
theorem calm_forM {α : Type} (l : List α) (f : α → Sem (Nat × Nat)) (h : ∀ a, Calm (f a)) : Calm (l.mapM f) := by
 induction l with
 | nil => exact calm_pure _
 | cons a l ih =>
  rw [List.mapM_cons]
  exact calm_bind (h a) fun _ => calm_bind ih fun _ => calm_pure _
theorem calm_build (t : TypeId) (ps : Array (Nat × Value)) : Calm (Instr.build t ps) := by
 unfold Instr.build
 refine calm_bind (calm_zero t) fun z => ?_
 refine calm_bind (calm_und t) fun u => ?_
 split
 ·refine calm_bind ?_ fun places => ?_
  ·rename_i fields
   obtain ⟨fields⟩ := fields
   rw [List.mapM_toArray]
   have := calm_forM fields (fun f => do pure (f.offset, ← Go.sizeOf f.type)) fun f => calm_bind (calm_size _) fun _ => calm_pure _
   intro P w v w' e W
   rw [Sem.run_map] at e ⊢
   cases hr : (fields.mapM (fun f => (do pure (f.offset, ← Go.sizeOf f.type) : Sem (Nat × Nat)))).run P w with
   | ok a w1 => rw [hr] at e; rw [this P w a w1 hr W]; cases e; rfl
   | halt x w1 => rw [hr] at e; cases e
  ·split
   ·exact calm_pure _
   ·exact (never_stuck _).calm
 ·refine calm_bind (calm_size _) fun _ => ?_
  split
  ·exact calm_pure _
  ·exact (never_stuck _).calm
 ·exact (never_stuck _).calm
def bV : Value → Value → Bool
 | .int _ _, .int _ _ => true
 | .bool _, .bool _ => true
 | .string _, .string _ => true
 | .pointer none, .pointer none => true
 | .pointer none, .pointer (some _) => true
 | .pointer (some _), .pointer none => true
 | .slice none _ _, .slice _ _ _ => true
 | .slice (some _) _ _, .slice none _ _ => true
 | .map none, .map _ => true
 | .map (some _), .map none => true
 | .nilFunc, .nilFunc => true
 | .nilFunc, .func _ _ _ => true
 | .func _ _ _, .nilFunc => true
 | _, _ => false
section
variable (a b : Option Addr) (k k' : IntKind) (m n : Int) (x y : Bool) (s t : ByteArray) (l c l' c' : Nat) (r : Option Nat) (f : Fn) (p q : Array Value)
@[simp] theorem bV_int : bV (.int k m) (.int k' n) = true := rfl
@[simp] theorem bV_bool : bV (.bool x) (.bool y) = true := rfl
@[simp] theorem bV_str : bV (.string s) (.string t) = true := rfl
@[simp] theorem bV_ptr : bV (.pointer a) (.pointer none) = true := by cases a <;> rfl
@[simp] theorem bV_slice : bV (.slice a l c) (.slice none l' c') = true := by cases a <;> rfl
@[simp] theorem bV_map : bV (.map r) (.map none) = true := by cases r <;> rfl
@[simp] theorem bV_nf : bV .nilFunc .nilFunc = true := rfl
@[simp] theorem bV_f : bV (.func f p q) .nilFunc = true := rfl
end
theorem never_div {α : Type} : Never (runtimePanic (.error "integer divide by zero") : Sem α) := fun P w v w' e => by cases e
theorem never_shift {α : Type} : Never (runtimePanic (.error "negative shift amount") : Sem α) := fun P w v w' e => by cases e
theorem calm_shift (p : BinOp) (k yk : IntKind) (a b : Int) : Calm (Op.shift p k a yk b) := by
 unfold Op.shift
 split
 ·exact never_shift.calm
 ·dsimp only
  split
  ·exact calm_pure _
  ·exact calm_pure _
  ·exact (never_stuck _).calm
theorem calm_ints (p : BinOp) (t : TypeId) (k k' : IntKind) (a b : Int) : Calm (binOp p t (.int k a) (.int k' b)) := by
 have arith : ∀ p, Calm (Op.intArith p k a b) := fun p => by
  unfold Op.intArith
  split <;> first | exact calm_pure _ | exact (never_stuck _).calm
 have div : ∀ p, Calm (Op.intDiv p k a b) := fun p => by
  unfold Op.intDiv
  split
  ·exact never_div.calm
  ·split <;> first | exact calm_pure _ | exact (never_stuck _).calm
 have bits : ∀ p, Calm (Op.intBits p k a b) := fun p => by
  unfold Op.intBits
  dsimp only
  split <;> first | exact calm_pure _ | exact (never_stuck _).calm
 have cmp : ∀ p, Calm (Op.intCmp p a b) := fun p => by
  unfold Op.intCmp
  split <;> first | exact calm_pure _ | exact (never_stuck _).calm
 cases p
 case shl => unfold binOp; exact calm_shift _ _ _ _ _
 case shr => unfold binOp; exact calm_shift _ _ _ _ _
 all_goals
  unfold binOp
  dsimp only
  split
  ·exact (never_stuck _).calm
  ·first | exact arith _ | exact div _ | exact bits _ | exact cmp _
theorem calm_eq (t : TypeId) {x y : Value} (h : bV x y = true) : Calm (Op.equal t x y) := by
 unfold Op.equal Op.maxDepth
 rw [show (10000 : Nat) = 9999 + 1 from rfl]
 unfold Op.equalIn
 refine calm_bind (calm_und t) fun u => ?_
 unfold bV at h
 split at h
 all_goals
  cases u
  all_goals
   first
   | exact calm_pure _
   | exact (never_stuck _).calm
   | exact (never_unsupported _).calm
   | (dsimp only; split <;> first | exact calm_pure _ | exact (never_stuck _).calm)
   | skip
 all_goals cases h
theorem calm_strs (p : BinOp) (t : TypeId) (a b : ByteArray) : Calm (binOp p t (.string a) (.string b)) := by
 have str : ∀ p, Calm (Op.stringOp p a b) := fun p => by
  unfold Op.stringOp
  dsimp only
  split
  ·split
   ·exact (never_unsupported _).calm
   ·exact calm_pure _
  all_goals first | exact calm_pure _ | exact (never_stuck _).calm
 cases p <;> (unfold binOp; exact str _)
theorem calm_binop {p : BinOp} {t : TypeId} {x y : Value} (h : bV x y = true) : Calm (binOp p t x y) := by
 unfold bV at h
 split at h
 case h_1 => exact calm_ints _ _ _ _ _ _
 case h_3 => exact calm_strs _ _ _ _
 case h_14 => cases h
 all_goals
  cases p <;> unfold binOp <;> first
   | exact calm_bind (calm_eq _ rfl) fun _ => calm_pure _
   | exact calm_bind (calm_eq _ (by simp)) fun _ => calm_pure _
   | exact (never_stuck _).calm
   | exact (never_unsupported _).calm
   | skip
theorem calm_guard2 {p : BinOp} {t : TypeId} {x y : Operand} {a b : Value} (h : bV a b = true) : Calm (eqGuard p t x y a b) := by
 unfold eqGuard
 unfold bV at h
 split at h
 case h_14 => cases h
 all_goals (cases p <;> exact calm_pure _)
def ldOk (P : Program) (X : Nat → Bool) (w : World) (t : TypeId) : Value → Bool
 | .pointer (some a) => !X a.block && (List.range (P.cellsOf t)).all fun j => (w.cell? (a.add j)).isSome
 | _ => false
theorem load_alike {P : Program} {X : Nat → Bool} {a : Addr} {w w' W : World} {v : Value} (hx : X a.block = false) (hc : (w.cell? a).isSome = true) (hA : Agr (fun k => k < w.heap.size ∧ X k = false) w W) (h : (load a).run P w = .ok v w') : (load a).run P W = .ok v W := by
 obtain ⟨u, hu⟩ := Option.isSome_iff_exists.1 hc
 have hW := hA.cell hu ⟨World.block_lt_of_cell? _ _ hu, hx⟩
 simp [load, Sem.run, hu] at h
 simp [load, Sem.run, hW, h.1]
theorem add_block (a : Addr) (j : Nat) : (a.add j).block = a.block := by unfold Addr.add; split <;> rfl
theorem loads_alike {P : Program} {X : Nat → Bool} {a : Addr} {w W : World} (hx : X a.block = false) (hA : Agr (fun k => k < w.heap.size ∧ X k = false) w W) : ∀ (n i : Nat) (acc : Array Value) (w' : World) (v : Array Value), (∀ j, i ≤ j → j < i + n → (w.cell? (a.add j)).isSome = true) →
  (loadCellsFrom a i n acc).run P w = .ok v w' → (loadCellsFrom a i n acc).run P W = .ok v W
 | 0, i, acc, w', v, _, h => by simp [loadCellsFrom] at h ⊢; exact h.1
 | n + 1, i, acc, w', v, hc, h => by
  obtain ⟨u, hu⟩ := Option.isSome_iff_exists.1 (hc i (Nat.le_refl _) (by omega))
  have hW := hA.cell hu ⟨World.block_lt_of_cell? _ _ hu, by rw [add_block]; exact hx⟩
  have e1 : (load (a.add i)).run P w = .ok u w := by simp [load, Sem.run, hu]
  have e2 : (load (a.add i)).run P W = .ok u W := by simp [load, Sem.run, hW]
  simp only [loadCellsFrom, Sem.run_bind, e1, e2, Result.andThen_ok] at h ⊢
  exact loads_alike hx hA n (i + 1) _ w' v (fun j h1 h2 => hc j (by omega) (by omega)) h
theorem loadAt_alike {P : Program} {X : Nat → Bool} {t : TypeId} {x : Value} {w w' W : World} {v : Value} (hc : ldOk P X w t x = true) (hA : Agr (fun k => k < w.heap.size ∧ X k = false) w W) (h : (Instr.loadAt t x).run P w = .ok v w') (h1 : 0 < P.cellsOf t) : (Instr.loadAt t x).run P W = .ok v W := by
 cases x with
 | pointer p =>
  cases p with
  | none => cases hc
  | some a =>
   have hc' := Bool.and_eq_true_iff.1 hc
   have hx : X a.block = false := by simpa using hc'.1
   have hcell : ∀ j, j < P.cellsOf t → (w.cell? (a.add j)).isSome = true := fun j hj => List.all_eq_true.1 hc'.2 j (by simpa using hj)
   simp only [Instr.loadAt, Instr.sureAddr, loadVar, Sem.run_bind, Sem.run_pure, Result.andThen_ok] at h ⊢
   cases hg : (isAgg t).run P w with
   | halt e w2 => rw [hg] at h; cases h
   | ok b w2 =>
    rw [hg] at h
    have hw2 : w2 = w := by
     have := calm_isAgg t P w b w2 hg w
     rw [hg] at this; cases this; rfl
    subst hw2
    rw [calm_isAgg t P w2 b w2 hg W]
    simp only [Result.andThen_ok] at h ⊢
    cases b with
    | true =>
     simp only [if_true, Sem.run_bind] at h ⊢
     cases hz : (Go.sizeOf t).run P w2 with
     | halt e w3 => rw [hz] at h; cases h
     | ok n w3 =>
      rw [hz] at h
      have hw3 : w3 = w2 := by
       have := calm_size t P w2 n w3 hz w2
       rw [hz] at this; cases this; rfl
      subst hw3
      rw [calm_size t P w3 n w3 hz W]
      have hn : n = P.cellsOf t := by
       unfold Program.cellsOf
       cases hi : P.info? t with
       | none => simp [Go.sizeOf, typeInfo, program, Sem.run, hi] at hz
       | some i => simp [Go.sizeOf, typeInfo, program, Sem.run, hi] at hz; simp [hz]
      simp only [Result.andThen_ok, loadCells] at h ⊢
      cases hl : (loadCellsFrom a 0 n #[]).run P w3 with
      | halt e w4 => rw [hl] at h; cases h
      | ok vs w4 =>
       rw [hl] at h
       rw [loads_alike hx hA n 0 #[] w4 vs (fun j _ hj => hcell j (by omega)) hl]
       simp at h ⊢
       exact h.1
    | false =>
     simp only [Bool.false_eq_true, if_false] at h ⊢
     have h0 : a.add 0 = a := by unfold Addr.add; split <;> simp_all
     exact load_alike hx (by have := hcell 0 h1; rwa [h0] at this) hA h
 | _ => cases hc
def lenArg : Array TypeId → Option TypeId
 | ⟨[t]⟩ => some t
 | _ => none
def fieldSz (P : Program) (s : TypeId) (f : Nat) : Bool :=
 match P.underlying s with
 | some (.struct fields) => (match fields[f]? with | some fl => decide (0 < P.cellsOf fl.type) | none => false)
 | _ => false
def autoOp (P : Program) : Op → Bool
 | .move _ | .assign _ | .pick _ _ _ | .makeFunc _ _ _ | .indexAddr _ _ _ | .binOp _ _ _ _ _ | .extract _ _ | .field _ _ _ | .makeInterface _ _ | .slice _ _ _ _ _ | .build _ _ | .nilCheck _ => true
 | .unOp .not _ _ => true
 | .fieldAddr s _ f => fieldSz P s f
 | .load t _ => decide (0 < P.cellsOf t)
 | .convert s d _ => isInt (P.underlying d) && isInt (P.underlying s)
 | .call ⟨.builtin .min, _, _⟩ => true
 | .call ⟨.builtin .max, _, _⟩ => true
 | .call ⟨.builtin .len, args, ats⟩ => args.size == 1 && (match lenArg ats with | some t => isS (P.underlying t) || isStr (P.underlying t) | none => false)
 | _ => false
def cV (σ : Env) : Call → Bool
 | ⟨.builtin .min, args, _⟩ => args.toList.all fun x => isIntV (ev σ x)
 | ⟨.builtin .max, args, _⟩ => args.toList.all fun x => isIntV (ev σ x)
 | _ => true
theorem cV_env {σ σ' : Env} {c : Call} (h : ∀ z ∈ c.operands, ev σ z = ev σ' z) : cV σ c = cV σ' c := by
 have key : ∀ args : Array Operand, (∀ z ∈ args, ev σ z = ev σ' z) → (args.toList.all fun x => isIntV (ev σ x)) = (args.toList.all fun x => isIntV (ev σ' x)) := by
  intro args ha
  rw [Bool.eq_iff_iff, List.all_eq_true, List.all_eq_true]
  exact ⟨fun hh x hx => by rw [← ha x (Array.mem_toList_iff.1 hx)]; exact hh x hx, fun hh x hx => by rw [ha x (Array.mem_toList_iff.1 hx)]; exact hh x hx⟩
 obtain ⟨callee, args, ats⟩ := c
 have hargs : ∀ z ∈ args, ev σ z = ev σ' z := fun z hz => h z (by unfold Call.operands; exact Array.mem_append.2 (.inr hz))
 cases callee with
 | builtin b =>
  cases b with
  | min => exact key args hargs
  | max => exact key args hargs
  | _ => rfl
 | _ => rfl
def xV (P : Program) (X : Nat → Bool) (σ : Env) (w : World) (o : Oper) : Bool := match o.op with
 | .binOp _ _ x y _ => bV (ev σ x) (ev σ y)
 | .load t x => ldOk P X w t (ev σ x)
 | .convert _ _ x => isIntV (ev σ x)
 | .call c => cV σ c
 | _ => true
section
variable (P : Program) (X : Nat → Bool) (σ : Env) (w : World) (d : Option Tmp) (ty : TypeId) (pos : String) (af : Array Edge) (gd : Option (Nat × Bool))
@[simp ↓] theorem xV_move (x : Operand) : xV P X σ w ⟨d, .move x, ty, pos, af, gd⟩ = true := _root_.id rfl
@[simp ↓] theorem xV_assign (x : Operand) : xV P X σ w ⟨d, .assign x, ty, pos, af, gd⟩ = true := _root_.id rfl
@[simp ↓] theorem xV_pick (x y z : Operand) : xV P X σ w ⟨d, .pick x y z, ty, pos, af, gd⟩ = true := _root_.id rfl
@[simp ↓] theorem xV_load (t : TypeId) (x : Operand) : xV P X σ w ⟨d, .load t x, ty, pos, af, gd⟩ = ldOk P X w t (ev σ x) := _root_.id rfl
@[simp ↓] theorem xV_convert (s t : TypeId) (x : Operand) : xV P X σ w ⟨d, .convert s t x, ty, pos, af, gd⟩ = isIntV (ev σ x) := _root_.id rfl
@[simp ↓] theorem xV_indexAddr (t : TypeId) (x y : Operand) : xV P X σ w ⟨d, .indexAddr t x y, ty, pos, af, gd⟩ = true := _root_.id rfl
@[simp ↓] theorem xV_fieldAddr (t : TypeId) (x : Operand) (f : Nat) : xV P X σ w ⟨d, .fieldAddr t x f, ty, pos, af, gd⟩ = true := _root_.id rfl
@[simp ↓] theorem xV_field (t : TypeId) (x : Operand) (f : Nat) : xV P X σ w ⟨d, .field t x f, ty, pos, af, gd⟩ = true := _root_.id rfl
@[simp ↓] theorem xV_nilCheck (x : Operand) : xV P X σ w ⟨d, .nilCheck x, ty, pos, af, gd⟩ = true := _root_.id rfl
@[simp ↓] theorem xV_extract (x : Operand) (i : Nat) : xV P X σ w ⟨d, .extract x i, ty, pos, af, gd⟩ = true := _root_.id rfl
@[simp ↓] theorem xV_unOp (p : UnOp) (t : TypeId) (x : Operand) : xV P X σ w ⟨d, .unOp p t x, ty, pos, af, gd⟩ = true := _root_.id rfl
@[simp ↓] theorem xV_slice (t : TypeId) (x : Operand) (a b c : Option Operand) : xV P X σ w ⟨d, .slice t x a b c, ty, pos, af, gd⟩ = true := _root_.id rfl
@[simp ↓] theorem xV_build (t : TypeId) (ps : Array (Nat × Operand)) : xV P X σ w ⟨d, .build t ps, ty, pos, af, gd⟩ = true := _root_.id rfl
@[simp ↓] theorem xV_mkI (t : TypeId) (x : Operand) : xV P X σ w ⟨d, .makeInterface t x, ty, pos, af, gd⟩ = true := _root_.id rfl
@[simp ↓] theorem xV_mkF (f : Fn) (a b : Array Operand) : xV P X σ w ⟨d, .makeFunc f a b, ty, pos, af, gd⟩ = true := _root_.id rfl
@[simp ↓] theorem xV_callV (f : Operand) (args : Array Operand) (ats : Array TypeId) : xV P X σ w ⟨d, .call ⟨.value f, args, ats⟩, ty, pos, af, gd⟩ = true := _root_.id rfl
@[simp ↓] theorem xV_callL (args : Array Operand) (ats : Array TypeId) : xV P X σ w ⟨d, .call ⟨.builtin .len, args, ats⟩, ty, pos, af, gd⟩ = true := _root_.id rfl
@[simp ↓] theorem xV_callMin (args : Array Operand) (ats : Array TypeId) : xV P X σ w ⟨d, .call ⟨.builtin .min, args, ats⟩, ty, pos, af, gd⟩ = args.toList.all fun x => isIntV (ev σ x) := _root_.id rfl
@[simp ↓] theorem xV_callMax (args : Array Operand) (ats : Array TypeId) : xV P X σ w ⟨d, .call ⟨.builtin .max, args, ats⟩, ty, pos, af, gd⟩ = args.toList.all fun x => isIntV (ev σ x) := _root_.id rfl
@[simp ↓] theorem xV_binOp (p : BinOp) (t t' : TypeId) (x y : Operand) : xV P X σ w ⟨d, .binOp p t x y t', ty, pos, af, gd⟩ = bV (ev σ x) (ev σ y) := _root_.id rfl
end
theorem calm_not (v : Value) : Calm (Op.unary .not v) := by
 unfold Op.unary
 split <;> first | exact calm_pure _ | exact (never_stuck _).calm | exact (never_unsupported _).calm
theorem field_alike {P : Program} {s : TypeId} {x : Value} {f : Nat} (hf : fieldSz P s f = true) {w w' : World} {v : Value} (h : (Instr.fieldAt s x f).run P w = .ok v w') (W : World) : (Instr.fieldAt s x f).run P W = .ok v W := by
 unfold fieldSz at hf
 split at hf
 ·rename_i fields hu
  split at hf
  ·rename_i fl hfl
   have hr := fun W => run_und (P := P) hu W
   have key : ∀ W, (Instr.fieldAt s x f).run P W = (do let a ← Instr.sureAddr x; pure (.pointer (some (a.add fl.offset))) : Sem Value).run P W := by
    intro W
    simp only [Instr.fieldAt, Sem.run_bind, hr, Result.andThen_ok, hfl]
    cases ha : (Instr.sureAddr x).run P W with
    | halt e w2 => rfl
    | ok a w2 =>
     simp only [Result.andThen_ok, fieldPlace, Sem.run_bind]
     have hz : ∀ W, (Go.sizeOf fl.type).run P W = .ok (P.cellsOf fl.type) W := by
      intro W
      have : 0 < P.cellsOf fl.type := by simpa using hf
      unfold Program.cellsOf at this ⊢
      cases hi : P.info? fl.type with
      | none => simp [hi] at this
      | some i => simp [Go.sizeOf, typeInfo, program, Sem.run, hi]
     have hne : P.cellsOf fl.type ≠ 0 := Nat.pos_iff_ne_zero.1 (by simpa using hf)
     rw [hz]
     simp only [Result.andThen_ok, if_neg hne, Sem.run_pure]
   rw [key] at h ⊢
   exact calm_bind (calm_addr x) (fun _ => calm_pure _) P w v w' h W
  ·cases hf
 ·cases hf
theorem alike_onR {P : Program} {s : Sem Value} {w W : World} {k k' : Value → World → Prop} (hs : ∀ v w', s.run P w = .ok v w' → s.run P W = .ok v W) (h : onR (s.run P w) k) (hk : ∀ v w', k v w' → k' v W) : onR (s.run P W) k' := by
 cases e : s.run P w with
 | ok v w' => rw [e] at h; rw [hs v w' e]; exact hk _ _ h
 | halt x w' => rw [e] at h; exact h.elim
theorem calm_pick (a b c : Value) : Calm (do pure (if ← asBool a then b else c) : Sem Value) := calm_bind (calm_asBool a) fun _ => calm_pure _
theorem calm_nilc (v : Value) : Calm (match v with | .pointer (some a) => pure (.pointer (some a)) | _ => stuck "nilCheck" : Sem Value) := by
 split
 ·exact calm_pure _
 ·exact (never_stuck _).calm
theorem conv_alike {P : Program} {s d : TypeId} {k : IntKind} {n : Int} (hd : isInt (P.underlying d) = true) (hs : isInt (P.underlying s) = true) {w w' : World} {v : Value} (h : (convert s d (.int k n)).run P w = .ok v w') (W : World) : (convert s d (.int k n)).run P W = .ok v W := by
 rw [r_conv_int s d k n (by cases hu : P.underlying s <;> simp_all [isInt]) hd] at h ⊢
 cases h; rfl
theorem fold_ints {f : Value → Value → Sem Value} (hf : ∀ k x k' y, ∃ z, f (.int k x) (.int k' y) = pure (.int k z)) : ∀ (l : List Value) (k : IntKind) (x : Int), l.all isIntV = true → ∃ z, l.foldlM f (.int k x) = pure (.int k z)
 | [], k, x, _ => ⟨x, rfl⟩
 | v :: l, k, x, h => by
  obtain ⟨h1, h2⟩ := Bool.and_eq_true_iff.1 (by simpa using h : (isIntV v && l.all isIntV) = true)
  cases v with
  | int k' y =>
   obtain ⟨z, hz⟩ := hf k x k' y
   obtain ⟨z', hz'⟩ := fold_ints hf l k z h2
   refine ⟨z', ?_⟩
   rw [List.foldlM_cons, hz]
   simpa using hz'
  | _ => cases h1
theorem calm_min {ats : Array TypeId} {ty : TypeId} {args : Array Value} (h : args.toList.all isIntV = true) : Calm (Builtin.min_ ats ty args) := by
 unfold Builtin.min_
 cases hl : args.toList with
 | nil => intro P w v w' e W; simp at e
 | cons x rest =>
  rw [hl] at h
  obtain ⟨h1, h2⟩ := Bool.and_eq_true_iff.1 (by simpa using h : (isIntV x && rest.all isIntV) = true)
  cases x with
  | int k y =>
   obtain ⟨z, hz⟩ := fold_ints (f := Builtin.min2) (fun k x k' y => ⟨_, rfl⟩) rest k y h2
   simp only
   rw [hz]
   exact calm_pure _
  | _ => cases h1
theorem calm_max {ats : Array TypeId} {ty : TypeId} {args : Array Value} (h : args.toList.all isIntV = true) : Calm (Builtin.max_ ats ty args) := by
 unfold Builtin.max_
 cases hl : args.toList with
 | nil => intro P w v w' e W; simp at e
 | cons x rest =>
  rw [hl] at h
  obtain ⟨h1, h2⟩ := Bool.and_eq_true_iff.1 (by simpa using h : (isIntV x && rest.all isIntV) = true)
  cases x with
  | int k y =>
   obtain ⟨z, hz⟩ := fold_ints (f := Builtin.max2) (fun k x k' y => ⟨_, rfl⟩) rest k y h2
   simp only
   rw [hz]
   exact calm_pure _
  | _ => cases h1
theorem VO_alike {P : Program} {X : Nat → Bool} {r : Option Nat} {o : Oper} {k : Value → List Deferred → Prop} {ρ : Env} {ds : List Deferred} {w W : World} (hf : autoOp P o.op = true) (hi : xV P X ρ w o = true) (hA : Agr (fun k => k < w.heap.size ∧ X k = false) w W)
  (h : VO P r o (fun ρ'' ds'' _ => k (dv ρ'' o.dst) ds'') (fun _ _ _ _ => False) ρ ds w) : VO P r o (fun ρ'' ds'' w'' => w'' = W ∧ k (dv ρ'' o.dst) ds'') (fun _ _ _ _ => False) ρ ds W := by
 obtain ⟨dst, op, ty, pos, aft, gd⟩ := o
 have calm : ∀ {s : Sem Value}, Calm s → onR (s.run P w) (fun v _ => k (dv (put ρ dst v) dst) ds) → onR (s.run P W) (fun v w' => w' = W ∧ k (dv (put ρ dst v) dst) ds) :=
  fun hc hh => alike_onR (fun v w' e => hc P w v w' e W) hh fun v w' h' => ⟨rfl, h'⟩
 cases op with
 | move x => exact ⟨rfl, h⟩
 | assign x => exact ⟨rfl, h⟩
 | makeFunc f a b => exact ⟨rfl, h⟩
 | pick a b c => exact calm (calm_pick _ _ _) h
 | indexAddr t x i => exact calm (calm_index t _ _) h
 | extract t i => exact calm (calm_extract _ _) h
 | field t x f => exact calm (calm_field _ _ _) h
 | makeInterface t x => exact calm (calm_mkI _ _) h
 | slice t x a b c => exact calm (calm_sliceAt _ _ _ _ _) h
 | build t ps => exact calm (calm_build _ _) h
 | nilCheck x => exact calm (calm_nilc _) h
 | unOp p t x =>
  cases p with
  | not => exact calm (calm_not _) h
  | _ => cases hf
 | fieldAddr s x f => exact alike_onR (fun v w' e => field_alike hf e W) h fun v w' h' => ⟨rfl, h'⟩
 | load t x => exact alike_onR (fun v w' e => loadAt_alike hi hA e (by simpa [autoOp] using hf)) h fun v w' h' => ⟨rfl, h'⟩
 | convert s d x =>
  have hf' := Bool.and_eq_true_iff.1 hf
  have hi' : isIntV (ev ρ x) = true := hi
  have h' : onR ((convert s d (ev ρ x)).run P w) (fun v _ => k (dv (put ρ dst v) dst) ds) := h
  show onR ((convert s d (ev ρ x)).run P W) (fun v w' => w' = W ∧ k (dv (put ρ dst v) dst) ds)
  cases hx : ev ρ x with
  | int q n =>
   rw [hx] at h'
   exact alike_onR (fun v w' e => conv_alike hf'.1 hf'.2 e W) h' fun v w' h' => ⟨rfl, h'⟩
  | _ => rw [hx] at hi'; cases hi'
 | binOp p t x y t' => exact calm (calm_bind (calm_guard2 hi) fun _ => calm_binop hi) h
 | call c =>
  obtain ⟨callee, args, ats⟩ := c
  cases callee with
  | builtin b =>
   cases b with
   | len =>
    simp only [autoOp, Bool.and_eq_true, beq_iff_eq] at hf
    obtain ⟨h1, h2⟩ := hf
    obtain ⟨args⟩ := args
    match args, h1 with
    | [x], _ =>
     unfold lenArg at h2
     split at h2
     ·rename_i t ht
      split at ht
      ·cases ht
       have h' := Eq.mp (VO_builtin P r dst ty pos aft gd (fun ρ'' ds'' _ => k (dv ρ'' dst) ds'') (fun _ _ _ _ => False) ρ ds w .len [x] #[t]) h
       refine Eq.mpr (VO_builtin P r dst ty pos aft gd (fun ρ'' ds'' w'' => w'' = W ∧ k (dv ρ'' dst) ds'') (fun _ _ _ _ => False) ρ ds W .len [x] #[t]) ?_
       exact alike_onR (s := Builtin.len_ #[t] ty #[ev ρ x]) (fun v w' e => calm_len h2 e W) h' fun v w' h' => ⟨rfl, h'⟩
      ·cases ht
     ·cases h2
   | min =>
    obtain ⟨args⟩ := args
    have h' := Eq.mp (VO_builtin P r dst ty pos aft gd (fun ρ'' ds'' _ => k (dv ρ'' dst) ds'') (fun _ _ _ _ => False) ρ ds w .min args ats) h
    refine Eq.mpr (VO_builtin P r dst ty pos aft gd (fun ρ'' ds'' w'' => w'' = W ∧ k (dv ρ'' dst) ds'') (fun _ _ _ _ => False) ρ ds W .min args ats) ?_
    have hi' : args.all (fun x => isIntV (ev ρ x)) = true := hi
    exact calm (calm_min (ats := ats) (ty := ty) (args := (args.map (ev ρ)).toArray) (by simpa [Function.comp_def] using hi')) h'
   | max =>
    obtain ⟨args⟩ := args
    have h' := Eq.mp (VO_builtin P r dst ty pos aft gd (fun ρ'' ds'' _ => k (dv ρ'' dst) ds'') (fun _ _ _ _ => False) ρ ds w .max args ats) h
    refine Eq.mpr (VO_builtin P r dst ty pos aft gd (fun ρ'' ds'' w'' => w'' = W ∧ k (dv ρ'' dst) ds'') (fun _ _ _ _ => False) ρ ds W .max args ats) ?_
    have hi' : args.all (fun x => isIntV (ev ρ x)) = true := hi
    exact calm (calm_max (ats := ats) (ty := ty) (args := (args.map (ev ρ)).toArray) (by simpa [Function.comp_def] using hi')) h'
   | _ => cases hf
  | _ => cases hf
 | _ => cases hf
end Pk
namespace Pk
open Go
abbrev Fact := Value → World → Prop
def PA (P : Program) (X : Nat → Bool) (r : Option Nat) (ds : List Deferred) (ops : Array Oper) (w1 : World) (R : Env → Prop) : List Oper → List (Option Fact) → Env → Prop
 | o :: os, none :: gs, σ => GI (gw ops σ o.guard) (xV P X σ w1 o = true ∧ VO P r o (fun ρ'' ds'' w'' => (ds'' = ds ∧ w'' = w1) ∧ PA P X r ds ops w1 R os gs ρ'') (fun _ _ _ _ => False) σ ds w1) (PA P X r ds ops w1 R os gs (put σ o.dst undef))
 | o :: os, some _ :: gs, σ => PA P X r ds ops w1 R os gs (put σ o.dst undef)
 | _, _, σ => R σ
def GO (P : Program) (r : Option Nat) (ds : List Deferred) (ops : Array Oper) (w1 : World) (Kp Ks : World → World → Prop) (bs : List (List Nat)) (st : Nat) (Gs : World → Prop) (T : Env → World → Prop) : List Oper → List (Option Fact) → Nat → List (Nat × (World → Prop)) → Env → Prop
 | _ :: os, none :: gs, i, acc, σ => GO P r ds ops w1 Kp Ks bs st Gs T os gs (i + 1) acc σ
 | o :: os, some A :: gs, i, acc, σ =>
  (∀ W, Ks w1 W → (∀ p ∈ acc, (bsAt bs i).contains p.1 = true → p.2 W) →
   GI (gw ops σ o.guard) (VO P r o (fun ρ'' ds'' w'' => ds'' = ds ∧ (if i = st then Kp W w'' ∧ Gs w'' else Ks W w'') ∧ A (dv ρ'' o.dst) w'') (fun _ _ _ _ => False) σ ds W) (A undef W)) ∧
  ∀ u, GO P r ds ops w1 Kp Ks bs st Gs T os gs (i + 1) ((i, A u) :: acc) (put σ o.dst u)
 | _, _, _, acc, σ => ∀ W, Kp w1 W → Gs W → (∀ p ∈ acc, p.2 W) → T σ W
def PAt (P : Program) (X : Nat → Bool) (r : Option Nat) (ds : List Deferred) (ops : Array Oper) (w1 : World) (R : Env → Prop) (l : List Oper) (gs : List (Option Fact)) (_ : Tok (PProd.mk ops (PProd.mk R (PProd.mk l gs)))) (σ : Env) : Prop := PA P X r ds ops w1 R l gs σ
def GOt (P : Program) (r : Option Nat) (ds : List Deferred) (ops : Array Oper) (w1 : World) (Kp Ks : World → World → Prop) (bs : List (List Nat)) (st : Nat) (Gs : World → Prop) (T : Env → World → Prop) (l : List Oper) (gs : List (Option Fact)) (i : Nat) (acc : List (Nat × (World → Prop)))
 (_ : Tok (PProd.mk ops (PProd.mk bs (PProd.mk T (PProd.mk l (PProd.mk gs (PProd.mk i acc))))))) (σ : Env) : Prop := GO P r ds ops w1 Kp Ks bs st Gs T l gs i acc σ
section
variable (P : Program) (X : Nat → Bool) (r : Option Nat) (ds : List Deferred) (ops : Array Oper) (w1 : World) (R : Env → Prop) (Kp Ks : World → World → Prop) (bs : List (List Nat)) (st : Nat) (Gs : World → Prop) (T : Env → World → Prop) (o : Oper) (os : List Oper) (A : Fact) (gs : List (Option Fact)) (i : Nat) (acc : List (Nat × (World → Prop))) (σ : Env)
@[simp ↓] theorem PA_tok (l : List Oper) : PA P X r ds ops w1 R l gs σ = PAt P X r ds ops w1 R l gs .mk σ := _root_.id rfl
@[simp] theorem PAt_none (t) : PAt P X r ds ops w1 R (o :: os) (none :: gs) t σ = GIt (gw ops σ o.guard) (xV P X σ w1 o = true ∧ VO P r o (fun ρ'' ds'' w'' => (ds'' = ds ∧ w'' = w1) ∧ PA P X r ds ops w1 R os gs ρ'') (fun _ _ _ _ => False) σ ds w1) (PA P X r ds ops w1 R os gs (put σ o.dst undef)) .mk := _root_.id rfl
@[simp] theorem PAt_some (t) : PAt P X r ds ops w1 R (o :: os) (some A :: gs) t σ = PAt P X r ds ops w1 R os gs .mk (put σ o.dst undef) := _root_.id rfl
@[simp] theorem PAt_nil (t) : PAt P X r ds ops w1 R [] gs t σ = R σ := by unfold PAt PA; rfl
@[simp] theorem PAt_nil' (l : List Oper) (t) : PAt P X r ds ops w1 R l [] t σ = R σ := by unfold PAt; cases l <;> rfl
@[simp] theorem PAt_take (k : Nat) (t) : PAt P X r ds ops w1 R ((o :: os).take (k + 1)) gs t σ = PAt P X r ds ops w1 R (o :: os.take k) gs .mk σ := _root_.id rfl
@[simp] theorem PAt_take0 (l : List Oper) (t) : PAt P X r ds ops w1 R (l.take 0) gs t σ = R σ := by unfold PAt PA; rfl
@[simp ↓] theorem GO_tok (l : List Oper) : GO P r ds ops w1 Kp Ks bs st Gs T l gs i acc σ = GOt P r ds ops w1 Kp Ks bs st Gs T l gs i acc .mk σ := _root_.id rfl
@[simp] theorem GOt_none (t) : GOt P r ds ops w1 Kp Ks bs st Gs T (o :: os) (none :: gs) i acc t σ = GOt P r ds ops w1 Kp Ks bs st Gs T os gs (i + 1) acc .mk σ := _root_.id rfl
@[simp] theorem GOt_take (k : Nat) (t) : GOt P r ds ops w1 Kp Ks bs st Gs T ((o :: os).take (k + 1)) gs i acc t σ = GOt P r ds ops w1 Kp Ks bs st Gs T (o :: os.take k) gs i acc .mk σ := _root_.id rfl
end
section
variable {P : Program} {X : Nat → Bool} {r : Option Nat} {ds : List Deferred} {ops : Array Oper} {w1 : World} {R : Env → Prop} {Kp Ks : World → World → Prop} {bs : List (List Nat)} {st : Nat} {Gs : World → Prop} {T : Env → World → Prop} {o : Oper} {os : List Oper} {A : Fact} {gs : List (Option Fact)} {i : Nat} {acc : List (Nat × (World → Prop))} {σ : Env}
end
section
variable {P : Program} {X : Nat → Bool} {r : Option Nat} {ds : List Deferred} {ops : List Oper} {w1 : World} {R : Env → Prop} {Kp Ks : World → World → Prop} {m : Nat} {bs : List (List Nat)} {st : Nat} {Gs : World → Prop} {T : Env → World → Prop}
def PAf (P : Program) (X : Nat → Bool) (r : Option Nat) (ds : List Deferred) (ops : Array Oper) (w1 : World) (σf : Env) : List Oper → List (Option Fact) → Env → Prop
 | o :: os, none :: gs, σ => ∃ c, GI (gw ops σ o.guard) (xV P X σ w1 o = true ∧ VO P r o (fun ρ'' ds'' _ => ds'' = ds ∧ dv ρ'' o.dst = c) (fun _ _ _ _ => False) σ ds w1) (c = undef) ∧ PAf P X r ds ops w1 σf os gs (put σ o.dst c)
 | o :: os, some _ :: gs, σ => PAf P X r ds ops w1 σf os gs (put σ o.dst undef)
 | _, _, σ => σ = σf
def marksOk (P : Program) (ops : List Oper) (m : Nat) (bs : List (List Nat)) (ks : List Bool) (st : Nat) : Bool :=
 (decide (ks.length = m) && (decide (m ≤ st) || ((List.range m).all (fun i => !(ks.getD i false) || (decide (i = st) || (bsAt bs st).contains i)) && (ks.getD st false && (match ops[st]? with | some o => o.guard.isNone | none => false))))) && (List.range m).all fun i => match ops[i]?, ks[i]? with
  | some o, some false => plain o.op && (autoOp P o.op && (o.dst.isSome && ((tmpsOf o).all (fun t => (List.range m).all fun j => !(ks.getD j false) || dstAt ops j != some t) && (match o.guard with | none => true | some (j, _) => !(ks.getD j false)))))
  | some o, some true => (tmpsOf o).all (fun t => (List.range m).all fun j => dstAt ops j != some t || (bsAt bs i).contains j)
  | _, _ => false
def factsOf (σf : Env) : List Oper → List (Option Fact) → List Fact
 | o :: os, none :: gs => (fun v _ => v = dv σf o.dst) :: factsOf σf os gs
 | _ :: os, some A :: gs => A :: factsOf σf os gs
 | _, _ => []
end
@[simp] theorem bldS_nil (P : Program) (w : World) (t : TypeId) (s : Nat) (z : Value) (w1 w2 : World) (hs : isS (P.underlying t) = true) (hi : ((Go.sizeOf (elemT (P.underlying t))).run P w) = .ok s w) :
  bldS P w t 0 [] (.ok s w1) (.ok z w2) = .ok (.slice (some ⟨w.heap.size, 0, none⟩) 0 0) (w.alloc (.cells #[] (elemT (P.underlying t)))) := by
 have hu := run_und (isS_inv hs) w
 show (if bOk 0 s [] = true then _ else _) = _
 rw [if_neg (by simp [bOk])]
 have e : Array.range 0 = #[] := by simp [Array.range]
 simp [Instr.buildSlice, hu, hi, Instr.fill, newRow, newObj, Sem.run, e]
section
variable {P : Program} {w : World} {s : Nat} {v : Value} {n : Nat} {cs : List Value} {t : TypeId}
theorem Sl.sliceL (h : Sl w s v n cs) (hs : isS (P.underlying t) = true) (k : IntKind) (i : Int) (h0 : 0 ≤ i) (h1 : i ≤ n) (w' : World) :
  (Instr.sliceAt t v (some (.int k i)) none none).run P w' = ((Go.sizeOf (elemT (P.underlying t))).run P w').andThen fun z w' => .ok (slcL v i.toNat z) w' := by
 rw [run_sliceAt_slice w' t v _ _ _ (elem_of hs), elemT_of hs]
 rcases h.val with ⟨c, rfl, rfl⟩ | ⟨b, o, c, rfl, hc⟩
 ·rw [run_slice_l w' t none 0 c (elem_of hs) k i h0 (by omega)]
  congr 1
 ·rw [run_slice_l w' t _ n c (elem_of hs) k i h0 (by omega)]
  congr 1
theorem Sl.dropL (h : Sl w s v n cs) (i : Nat) (h1 : i ≤ n) : Sl w s (slcL v i s) (n - i) (cs.drop (i * s)) := by
 have hl := h.len
 refine ⟨by rw [List.length_drop, hl, Nat.sub_mul], ?_, ?_⟩
 ·rcases h.val with ⟨c, rfl, rfl⟩ | ⟨b, o, c, rfl, hc⟩
  ·left
   refine ⟨c - i, ?_, by omega⟩
   simp only [slcL, Option.map_none, ite_self]
   have : i = 0 := by omega
   subst this; rfl
  ·right
   by_cases e : c = i
   ·exact ⟨b, o, c - i, by simp [slcL, e], by omega⟩
   ·exact ⟨b, o + i * s, c - i, by simp [slcL, e], by omega⟩
 ·intro j u hj
  rw [List.getElem?_drop] at hj
  have hat := h.at_ _ u hj
  rcases h.val with ⟨c, rfl, rfl⟩ | ⟨b, o, c, rfl, hc⟩
  ·have := (List.getElem?_eq_some_iff.1 hj).1
   omega
  ·by_cases e : c = i
   ·have := (List.getElem?_eq_some_iff.1 hj).1
    have h2 : n = i := by omega
    rw [hl, h2] at this; omega
   ·simp only [slcL, if_neg e, Option.map_some, add_mk, slB, slO] at hat ⊢
    rw [Nat.add_assoc]; exact hat
end
theorem Kc.weaken {base : Nat} {X : Nat → Bool} {e : TypeId} {s : Nat} {Z : List Value} {a b : World} (h : Kc base (fun _ => false) e s Z a b) : Kc base X e s Z a b := ⟨h.old.weaken fun _ hi => ⟨hi.1, rfl⟩, h.one, h.row⟩
end Pk
namespace Pk
open Go
def phI (E : List Nat) (i : Nat) : Nat := E.countP fun e => decide (e < i)
@[simp] theorem phI_nil (i : Nat) : phI [] i = 0 := rfl
@[simp] theorem phI_cons (e : Nat) (E : List Nat) (i : Nat) : phI (e :: E) i = phI E i + if e < i then 1 else 0 := by unfold phI; rw [List.countP_cons]; by_cases h : e < i <;> simp [h]
def ordB (bs : List (List Nat)) (E : List Nat) (i : Nat) : Bool := E.all fun e => (bsAt bs i).contains e || (decide (e = i) || (bsAt bs e).contains i)
def GH (P : Program) (r : Option Nat) (ds : List Deferred) (ops : Array Oper) (w1 : World) (Kp : World → World → Prop) (bs : List (List Nat)) (E : List Nat) (Ph : Nat → World → Prop) (T : Env → World → Prop) : List Oper → List (Option Fact) → Nat → List (Nat × (World → Prop)) → Env → Prop
 | _ :: os, none :: gs, i, acc, σ => GH P r ds ops w1 Kp bs E Ph T os gs (i + 1) acc σ
 | o :: os, some A :: gs, i, acc, σ =>
  (∀ k k' W, (ordB bs E i = true → k = phI E i ∧ k' = phI E (i + 1)) → (ordB bs E i = false → k' = k) → Kp w1 W → Ph k W → (∀ p ∈ acc, (bsAt bs i).contains p.1 = true → p.2 W) →
   GI (gw ops σ o.guard) (VO P r o (fun ρ'' ds'' w'' => ds'' = ds ∧ Kp W w'' ∧ A (dv ρ'' o.dst) w'' ∧ Ph k' w'') (fun _ _ _ _ => False) σ ds W) (A undef W ∧ Ph k' W)) ∧
  ∀ u, GH P r ds ops w1 Kp bs E Ph T os gs (i + 1) ((i, A u) :: acc) (put σ o.dst u)
 | _, _, _, acc, σ => ∀ W, Kp w1 W → Ph E.length W → (∀ p ∈ acc, p.2 W) → T σ W
def GHt (P : Program) (r : Option Nat) (ds : List Deferred) (ops : Array Oper) (w1 : World) (Kp : World → World → Prop) (bs : List (List Nat)) (E : List Nat) (Ph : Nat → World → Prop) (T : Env → World → Prop) (l : List Oper) (gs : List (Option Fact)) (i : Nat) (acc : List (Nat × (World → Prop)))
 (_ : Tok (PProd.mk ops (PProd.mk bs (PProd.mk T (PProd.mk l (PProd.mk gs (PProd.mk i acc))))))) (σ : Env) : Prop := GH P r ds ops w1 Kp bs E Ph T l gs i acc σ
section
variable (P : Program) (r : Option Nat) (ds : List Deferred) (ops : Array Oper) (w1 : World) (Kp : World → World → Prop) (bs : List (List Nat)) (E : List Nat) (Ph : Nat → World → Prop) (T : Env → World → Prop) (o : Oper) (os : List Oper) (A : Fact) (gs : List (Option Fact)) (i : Nat) (acc : List (Nat × (World → Prop))) (σ : Env)
@[simp ↓] theorem GH_tok (l : List Oper) : GH P r ds ops w1 Kp bs E Ph T l gs i acc σ = GHt P r ds ops w1 Kp bs E Ph T l gs i acc .mk σ := _root_.id rfl
@[simp] theorem GHt_none (t) : GHt P r ds ops w1 Kp bs E Ph T (o :: os) (none :: gs) i acc t σ = GHt P r ds ops w1 Kp bs E Ph T os gs (i + 1) acc .mk σ := _root_.id rfl
@[simp] theorem GHt_take (k : Nat) (t) : GHt P r ds ops w1 Kp bs E Ph T ((o :: os).take (k + 1)) gs i acc t σ = GHt P r ds ops w1 Kp bs E Ph T (o :: os.take k) gs i acc .mk σ := _root_.id rfl
end
section
variable {P : Program} {r : Option Nat} {ds : List Deferred} {ops : Array Oper} {w1 : World} {Kp : World → World → Prop} {bs : List (List Nat)} {E : List Nat} {Ph : Nat → World → Prop} {T : Env → World → Prop} {o : Oper} {os : List Oper} {A : Fact} {gs : List (Option Fact)} {i : Nat} {acc : List (Nat × (World → Prop))} {σ : Env}
end
section
variable {P : Program} {X : Nat → Bool} {r : Option Nat} {ds : List Deferred} {ops : List Oper} {w1 : World} {R : Env → Prop} {Kp : World → World → Prop} {m : Nat} {bs : List (List Nat)} {E : List Nat} {Ph : Nat → World → Prop} {T : Env → World → Prop}
def marksE (P : Program) (ops : List Oper) (m : Nat) (bs : List (List Nat)) (ks : List Bool) (E : List Nat) : Bool :=
 (decide (ks.length = m) && (E.all (fun e => decide (e < m) && ks.getD e false) && (List.range m).all (fun i => !(E.contains i) || ordB bs E i))) &&
 (List.range m).all fun i => match ops[i]?, ks[i]? with
  | some o, some false => plain o.op && (autoOp P o.op && (o.dst.isSome && ((tmpsOf o).all (fun t => (List.range m).all fun j => !(ks.getD j false) || dstAt ops j != some t) && (match o.guard with | none => true | some (j, _) => !(ks.getD j false)))))
  | some o, some true => (tmpsOf o).all (fun t => (List.range m).all fun j => dstAt ops j != some t || (bsAt bs i).contains j)
  | _, _ => false
def cntS (E : List Nat) (S : Nat → Bool) : Nat := E.countP fun e => S e
end
end Pk
namespace Pk
open Go

def ldX (X : Nat → Bool) (w : World) : Value → Bool
 | .pointer (some a) => !X a.block && (w.cell? a).isSome
 | _ => true
@[simp] theorem ldX_ptr (X : Nat → Bool) (w : World) (a : Addr) : ldX X w (.pointer (some a)) = (!X a.block && (w.cell? a).isSome) := rfl
theorem far_none {P : Program} {w : World} {a b : Addr} (hb : b.block = a.block) (ha : (w.cell? a).isSome = true) (x : Bool) : ∃ e, w.farLoad P b x = .error e := by
 obtain ⟨u, hu⟩ := Option.isSome_iff_exists.1 ha
 obtain ⟨c, t, fr, h⟩ := cell_blk hu
 unfold World.farLoad
 rw [hb, h]
 exact ⟨_, rfl⟩
theorem loads_went {P : Program} {X : Nat → Bool} {a : Addr} {w W : World} (hx : X a.block = false) (ha : (w.cell? a).isSome = true) (hA : Agr (fun k => k < w.heap.size ∧ X k = false) w W) : ∀ (n i : Nat) (acc : Array Value) (w' : World) (v : Array Value),
  (loadCellsFrom a i n acc).run P w = .ok v w' → (loadCellsFrom a i n acc).run P W = .ok v W
 | 0, i, acc, w', v, h => by simp [loadCellsFrom] at h ⊢; exact h.1
 | n + 1, i, acc, w', v, h => by
  cases hc : w.cell? (a.add i) with
  | none =>
   obtain ⟨e, he⟩ := far_none (P := P) (b := a.add i) (add_block a i) ha (Mode.plain == Mode.atomic)
   simp [loadCellsFrom, load, Sem.run, hc, he] at h
  | some u =>
   have hW := hA.cell hc ⟨World.block_lt_of_cell? _ _ hc, by rw [add_block]; exact hx⟩
   have e1 : (load (a.add i)).run P w = .ok u w := by simp [load, Sem.run, hc]
   have e2 : (load (a.add i)).run P W = .ok u W := by simp [load, Sem.run, hW]
   simp only [loadCellsFrom, Sem.run_bind, e1, e2, Result.andThen_ok] at h ⊢
   exact loads_went hx ha hA n (i + 1) _ w' v h
theorem loadAt_went {P : Program} {X : Nat → Bool} {t : TypeId} {x : Value} {w w' W : World} {v : Value} (hc : ldX X w x = true) (hA : Agr (fun k => k < w.heap.size ∧ X k = false) w W) (h : (Instr.loadAt t x).run P w = .ok v w') : (Instr.loadAt t x).run P W = .ok v W := by
 cases x with
 | pointer p =>
  cases p with
  | none => simp [Instr.loadAt, Instr.sureAddr] at h
  | some a =>
   obtain ⟨hx, ha⟩ : X a.block = false ∧ (w.cell? a).isSome = true := by simpa using hc
   simp only [Instr.loadAt, Instr.sureAddr, loadVar, Sem.run_bind, Sem.run_pure, Result.andThen_ok] at h ⊢
   cases hg : (isAgg t).run P w with
   | halt e w2 => rw [hg] at h; cases h
   | ok b w2 =>
    rw [hg] at h
    have hw2 : w2 = w := by
     have := calm_isAgg t P w b w2 hg w
     rw [hg] at this; cases this; rfl
    subst hw2
    rw [calm_isAgg t P w2 b w2 hg W]
    simp only [Result.andThen_ok] at h ⊢
    cases b with
    | true =>
     simp only [if_true, Sem.run_bind] at h ⊢
     cases hz : (Go.sizeOf t).run P w2 with
     | halt e w3 => rw [hz] at h; cases h
     | ok n w3 =>
      rw [hz] at h
      have hw3 : w3 = w2 := by
       have := calm_size t P w2 n w3 hz w2
       rw [hz] at this; cases this; rfl
      subst hw3
      rw [calm_size t P w3 n w3 hz W]
      simp only [Result.andThen_ok, loadCells] at h ⊢
      cases hl : (loadCellsFrom a 0 n #[]).run P w3 with
      | halt e w4 => rw [hl] at h; cases h
      | ok vs w4 =>
       rw [hl] at h
       rw [loads_went hx ha hA n 0 #[] w4 vs hl]
       simp at h ⊢
       exact h.1
    | false =>
     simp only [Bool.false_eq_true, if_false] at h ⊢
     exact load_alike hx ha hA h
 | _ => simp [Instr.loadAt, Instr.sureAddr] at h

def xL (X : Nat → Bool) (σ : Env) (w : World) (o : Oper) : Bool := match o.op with
 | .binOp _ _ x y _ => bV (ev σ x) (ev σ y)
 | .load _ x => ldX X w (ev σ x)
 | .convert _ _ x => isIntV (ev σ x)
 | .call c => cV σ c
 | _ => true
section
variable (X : Nat → Bool) (σ : Env) (w : World) (d : Option Tmp) (ty : TypeId) (pos : String) (af : Array Edge) (gd : Option (Nat × Bool))
@[simp ↓] theorem xL_move (x : Operand) : xL X σ w ⟨d, .move x, ty, pos, af, gd⟩ = true := _root_.id rfl
@[simp ↓] theorem xL_assign (x : Operand) : xL X σ w ⟨d, .assign x, ty, pos, af, gd⟩ = true := _root_.id rfl
@[simp ↓] theorem xL_pick (x y z : Operand) : xL X σ w ⟨d, .pick x y z, ty, pos, af, gd⟩ = true := _root_.id rfl
@[simp ↓] theorem xL_load (t : TypeId) (x : Operand) : xL X σ w ⟨d, .load t x, ty, pos, af, gd⟩ = ldX X w (ev σ x) := _root_.id rfl
@[simp ↓] theorem xL_convert (s t : TypeId) (x : Operand) : xL X σ w ⟨d, .convert s t x, ty, pos, af, gd⟩ = isIntV (ev σ x) := _root_.id rfl
@[simp ↓] theorem xL_indexAddr (t : TypeId) (x y : Operand) : xL X σ w ⟨d, .indexAddr t x y, ty, pos, af, gd⟩ = true := _root_.id rfl
@[simp ↓] theorem xL_fieldAddr (t : TypeId) (x : Operand) (f : Nat) : xL X σ w ⟨d, .fieldAddr t x f, ty, pos, af, gd⟩ = true := _root_.id rfl
@[simp ↓] theorem xL_field (t : TypeId) (x : Operand) (f : Nat) : xL X σ w ⟨d, .field t x f, ty, pos, af, gd⟩ = true := _root_.id rfl
@[simp ↓] theorem xL_nilCheck (x : Operand) : xL X σ w ⟨d, .nilCheck x, ty, pos, af, gd⟩ = true := _root_.id rfl
@[simp ↓] theorem xL_extract (x : Operand) (i : Nat) : xL X σ w ⟨d, .extract x i, ty, pos, af, gd⟩ = true := _root_.id rfl
@[simp ↓] theorem xL_unOp (p : UnOp) (t : TypeId) (x : Operand) : xL X σ w ⟨d, .unOp p t x, ty, pos, af, gd⟩ = true := _root_.id rfl
@[simp ↓] theorem xL_slice (t : TypeId) (x : Operand) (a b c : Option Operand) : xL X σ w ⟨d, .slice t x a b c, ty, pos, af, gd⟩ = true := _root_.id rfl
@[simp ↓] theorem xL_build (t : TypeId) (ps : Array (Nat × Operand)) : xL X σ w ⟨d, .build t ps, ty, pos, af, gd⟩ = true := _root_.id rfl
@[simp ↓] theorem xL_mkI (t : TypeId) (x : Operand) : xL X σ w ⟨d, .makeInterface t x, ty, pos, af, gd⟩ = true := _root_.id rfl
@[simp ↓] theorem xL_mkF (f : Fn) (a b : Array Operand) : xL X σ w ⟨d, .makeFunc f a b, ty, pos, af, gd⟩ = true := _root_.id rfl
@[simp ↓] theorem xL_callV (f : Operand) (args : Array Operand) (ats : Array TypeId) : xL X σ w ⟨d, .call ⟨.value f, args, ats⟩, ty, pos, af, gd⟩ = true := _root_.id rfl
@[simp ↓] theorem xL_callL (args : Array Operand) (ats : Array TypeId) : xL X σ w ⟨d, .call ⟨.builtin .len, args, ats⟩, ty, pos, af, gd⟩ = true := _root_.id rfl
@[simp ↓] theorem xL_callMin (args : Array Operand) (ats : Array TypeId) : xL X σ w ⟨d, .call ⟨.builtin .min, args, ats⟩, ty, pos, af, gd⟩ = args.toList.all fun x => isIntV (ev σ x) := _root_.id rfl
@[simp ↓] theorem xL_callMax (args : Array Operand) (ats : Array TypeId) : xL X σ w ⟨d, .call ⟨.builtin .max, args, ats⟩, ty, pos, af, gd⟩ = args.toList.all fun x => isIntV (ev σ x) := _root_.id rfl
@[simp ↓] theorem xL_binOp (p : BinOp) (t t' : TypeId) (x y : Operand) : xL X σ w ⟨d, .binOp p t x y t', ty, pos, af, gd⟩ = bV (ev σ x) (ev σ y) := _root_.id rfl
end
theorem VO_went {P : Program} {X : Nat → Bool} {r : Option Nat} {o : Oper} {k : Value → List Deferred → Prop} {ρ : Env} {ds : List Deferred} {w W : World} (hf : autoOp P o.op = true) (hi : xL X ρ w o = true) (hA : Agr (fun k => k < w.heap.size ∧ X k = false) w W)
  (h : VO P r o (fun ρ'' ds'' _ => k (dv ρ'' o.dst) ds'') (fun _ _ _ _ => False) ρ ds w) : VO P r o (fun ρ'' ds'' w'' => w'' = W ∧ k (dv ρ'' o.dst) ds'') (fun _ _ _ _ => False) ρ ds W := by
 by_cases hl : ∃ t x, o.op = .load t x
 ·obtain ⟨t, x, hl⟩ := hl
  obtain ⟨dst, op, ty, pos, aft, gd⟩ := o
  simp only at hl
  subst hl
  exact alike_onR (fun v w' e => loadAt_went hi hA e) h fun v w' h' => ⟨rfl, h'⟩
 ·refine VO_alike hf ?_ hA h
  obtain ⟨dst, op, ty, pos, aft, gd⟩ := o
  unfold xL at hi
  unfold xV
  cases op with
  | load t x => exact (hl ⟨t, x, rfl⟩).elim
  | _ => exact hi
def isLd : Op → Bool
 | .load _ _ => true
 | _ => false
theorem VO_went' {P : Program} {X : Nat → Bool} {r : Option Nat} {o : Oper} {k : Value → List Deferred → Prop} {ρ : Env} {ds : List Deferred} {w W : World} (hf : autoOp P o.op = true) (hi : xL X ρ w o = true) (hA : Agr (fun k => k < w.heap.size ∧ (isLd o.op = true ∧ X k = false)) w W)
  (h : VO P r o (fun ρ'' ds'' _ => k (dv ρ'' o.dst) ds'') (fun _ _ _ _ => False) ρ ds w) : VO P r o (fun ρ'' ds'' w'' => w'' = W ∧ k (dv ρ'' o.dst) ds'') (fun _ _ _ _ => False) ρ ds W := by
 cases hl : isLd o.op with
 | true => exact VO_went hf hi (hA.weaken fun i hi => ⟨hi.1, hl, hi.2⟩) h
 | false =>
  refine VO_alike (X := fun _ => true) hf ?_ (hA.weaken fun i hi => by simp at hi) h
  obtain ⟨dst, op, ty, pos, aft, gd⟩ := o
  unfold xL at hi
  unfold xV
  cases op with
  | load t x => cases hl
  | _ => exact hi
theorem auto_plain {P : Program} {op : Op} (h : autoOp P op = true) : plain op = true := by
 unfold autoOp at h
 unfold plain
 split at h <;> first | rfl | (cases h)

theorem onR_imp {x : Result Value} {k k' : Value → World → Prop} (h : onR x k) (hk : ∀ v w, k v w → k' v w) : onR x k' := by
 cases x with
 | ok v w => exact hk v w h
 | halt e w => exact h.elim
theorem onU_imp {x : Result Unit} {k k' : World → Prop} (h : onU x k) (hk : ∀ w, k w → k' w) : onU x k' := by
 cases x with
 | ok v w => exact hk w h
 | halt e w => exact h.elim
theorem VO_imp {P : Program} {r : Option Nat} {o : Oper} {K K' : Cont} {ρ : Env} {ds : List Deferred} {w : World} (h : VO P r o K (fun _ _ _ _ => False) ρ ds w)
  (hK : ∀ v ds' w', K (put ρ o.dst v) ds' w' → K' (put ρ o.dst v) ds' w') : VO P r o K' (fun _ _ _ _ => False) ρ ds w := by
 obtain ⟨dst, op, ty, pos, aft, gd⟩ := o
 have hk : ∀ v w', K (put ρ dst v) ds w' → K' (put ρ dst v) ds w' := fun v w' => hK v ds w'
 cases op with
 | call c =>
  obtain ⟨callee, args, ats⟩ := c
  cases callee with
  | value f =>
   refine CV.mono (show CV P (ev ρ f) (args.toList.map (ev ρ)) w (RC dst K (fun _ _ _ _ => False) ρ ds) from h) fun e w' he => ?_
   cases e with
   | returned v => exact hk _ _ he
   | panicked ch => exact he
   | outgrown => exact he
  | invoke x m =>
   refine IV.mono (show IV P m (ev ρ x :: args.toList.map (ev ρ)) w (RC dst K (fun _ _ _ _ => False) ρ ds) from h) fun e w' he => ?_
   cases e with
   | returned v => exact hk _ _ he
   | panicked ch => exact he
   | outgrown => exact he
  | builtin b => exact onR_imp h hk
 | defer c =>
  obtain ⟨callee, args, ats⟩ := c
  cases callee with
  | value f =>
   obtain ⟨h1, h2⟩ := (show r = none ∧ DF (ev ρ f) (args.toList.map (ev ρ)) fun d => K (put ρ dst undef) (d :: ds) w from h)
   refine (show r = none ∧ DF (ev ρ f) (args.toList.map (ev ρ)) fun d => K' (put ρ dst undef) (d :: ds) w from ⟨h1, ?_⟩)
   unfold DF at h2 ⊢
   split at h2
   ·exact hK _ _ _ h2
   ·exact h2.elim
  | _ => exact (show False from h).elim
 | panic x =>
  exfalso
  have h' : PN (ev ρ x) fun _ => False := h
  unfold PN at h'
  split at h' <;> exact h'
 | move x => exact hk _ _ h
 | assign x => exact hk _ _ h
 | makeFunc fn first caps => exact hk _ _ h
 | box t x => exact onR_imp (x := (Instr.box t (ev ρ x)).run P w) (show onR ((Instr.box t (ev ρ x)).run P w) (fun v w' => K (put ρ dst v) ds w') from h) hk
 | _ => first | exact onR_imp h hk | exact onU_imp h (fun w' => hk _ w') | exact (show False from h).elim

inductive Tr
 | Z
 | F (i : Nat) (t : Tr)
 | E (i : Nat) (t : Tr) (rest : Tr)
abbrev Tr.C (i : Nat) (t : Tr) : Tr := .E i t .Z
def nthO : List Oper → Nat → Option Oper
 | [], _ => none
 | o :: _, 0 => some o
 | _ :: l, j + 1 => nthO l j
theorem nthO_eq (l : List Oper) : ∀ j, nthO l j = l[j]? := by
 induction l with
 | nil => intro j; simp [nthO]
 | cons o l ih => intro j; cases j with
  | zero => rfl
  | succ j => simp [nthO, ih]
def KR (A B : Prop) : Prop := A ∧ B
def RF (P : Program) (X : Nat → Bool) (r : Option Nat) (ds : List Deferred) (ops : List Oper) (K : Env → World → Prop) (σ : Env) (W : World) : Option Oper → Prop
 | none => False
 | some o => GI (gw ops.toArray σ o.guard) (xL X σ W o = true ∧ VO P r o (fun ρ'' ds'' w'' => (ds'' = ds ∧ w'' = W) ∧ K ρ'' W) (fun _ _ _ _ => False) σ ds W) (K (put σ o.dst undef) W)
def RE (P : Program) (X : Nat → Bool) (r : Option Nat) (ds : List Deferred) (ops : List Oper) (K : Env → World → Prop) (σ : Env) (W : World) : Option Oper → Prop
 | none => False
 | some o => GI (gw ops.toArray σ o.guard) (VO P r o (fun ρ'' ds'' w'' => ds'' = ds ∧ KR (Agr (fun k => X k = false) W w'') (K ρ'' w'')) (fun _ _ _ _ => False) σ ds W) (K (put σ o.dst undef) W)
def RT (P : Program) (X : Nat → Bool) (r : Option Nat) (ds : List Deferred) (ops : List Oper) (T : Env → World → Prop) : Bool → Tr → Env → World → Prop
 | true, .Z, _, _ => True
 | false, .Z, σ, W => T σ W
 | _, .F i t, σ, W => RF P X r ds ops (RT P X r ds ops T false t) σ W (nthO ops i)
 | _, .E i t rest, σ, W => RE P X r ds ops (RT P X r ds ops T false t) σ W (nthO ops i) ∧ RT P X r ds ops T true rest σ W

def nodeOk (ops : List Oper) (m : Nat) (bs : List (List Nat)) (i : Nat) (L : List Nat) : Bool :=
 decide (i < m) && (!L.contains i && ((bsAt bs i).all (fun j => L.contains j) && (match nthO ops i with
  | none => false
  | some o => (tmpsOf o).all fun t => (List.range m).all fun j => dstAt ops j != some t || (bsAt bs i).contains j)))
def trOk (P : Program) (ops : List Oper) (m : Nat) (bs : List (List Nat)) : Bool → Tr → List Nat → List Nat → Bool
 | false, .Z, L, _ => (List.range m).all fun i => L.contains i
 | true, .Z, L, as => (List.range m).all fun i => L.contains i || (!((bsAt bs i).all fun j => L.contains j) || as.contains i)
 | b, .F i t, L, _ => !b && (nodeOk ops m bs i L && ((match nthO ops i with | none => false | some o => autoOp P o.op && o.dst.isSome) && trOk P ops m bs false t (i :: L) []))
 | _, .E i t rest, L, as => nodeOk ops m bs i L && (trOk P ops m bs false t (i :: L) [] && trOk P ops m bs true rest L (i :: as))

section
variable {P : Program} {X : Nat → Bool} {n : Nat} {r : Option Nat} {id : Nat} {ops : List Oper} {m : Nat} {bs : List (List Nat)} {ds : List Deferred} {T : Env → World → Prop} {ρ : Env}
theorem nodeOk_inv {i : Nat} {L : List Nat} (h : nodeOk ops m bs i L = true) : i < m ∧ i ∉ L ∧ (∀ j ∈ bsAt bs i, j ∈ L) ∧ ∃ o, ops[i]? = some o ∧ ∀ t ∈ tmpsOf o, ∀ j, j < m → dstAt ops j = some t → j ∈ bsAt bs i := by
 unfold nodeOk at h
 simp only [Bool.and_eq_true, decide_eq_true_eq, Bool.not_eq_true', List.all_eq_true, List.contains_iff_mem] at h
 obtain ⟨h1, h2, h3, h4⟩ := h
 refine ⟨h1, fun hc => ?_, h3, ?_⟩
 ·rw [List.contains_iff_mem.2 hc] at h2; cases h2
 rw [nthO_eq] at h4
 cases ho : ops[i]? with
 | none => rw [ho] at h4; cases h4
 | some o =>
  rw [ho] at h4
  refine ⟨o, rfl, fun t ht j hj hd => ?_⟩
  have := List.all_eq_true.1 (List.all_eq_true.1 h4 t ht) j (by simpa using hj)
  simp only [Bool.or_eq_true, bne_iff_ne, ne_eq, List.contains_iff_mem] at this
  exact this.resolve_left (fun h => h hd)
def PROM (P : Program) (X : Nat → Bool) (r : Option Nat) (ds : List Deferred) (ops : List Oper) (m : Nat) (bs : List (List Nat)) (L : List Nat) (j : Nat) (σ : Env) (W : World) : Prop :=
 ∃ o, ops[j]? = some o ∧ autoOp P o.op = true ∧ o.dst.isSome = true ∧ (∀ k ∈ bsAt bs j, k ∈ L) ∧ (∀ t ∈ tmpsOf o, ∀ k, k < m → dstAt ops k = some t → k ∈ bsAt bs j) ∧ (∀ k b, o.guard = some (k, b) → k ∈ bsAt bs j) ∧
  ∃ Wo, Agr (fun k => k < Wo.heap.size ∧ (isLd o.op = true ∧ X k = false)) Wo W ∧
   GI (gw ops.toArray σ o.guard) (xL X σ Wo o = true ∧ VO P r o (fun ρ'' ds'' _ => ds'' = ds ∧ dv ρ'' o.dst = dv σ o.dst) (fun _ _ _ _ => False) σ ds Wo) (dv σ o.dst = undef)
theorem PROM.keep {L L' : List Nat} {j : Nat} {σ : Env} {W W' : World} (h : PROM P X r ds ops m bs L j σ W) (hL : ∀ k ∈ L, k ∈ L') (hA : Agr (fun k => X k = false) W W') : PROM P X r ds ops m bs L' j σ W' := by
 obtain ⟨o, h1, h2, h3, h4, h5, h6, Wo, h7, h8⟩ := h
 refine ⟨o, h1, h2, h3, fun k hk => hL k (h4 k hk), h5, h6, Wo, ?_, h8⟩
 exact ⟨hA.os.trans h7.os, hA.tape.trans h7.tape, hA.out.trans h7.out, Nat.le_trans h7.size hA.size, fun i hi hs => (hA.blk i (Nat.lt_of_lt_of_le hi h7.size) hs.2.2).trans (h7.blk i hi hs)⟩
theorem PROM.keepS {L L' : List Nat} {j : Nat} {σ : Env} {W W' : World} (h : PROM P X r ds ops m bs L j σ W) (hL : ∀ k ∈ L, k ∈ L') (hA : Agr (fun _ => False) W W') (hn : ∀ o, ops[j]? = some o → isLd o.op = false) : PROM P X r ds ops m bs L' j σ W' := by
 obtain ⟨o, h1, h2, h3, h4, h5, h6, Wo, h7, h8⟩ := h
 have hl := hn o h1
 refine ⟨o, h1, h2, h3, fun k hk => hL k (h4 k hk), h5, h6, Wo, ?_, h8⟩
 exact ⟨hA.os.trans h7.os, hA.tape.trans h7.tape, hA.out.trans h7.out, Nat.le_trans h7.size hA.size, fun i hi hs => by rw [hl] at hs; cases hs.2.1⟩
theorem xL_env {o : Oper} {ρ ρ' : Env} (h : ∀ t ∈ tmpsOf o, ρ t = ρ' t) (w : World) : xL X ρ w o = xL X ρ' w o := by
 have hx : ∀ x ∈ o.op.operands, ev ρ x = ev ρ' x := by
  intro x hx
  cases x with
  | tmp t => exact h t (by unfold tmpsOf; rw [List.mem_filterMap]; exact ⟨.tmp t, by simpa using hx, rfl⟩)
  | _ => rfl
 obtain ⟨dst, op, ty, pos, aft, gd⟩ := o
 unfold xL
 cases op with
 | binOp p t x y t' => simp only; rw [hx x (by simp [Op.operands]), hx y (by simp [Op.operands])]
 | load t x => simp only; rw [hx x (by simp [Op.operands])]
 | convert s d x => simp only; rw [hx x (by simp [Op.operands])]
 | call c => exact cV_env fun z hz => hx z hz
 | _ => rfl
theorem PROM.put {L : List Nat} {j : Nat} {σ : Env} {W : World} (h : PROM P X r ds ops m bs L j σ W) (hb : befsOk ops m bs = true) (hj : j < m) (hjL : j ∈ L) (hLm : ∀ k ∈ L, k < m) {i : Nat} (hi : i ∉ L) (him : i < m) {o' : Oper} (ho' : ops[i]? = some o') (v : Value) :
  PROM P X r ds ops m bs L j (Pk.put σ o'.dst v) W := by
 obtain ⟨o, h1, h2, h3, h4, h5, h6, Wo, h7, h8⟩ := h
 have hne : j ≠ i := fun e => hi (e ▸ hjL)
 have hdi : dstAt ops i = o'.dst := by rw [dstAt_get, ho']; rfl
 have hdj : dstAt ops j = o.dst := by rw [dstAt_get, h1]; rfl
 have hs : ∀ t, o'.dst ≠ some t → (Pk.put σ o'.dst v) t = σ t := by
  intro t ht
  cases hd : o'.dst with
  | none => rfl
  | some d => have : t ≠ d := fun e => ht (by rw [hd, e]); simp [this]
 have hop : ∀ t ∈ tmpsOf o, σ t = (Pk.put σ o'.dst v) t := fun t ht => (hs t fun e => hi (h4 i (h5 t ht i him (by rw [hdi, e])))).symm
 have hgw : gw ops.toArray (Pk.put σ o'.dst v) o.guard = gw ops.toArray σ o.guard := by
  refine gw_env fun k b hg d hd => hs d fun e => ?_
  have hkb := h6 k b hg
  have hkL := h4 k hkb
  have : k = i := head_uniq hb (hLm k hkL) him hd (by rw [hdi, e])
  exact hi (this ▸ hkL)
 have hdv : dv (Pk.put σ o'.dst v) o.dst = dv σ o.dst := by
  cases hod : o.dst with
  | none => rfl
  | some d =>
   simp only [dv_some]
   exact hs d fun e => hne (head_uniq hb hj him (by rw [hdj, hod]) (by rw [hdi, e]))
 refine ⟨o, h1, h2, h3, h4, h5, h6, Wo, h7, ?_⟩
 rw [hgw, hdv]
 cases hg : gw ops.toArray σ o.guard with
 | true =>
  rw [hg, GI_true] at h8
  rw [GI_true]
  refine ⟨by rw [← xL_env hop _]; exact h8.1, ?_⟩
  have := VO_env (k := fun v ds'' _ => ds'' = ds ∧ v = dv σ o.dst) hop h8.2
  obtain ⟨u, w', hK, hK'⟩ := VO_det (auto_plain h2) this
  exact hK' _ _ hK.1
 | false => rw [hg, GI_false] at h8; rw [GI_false]; exact h8

structure GS (P : Program) (X : Nat → Bool) (r : Option Nat) (ds : List Deferred) (ops : List Oper) (m : Nat) (bs : List (List Nat)) (T : Env → World → Prop) (ρ : Env) (S : Nat → Bool) (W : World) (t : Tr) (L : List Nat) (σ : Env) : Prop where
 ok : trOk P ops m bs false t L [] = true
 rt : RT P X r ds ops T false t σ W
 sub : ∀ j, S j = true → j ∈ L
 lm : ∀ j ∈ L, j < m
 fr : ∀ x, (∀ j ∈ L, dstAt ops j ≠ some x) → σ x = ρ x
 prom : ∀ j ∈ L, S j = false → PROM P X r ds ops m bs L j σ W
def isFr : Tr → Bool | .F .. => true | _ => false
theorem GS.norm {S : Nat → Bool} {W : World} (hb : befsOk ops m bs = true) : ∀ (t : Tr) (L : List Nat) (σ : Env), GS P X r ds ops m bs T ρ S W t L σ →
  ∃ t' L' σ', GS P X r ds ops m bs T ρ S W t' L' σ' ∧ isFr t' = false ∧ (∀ j ∈ L, j ∈ L') ∧ ∀ j ∈ L, dv σ' (dstAt ops j) = dv σ (dstAt ops j)
 | .Z, L, σ, h => ⟨_, _, _, h, rfl, fun _ h => h, fun _ _ => rfl⟩
 | .E .., L, σ, h => ⟨_, _, _, h, rfl, fun _ h => h, fun _ _ => rfl⟩
 | .F i t, L, σ, h => by
  have hok := h.ok
  unfold trOk at hok
  simp only [Bool.not_false, Bool.true_and, Bool.and_eq_true] at hok
  obtain ⟨hn, ha, hok'⟩ := hok
  obtain ⟨him, hiL, hbL, o, ho, hsl⟩ := nodeOk_inv hn
  rw [nthO_eq, ho] at ha
  simp only [Bool.and_eq_true] at ha
  have hrt := h.rt
  unfold RT at hrt
  rw [nthO_eq, ho] at hrt
  have hdi : dstAt ops i = o.dst := by rw [dstAt_get, ho]; rfl
  obtain ⟨o2, ho2, -, hb3, -, hb5, -⟩ := befsOk_head hb him
  rw [ho] at ho2; cases ho2
  obtain ⟨d, hd⟩ := Option.isSome_iff_exists.1 ha.2
  -- what it gives
  have key : ∃ v, RT P X r ds ops T false t (Pk.put σ o.dst v) W ∧ GI (gw ops.toArray σ o.guard) (xL X σ W o = true ∧ VO P r o (fun ρ'' ds'' _ => ds'' = ds ∧ dv ρ'' o.dst = v) (fun _ _ _ _ => False) σ ds W) (v = undef) := by
   unfold RF at hrt
   simp only at hrt
   cases hg : gw ops.toArray σ o.guard with
   | true =>
    rw [hg, GI_true] at hrt
    obtain ⟨v, w', hK, hK'⟩ := VO_det (auto_plain ha.1) hrt.2
    refine ⟨v, hK.2, ?_⟩
    rw [GI_true]
    refine ⟨hrt.1, hK' _ _ ⟨hK.1.1, ?_⟩⟩
    rw [hd]; simp
   | false =>
    rw [hg, GI_false] at hrt
    exact ⟨undef, hrt, by rw [GI_false]⟩
  obtain ⟨v, hrt', hv⟩ := key
  have hs : ∀ x, o.dst ≠ some x → (Pk.put σ o.dst v) x = σ x := by
   intro x hx
   rw [hd] at hx ⊢
   have : x ≠ d := fun e => hx (by rw [e])
   simp [this]
  have hop : ∀ x ∈ tmpsOf o, σ x = (Pk.put σ o.dst v) x := fun x hx => (hs x fun e => by
   have := hsl x hx i him (by rw [hdi, e])
   have := (hb3 i this).1
   omega).symm
  have hgw : gw ops.toArray (Pk.put σ o.dst v) o.guard = gw ops.toArray σ o.guard := by
   refine gw_env fun k b hg x hx => hs x fun e => ?_
   have hkb := hb5 k b hg
   have hk : k = i := head_uniq hb (h.lm k (hbL k hkb)) him hx (by rw [hdi, e])
   exact hiL (hk ▸ hbL k hkb)
  have hnew : GS P X r ds ops m bs T ρ S W t (i :: L) (Pk.put σ o.dst v) := by
   refine ⟨hok', hrt', fun j hj => List.mem_cons_of_mem _ (h.sub j hj), ?_, ?_, ?_⟩
   ·intro j hj
    rcases List.mem_cons.1 hj with rfl | hj
    ·exact him
    ·exact h.lm j hj
   ·intro x hx
    rw [hs x fun e => hx i (by simp) (by rw [hdi, e])]
    exact h.fr x fun j hj => hx j (by simp [hj])
   ·intro j hj hSj
    rcases List.mem_cons.1 hj with rfl | hj
    ·refine ⟨o, ho, ha.1, ha.2, fun k hk => List.mem_cons_of_mem _ (hbL k hk), hsl, hb5, W, Agr.refl _ _, ?_⟩
     have hdv : dv (Pk.put σ o.dst v) o.dst = v := by rw [hd]; simp
     rw [hgw, hdv]
     cases hg : gw ops.toArray σ o.guard with
     | true =>
      rw [hg, GI_true] at hv
      rw [GI_true]
      refine ⟨by rw [← xL_env hop _]; exact hv.1, ?_⟩
      have := VO_env (k := fun u ds'' _ => ds'' = ds ∧ u = v) hop hv.2
      obtain ⟨u, w', hK, hK'⟩ := VO_det (auto_plain ha.1) this
      exact hK' _ _ hK.1
     | false => rw [hg, GI_false] at hv; rw [GI_false]; exact hv
    ·exact ((h.prom j hj hSj).put hb (h.lm j hj) hj h.lm hiL him ho v).keep (fun k hk => List.mem_cons_of_mem _ hk) (Agr.refl _ _)
  obtain ⟨t', L', σ', g1, g2, g3, g4⟩ := GS.norm hb t (i :: L) _ hnew
  refine ⟨t', L', σ', g1, g2, fun j hj => g3 j (by simp [hj]), fun j hj => ?_⟩
  rw [g4 j (by simp [hj])]
  cases hdj : dstAt ops j with
  | none => rfl
  | some x =>
   simp only [dv_some]
   exact hs x fun e => hiL ((head_uniq hb (h.lm j hj) him hdj (by rw [hdi, e])) ▸ hj)

theorem RT_pick {W : World} {σ : Env} {L : List Nat} {i : Nat} (him : i < m) (hi : i ∉ L) (hbi : ∀ j ∈ bsAt bs i, j ∈ L) : ∀ (b : Bool) (t : Tr) (as : List Nat), i ∉ as → isFr t = false → trOk P ops m bs b t L as = true → RT P X r ds ops T b t σ W →
  ∃ t', RE P X r ds ops (RT P X r ds ops T false t') σ W (nthO ops i) ∧ nodeOk ops m bs i L = true ∧ trOk P ops m bs false t' (i :: L) [] = true
 | false, .Z, as, _, _, hok, _ => by
  unfold trOk at hok
  exact (hi (by simpa using List.all_eq_true.1 hok i (by simpa using him))).elim
 | true, .Z, as, has, _, hok, _ => by
  unfold trOk at hok
  have h1 := List.all_eq_true.1 hok i (by simpa using him)
  have h2 : (bsAt bs i).all (fun j => L.contains j) = true := List.all_eq_true.2 fun j hj => by simpa using hbi j hj
  rw [h2] at h1
  simp [hi, has] at h1
 | b, .F .., as, _, hf, _, _ => by cases hf
 | b, .E k t rest, as, has, _, hok, hrt => by
  unfold trOk at hok
  simp only [Bool.and_eq_true] at hok
  have hrt : RE P X r ds ops (RT P X r ds ops T false t) σ W (nthO ops k) ∧ RT P X r ds ops T true rest σ W := by cases b <;> exact hrt
  by_cases hk : i = k
  ·subst hk
   exact ⟨t, hrt.1, hok.1, hok.2.1⟩
  ·have hf : isFr rest = false := by
    cases rest with
    | F i t => have := hok.2.2; unfold trOk at this; simp at this
    | _ => rfl
   exact RT_pick him hi hbi true rest (k :: as) (by simp [hk, has]) hf hok.2.2 hrt.2

theorem WC_drawB {Q : Post} {w : World} (m : Nat) (t : Tr) (X : Nat → Bool) (bs : List (List Nat)) (hm : P.follows .mixedOrders = true) (hb0 : (befsOk ops m bs && trOk P ops m bs false t [] []) = true)
  (h : ∀ W, Dr w W → RT P X r ds ops (fun ρ' w' => VL P r ops.toArray Q (ops.drop m) ρ' ds w') false t ρ W) : WC P n r (.region id ops.toArray true) Q ρ ds w := by
 intro hok tmps hAg
 obtain ⟨hb, htr⟩ := Bool.and_eq_true_iff.1 hb0
 have hok' : ops.all (okOp n) = true := by simpa [okC] using hok
 obtain ⟨hbl, hml⟩ := befsOk_bs hb
 refine wpIn_region_any hm ?_
 have key : ∀ (fuel : Nat) (listed : Array Bool) (a : Act) (ρ' : Env) (w' : World), a.defers = ds → listed.size = ops.length → Ag n a.tmps ρ' →
   (∃ t L σ, GS P X r ds ops m bs (fun ρ' w' => VL P r ops.toArray Q (ops.drop m) ρ' ds w') ρ (fun j => listed.getD j false) w' t L σ ∧ isFr t = false ∧ ∀ j, listed.getD j false = true → dv ρ' (dstAt ops j) = dv σ (dstAt ops j)) →
   (∀ i, i < ops.length → listed.getD i false = true → ∀ o, ops[i]? = some o → ∀ e ∈ o.after, Region.binds .any e = true → listed.getD e.on false = true) →
   (∀ x, (∀ i, i < m → listed.getD i false = true → dstAt ops i ≠ some x) → ρ' x = ρ x) →
   ops.length ≤ fuel + listed.toList.count true →
   wpAnyIn (FR r) 0 P .any ops.toArray (fun e a w' => ∃ ρ', Ag n a.tmps ρ' ∧ Q e ρ' a.defers w') fuel listed a w' := by
  intro fuel
  have final : ∀ (fuel : Nat) (listed : Array Bool) (a : Act) (ρ' : Env) (w' : World), a.defers = ds → listed.size = ops.length → Ag n a.tmps ρ' →
    (∃ t L σ, GS P X r ds ops m bs (fun ρ' w' => VL P r ops.toArray Q (ops.drop m) ρ' ds w') ρ (fun j => listed.getD j false) w' t L σ ∧ isFr t = false ∧ ∀ j, listed.getD j false = true → dv ρ' (dstAt ops j) = dv σ (dstAt ops j)) →
    (∀ x, (∀ i, i < m → listed.getD i false = true → dstAt ops i ≠ some x) → ρ' x = ρ x) → (∀ i, i < m → listed.getD i false = true) →
    VL P r ops.toArray Q (ops.drop m) ρ' a.defers w' := by
   rintro fuel listed a ρ' w' hds hs hA ⟨t, L, σ, hG, hF, hval⟩ hfr hall
   have hσ : σ = ρ' := by
    funext x
    by_cases hx : ∃ j, j < m ∧ dstAt ops j = some x
    ·obtain ⟨j, hj, hd⟩ := hx
     have := hval j (hall j hj)
     rw [hd] at this
     simpa using this.symm
    ·have hx' : ∀ j, j < m → dstAt ops j ≠ some x := fun j hj e => hx ⟨j, hj, e⟩
     rw [hG.fr x fun j hj => hx' j (hG.lm j hj), hfr x fun j hj _ => hx' j hj]
   have hZ : t = .Z := by
    cases t with
    | Z => rfl
    | F i t => cases hF
    | E i t rest =>
     have := hG.ok
     unfold trOk at this
     simp only [Bool.and_eq_true] at this
     obtain ⟨h1, h2, -⟩ := nodeOk_inv this.1
     exact (h2 (hG.sub i (hall i h1))).elim
   have := hG.rt
   rw [hZ, hσ] at this
   unfold RT at this
   rw [hds]; exact this
  have hlow : ∀ (listed : Array Bool) (ρ' : Env) (w' : World), (∃ t L σ, GS P X r ds ops m bs (fun ρ' w' => VL P r ops.toArray Q (ops.drop m) ρ' ds w') ρ (fun j => listed.getD j false) w' t L σ ∧ isFr t = false ∧ ∀ j, listed.getD j false = true → dv ρ' (dstAt ops j) = dv σ (dstAt ops j)) →
    ∀ j, m ≤ j → listed.getD j false = false := by
   rintro listed ρ' w' ⟨t, L, σ, hG, -⟩ j hj
   cases hx : listed.getD j false with
   | false => rfl
   | true => have := hG.lm j (hG.sub j hx); omega
  induction fuel with
  | zero =>
   intro listed a ρ' w' hds hs hA hG hcl hfr hf
   have hhd := hlow listed ρ' w' hG
   have hall := all_listed (listed := listed) (by omega)
   have hml' : m = ops.length := by
    rcases Nat.lt_or_ge m ops.length with h1 | h1
    ·have := hhd m (Nat.le_refl _)
     rw [hall m (by omega)] at this; cases this
    ·omega
   refine any_tail hb hok' 0 m listed a ρ' w' (Nat.le_refl _) hml (by omega) hs ?_ hA (final 0 listed a ρ' w' hds hs hA hG hfr fun i hi => hall i (by omega))
   intro i
   by_cases h1 : i < ops.length
   ·rw [hall i (by omega)]; simp; omega
   ·have : decide (i < m) = false := by simp; omega
    rw [this]; simp [hs, h1]
  | succ fuel ih =>
   intro listed a ρ' w' hds hs hA hG hcl hfr hf
   have hhd := hlow listed ρ' w' hG
   by_cases hfull : ∀ i, i < m → listed.getD i false = true
   ·refine any_tail hb hok' (fuel + 1) m listed a ρ' w' (Nat.le_refl _) hml ?_ hs ?_ hA (final (fuel + 1) listed a ρ' w' hds hs hA hG hfr hfull)
    ·have hc : listed.toList.count true ≤ m := by
      have hcc : ∀ (l : List Bool) (k : Nat), (∀ j, k ≤ j → l[j]?.getD false = false) → l.count true ≤ k := by
       intro l
       induction l with
       | nil => intro k _; simp
       | cons b l ihl =>
        intro k hkk
        cases k with
        | zero =>
         have h0 := hkk 0 (Nat.le_refl _)
         simp at h0; subst h0
         have := ihl 0 (fun j hj => by have := hkk (j + 1) (by omega); simpa using this)
         simp at this ⊢; exact this
        | succ k =>
         have := ihl k (fun j hj => by have := hkk (j + 1) (by omega); simpa using this)
         rw [List.count_cons]; split <;> omega
      refine hcc _ _ fun j hj => ?_
      have := hhd j hj
      simpa [Array.getD_eq_getD_getElem?] using this
     omega
    ·intro i
     by_cases h1 : i < m
     ·rw [hfull i h1]; simp [h1]
     ·rw [hhd i (by omega)]; simp [h1]
   ·refine ⟨?_, ?_⟩
    ·intro hr
     exfalso
     obtain ⟨i, hi, hmin⟩ := exists_least (p := fun i => i < m ∧ listed.getD i false = false) (by
      simp only [Classical.not_forall] at hfull
      obtain ⟨i, h1, h2⟩ := hfull
      exact ⟨i, h1, by simpa using h2⟩)
     have hil : i < ops.length := by omega
     have : i ∈ Region.ready .any ops.toArray listed := by
      refine mem_ready.2 ⟨?_, ops[i], by simp [hil], ?_⟩
      ·have := hi.2
       have his : i < listed.size := by omega
       simpa [his] using this
      ·intro e he hbe
       have hlt := befsOk_edge hb (List.getElem?_eq_getElem hil) e he hbe
       cases hx : listed.getD e.on false with
       | true => rfl
       | false => have := hmin e.on ⟨by omega, hx⟩; omega
     rw [hr] at this; cases this
    ·intro i hi
     obtain ⟨hi1, o, ho, hi2⟩ := mem_ready.1 hi
     have hil : i < ops.length := by
      have := (Array.getElem?_eq_some_iff.1 ho).1; simpa using this
     have his : i < listed.size := by omega
     have ho' : ops[i]? = some o := by simpa using ho
     have hif : listed.getD i false = false := by simpa [his] using hi1
     have him : i < m := by
      rcases Nat.lt_or_ge i m with h1 | h1
      ·exact h1
      ·exfalso
       refine hfull fun k hk => ?_
       obtain ⟨e, he, hbe, hke⟩ := befsOk_tail hb ho' h1 k (by omega)
       have h2 := hi2 e he hbe
       rcases hke with hke | ⟨hke1, hke2⟩ | ⟨hke1, hke2⟩
       ·rw [← hke]; exact h2
       ·have hel : e.on < ops.length := by omega
        exact bs_listed hb hcl e.on ops[e.on] hke1 (List.getElem?_eq_getElem hel) (hcl e.on hel h2 _ (List.getElem?_eq_getElem hel)) k hke2
       ·rw [hhd e.on hke1] at h2; cases h2
     have hbsl := bs_listed hb hcl i o him ho' hi2
     obtain ⟨o'', ho'', hsome, hb3, hb4, hb5, hb6⟩ := befsOk_head hb him
     rw [ho'] at ho''; cases ho''
     have hdi : dstAt ops i = o.dst := by rw [dstAt_get, ho']; rfl
     obtain ⟨t, L, σ, hG, hF, hval⟩ := hG
     have hokA : ops.toArray.toList.all (okOp n) = true := by simpa using hok'
     have hoko : okOp n o = true := List.all_eq_true.1 hok' o (List.mem_of_getElem? ho')
     have hcl' : ∀ k, k < ops.length → (listed.setIfInBounds i true).getD k false = true → ∀ ok, ops[k]? = some ok → ∀ e ∈ ok.after, Region.binds .any e = true → (listed.setIfInBounds i true).getD e.on false = true := by
      intro k hkl hkt ok hok2 e he hbe
      rw [listed_set his] at hkt ⊢
      by_cases hki : k = i
      ·subst hki
       rw [ho'] at hok2; cases hok2
       rw [hi2 e he hbe]; simp
      ·have : listed.getD k false = true := by simpa [hki] using hkt
       rw [hcl k hkl this ok hok2 e he hbe]; simp
     have hcnt := count_listed his hif
     have hput : ∀ (v : Value) (x : Tmp), o.dst ≠ some x → (Pk.put ρ' o.dst v) x = ρ' x := by
      intro v x hx
      cases hod : o.dst with
      | none => rfl
      | some d => have : x ≠ d := fun e => hx (by rw [hod, e]); simp [this]
     have hfr' : ∀ v x, (∀ k, k < m → (listed.setIfInBounds i true).getD k false = true → dstAt ops k ≠ some x) → (Pk.put ρ' o.dst v) x = ρ x := by
      intro v x hx
      rw [hput v x fun e => hx i him (by rw [listed_set his]; simp) (by rw [hdi, e])]
      exact hfr x fun k hkm hkl => hx k hkm (by rw [listed_set his, hkl]; simp)
     have next : ∀ (a' : Act) (v : Value) (w'' : World), a'.defers = ds → Ag n a'.tmps (Pk.put ρ' o.dst v) →
       (∃ t L σ', GS P X r ds ops m bs (fun ρ' w' => VL P r ops.toArray Q (ops.drop m) ρ' ds w') ρ (fun j => (listed.setIfInBounds i true).getD j false) w'' t L σ' ∧ isFr t = false ∧ dv σ' o.dst = (match o.dst with | some _ => v | none => undef) ∧ ∀ j, listed.getD j false = true → dv ρ' (dstAt ops j) = dv σ' (dstAt ops j)) →
       wpAnyIn (FR r) 0 P .any ops.toArray (fun e a w' => ∃ ρ', Ag n a.tmps ρ' ∧ Q e ρ' a.defers w') fuel (listed.setIfInBounds i true) a' w'' := by
      rintro a' v w'' hds' hA' ⟨t', L', σ', hG', hF', hvi, hvj⟩
      refine ih _ a' (Pk.put ρ' o.dst v) w'' hds' (by simpa using hs) hA' ⟨t', L', σ', hG', hF', ?_⟩ hcl' (hfr' v) (by rw [hcnt]; omega)
      intro k hkt
      rw [listed_set his] at hkt
      by_cases hki : k = i
      ·subst hki
       rw [hdi, hvi]
       cases hod : o.dst with
       | none => rfl
       | some d => simp
      ·have hkl : listed.getD k false = true := by simpa [hki] using hkt
       have hkm := hG.lm k (hG.sub k hkl)
       rw [← hvj k hkl]
       cases hdk : dstAt ops k with
       | none => rfl
       | some x =>
        simp only [dv_some]
        exact hput v x fun e => hki (head_uniq hb hkm him hdk (by rw [hdi, e]))
     have ha : a = ⟨a.tmps, ds⟩ := by cases a; simp_all
     unfold wpOpIn
     simp only [ho]
     rw [gw_eq hA hokA o]
     by_cases hiL : i ∈ L
     ·-- the run ahead has it already
      obtain ⟨o2, ho2, hauto, hds2, hpb, hps, hpg, Wo, hAg2, hGI⟩ := hG.prom i hiL hif
      rw [ho'] at ho2; cases ho2
      have hslot : ∀ x, (∀ k, k < m → dstAt ops k = some x → k ∈ bsAt bs i) → σ x = ρ' x := by
       intro x hx
       by_cases hk : ∃ k, k < m ∧ dstAt ops k = some x
       ·obtain ⟨k, hkm, hdk⟩ := hk
        have := hval k (hbsl k (hx k hkm hdk))
        rw [hdk] at this
        simpa using this.symm
       ·have hk' : ∀ k, k < m → dstAt ops k ≠ some x := fun k hkm e => hk ⟨k, hkm, e⟩
        rw [hG.fr x fun k hkL => hk' k (hG.lm k hkL), hfr x fun k hkm _ => hk' k hkm]
      have hop : ∀ x ∈ tmpsOf o, σ x = ρ' x := fun x hx => hslot x (hps x hx)
      have hgw : gw ops.toArray σ o.guard = gw ops.toArray ρ' o.guard := by
       refine gw_env fun k b hg x hx => hslot x fun k' hk'm hk'd => ?_
       have hkb := hpg k b hg
       have hkm : k < m := by have := (hb3 k hkb).1; omega
       have := head_uniq hb hk'm hkm hk'd hx
       exact this ▸ hkb
      have hG' : GS P X r ds ops m bs (fun ρ' w' => VL P r ops.toArray Q (ops.drop m) ρ' ds w') ρ (fun j => (listed.setIfInBounds i true).getD j false) w' t L σ := by
       refine ⟨hG.ok, hG.rt, fun j hj => ?_, hG.lm, hG.fr, fun j hj hS => hG.prom j hj ?_⟩
       ·simp only [listed_set his] at hj
        by_cases hji : j = i
        ·exact hji ▸ hiL
        ·exact hG.sub j (by simpa [hji] using hj)
       ·simp only [listed_set his] at hS
        by_cases hji : j = i
        ·simp [hji] at hS
        ·simpa [hji] using hS
      obtain ⟨d, hod⟩ := Option.isSome_iff_exists.1 hds2
      rw [← hgw]
      cases hg : gw ops.toArray σ o.guard with
      | true =>
       rw [hg, GI_true] at hGI
       simp only [if_true]
       have h1 := VO_went' (k := fun v ds'' => ds'' = ds ∧ v = dv σ o.dst) hauto hGI.1 hAg2 hGI.2
       have h2 := VO_env (k := fun v ds'' w'' => w'' = w' ∧ ds'' = ds ∧ v = dv σ o.dst) (ρ' := ρ') hop h1
       rw [ha]
       refine VO_sound (K := fun ρ'' ds'' w'' => (w'' = w' ∧ ds'' = ds ∧ dv ρ'' o.dst = dv σ o.dst) ∧ ∃ v, ρ'' = put ρ' o.dst v) (Q := fun _ _ _ _ => False) hA hoko ?_ (fun _ _ _ _ _ h => h.elim) h2
       rintro a' ρ'' w'' hA' ⟨⟨rfl, hds', hv⟩, v, rfl⟩
       refine next a' v w'' hds' hA' ⟨t, L, σ, hG', hF, ?_, hval⟩
       rw [← hv, hod]; simp
      | false =>
       rw [hg, GI_false] at hGI
       simp only [Bool.false_eq_true, if_false]
       refine ⟨fun _ _ => trivial, next _ undef w' (by rw [put_defers]; exact hds) (hA.put (ds := a.defers) (Bool.and_eq_true_iff.1 hoko).1 undef) ⟨t, L, σ, hG', hF, ?_, hval⟩⟩
       rw [hGI, hod]
     ·-- an effect
      obtain ⟨t', hre, hnode, hok2⟩ := RT_pick him hiL (fun j hj => hG.sub j (hbsl j hj)) false t [] (by simp) hF hG.ok hG.rt
      rw [nthO_eq, ho'] at hre
      obtain ⟨-, -, -, o2, ho2, hps⟩ := nodeOk_inv hnode
      rw [ho'] at ho2; cases ho2
      have hslot : ∀ x, (∀ k, k < m → dstAt ops k = some x → k ∈ bsAt bs i) → σ x = ρ' x := by
       intro x hx
       by_cases hk : ∃ k, k < m ∧ dstAt ops k = some x
       ·obtain ⟨k, hkm, hdk⟩ := hk
        have := hval k (hbsl k (hx k hkm hdk))
        rw [hdk] at this
        simpa using this.symm
       ·have hk' : ∀ k, k < m → dstAt ops k ≠ some x := fun k hkm e => hk ⟨k, hkm, e⟩
        rw [hG.fr x fun k hkL => hk' k (hG.lm k hkL), hfr x fun k hkm _ => hk' k hkm]
      have hop : ∀ x ∈ tmpsOf o, σ x = ρ' x := fun x hx => hslot x (hps x hx)
      have hgw : gw ops.toArray σ o.guard = gw ops.toArray ρ' o.guard := by
       refine gw_env fun k b hg x hx => hslot x fun k' hk'm hk'd => ?_
       have hkb := hb5 k b hg
       have hkm : k < m := by have := (hb3 k hkb).1; omega
       have := head_uniq hb hk'm hkm hk'd hx
       exact this ▸ hkb
      have hsσ : ∀ (v : Value) (x : Tmp), o.dst ≠ some x → (Pk.put σ o.dst v) x = σ x := by
       intro v x hx
       cases hod : o.dst with
       | none => rfl
       | some d => have : x ≠ d := fun e => hx (by rw [hod, e]); simp [this]
      have hgo : ∀ (v : Value) (w'' : World), Agr (fun k => X k = false) w' w'' → RT P X r ds ops (fun ρ' w' => VL P r ops.toArray Q (ops.drop m) ρ' ds w') false t' (Pk.put σ o.dst v) w'' →
        ∃ t L σ', GS P X r ds ops m bs (fun ρ' w' => VL P r ops.toArray Q (ops.drop m) ρ' ds w') ρ (fun j => (listed.setIfInBounds i true).getD j false) w'' t L σ' ∧ isFr t = false ∧ dv σ' o.dst = (match o.dst with | some _ => v | none => undef) ∧ ∀ j, listed.getD j false = true → dv ρ' (dstAt ops j) = dv σ' (dstAt ops j) := by
       intro v w'' hAgr hrt
       have hnew : GS P X r ds ops m bs (fun ρ' w' => VL P r ops.toArray Q (ops.drop m) ρ' ds w') ρ (fun j => (listed.setIfInBounds i true).getD j false) w'' t' (i :: L) (Pk.put σ o.dst v) := by
        refine ⟨hok2, hrt, fun j hj => ?_, ?_, ?_, ?_⟩
        ·simp only [listed_set his] at hj
         by_cases hji : j = i
         ·simp [hji]
         ·exact List.mem_cons_of_mem _ (hG.sub j (by simpa [hji] using hj))
        ·intro j hj
         rcases List.mem_cons.1 hj with rfl | hj
         ·exact him
         ·exact hG.lm j hj
        ·intro x hx
         rw [hsσ v x fun e => hx i (by simp) (by rw [hdi, e])]
         exact hG.fr x fun j hj => hx j (by simp [hj])
        ·intro j hj hS
         simp only [listed_set his] at hS
         rcases List.mem_cons.1 hj with rfl | hj
         ·simp at hS
         ·have hji : j ≠ i := fun e => hiL (e ▸ hj)
          have hS' : listed.getD j false = false := by simpa [hji] using hS
          exact ((hG.prom j hj hS').put hb (hG.lm j hj) hj hG.lm hiL him ho' v).keep (fun k hk => List.mem_cons_of_mem _ hk) hAgr
       obtain ⟨t2, L2, σ2, g1, g2, g3, g4⟩ := hnew.norm hb
       refine ⟨t2, L2, σ2, g1, g2, ?_, fun j hj => ?_⟩
       ·have := g4 i (by simp)
        rw [hdi] at this
        rw [this]
        cases hod : o.dst with
        | none => rfl
        | some d => simp
       ·have hjL := hG.sub j hj
        rw [g4 j (by simp [hjL]), hval j hj]
        cases hdj : dstAt ops j with
        | none => rfl
        | some x =>
         simp only [dv_some]
         exact (hsσ v x fun e => hiL ((head_uniq hb (hG.lm j hjL) him hdj (by rw [hdi, e])) ▸ hjL)).symm
      unfold RE at hre
      simp only at hre
      rw [← hgw]
      cases hg : gw ops.toArray σ o.guard with
      | true =>
       rw [hg, GI_true] at hre
       simp only [if_true]
       have hre' : VO P r o (fun ρ'' ds'' w'' => ds'' = ds ∧ Agr (fun k => X k = false) w' w'' ∧ RT P X r ds ops (fun ρ' w' => VL P r ops.toArray Q (ops.drop m) ρ' ds w') false t' (Pk.put σ o.dst (dv ρ'' o.dst)) w'') (fun _ _ _ _ => False) σ ds w' :=
        VO_imp hre fun v ds' w'' hh => ⟨hh.1, hh.2.1, by
         have := hh.2.2
         cases hod : o.dst with
         | none => rw [hod] at this; exact this
         | some d => rw [hod] at this; simpa using this⟩
       have h2 := VO_env (k := fun v ds'' w'' => ds'' = ds ∧ Agr (fun k => X k = false) w' w'' ∧ RT P X r ds ops (fun ρ' w' => VL P r ops.toArray Q (ops.drop m) ρ' ds w') false t' (Pk.put σ o.dst v) w'') (ρ' := ρ') hop hre'
       rw [ha]
       refine VO_sound (K := fun ρ'' ds'' w'' => (ds'' = ds ∧ Agr (fun k => X k = false) w' w'' ∧ RT P X r ds ops (fun ρ' w' => VL P r ops.toArray Q (ops.drop m) ρ' ds w') false t' (Pk.put σ o.dst (dv ρ'' o.dst)) w'') ∧ ∃ v, ρ'' = put ρ' o.dst v) (Q := fun _ _ _ _ => False) hA hoko ?_ (fun _ _ _ _ _ h => h.elim) h2
       rintro a' ρ'' w'' hA' ⟨⟨hds', hAgr, hrt⟩, v, rfl⟩
       refine next a' v w'' hds' hA' (hgo v w'' hAgr ?_)
       cases hod : o.dst with
       | none => rw [hod] at hrt; exact hrt
       | some d => rw [hod] at hrt; simpa using hrt
      | false =>
       rw [hg, GI_false] at hre
       simp only [Bool.false_eq_true, if_false]
       exact ⟨fun _ _ => trivial, next _ undef w' (by rw [put_defers]; exact hds) (hA.put (ds := a.defers) (Bool.and_eq_true_iff.1 hoko).1 undef) (hgo undef w' (Agr.refl _ _) hre)⟩
 obtain ⟨t1, L1, σ1, g1, g2, g3, g4⟩ := GS.norm (S := fun _ => false) (W := w.drew) hb t [] ρ ⟨htr, h _ rfl, by simp, by simp, fun _ _ => rfl, by simp⟩
 have e : (fun j => (Array.replicate ops.toArray.size false).getD j false) = fun _ => false := by
  funext j
  by_cases h1 : j < ops.length <;> simp [h1]
 refine key ops.toArray.size (Array.replicate ops.toArray.size false) ⟨tmps, ds⟩ ρ w.drew rfl (by simp) hAg ⟨t1, L1, σ1, by rw [e]; exact g1, g2, ?_⟩ ?_ ?_ (by simp)
 ·intro j hj
  have := congrFun e j
  rw [this] at hj; cases hj
 ·intro i hi h1; simp [hi] at h1
 ·intro x _; rfl
theorem WC_drawC {Q : Post} {w : World} (m : Nat) (t : Tr) (X : Nat → Bool) (hm : P.follows .mixedOrders = true) (hb0 : (befsOk ops m (befs ops m) && trOk P ops m (befs ops m) false t [] []) = true)
  (h : ∀ W, Dr w W → RT P X r ds ops (fun ρ' w' => VL P r ops.toArray Q (ops.drop m) ρ' ds w') false t ρ W) : WC P n r (.region id ops.toArray true) Q ρ ds w :=
 WC_drawB m t X (befs ops m) hm hb0 h
end

def KRt (A B : Prop) (_ : Tok (And A B)) : Prop := A ∧ B
@[simp ↓] theorem KR_tok (A B : Prop) : KR A B = KRt A B .mk := _root_.id rfl
theorem KR_mk {A B : Prop} {t : Tok (And A B)} (h1 : A) (h2 : B) : KRt A B t := ⟨h1, h2⟩
theorem KR_ext {w w' : World} {B : Prop} {S : Nat → Prop} {t : Tok (And (Agr S w w') B)} (h1 : Ext w w') (h2 : B) : KRt (Agr S w w') B t := ⟨h1.agr, h2⟩
theorem KR_same {w : World} {B : Prop} {S : Nat → Prop} {t : Tok (And (Agr S w w) B)} (h2 : B) : KRt (Agr S w w) B t := ⟨Agr.refl _ _, h2⟩
def RTt (P : Program) (X : Nat → Bool) (r : Option Nat) (ds : List Deferred) (ops : List Oper) (T : Env → World → Prop) (b : Bool) (t : Tr) (_ : Tok (PProd.mk ops (PProd.mk T t))) (σ : Env) (W : World) : Prop := RT P X r ds ops T b t σ W
def RFt (P : Program) (X : Nat → Bool) (r : Option Nat) (ds : List Deferred) (ops : List Oper) (K : Env → World → Prop) (l : List Oper) (i : Nat) (_ : Tok (PProd.mk ops (PProd.mk K (PProd.mk l i)))) (σ : Env) (W : World) : Prop := RF P X r ds ops K σ W (nthO l i)
def REt (P : Program) (X : Nat → Bool) (r : Option Nat) (ds : List Deferred) (ops : List Oper) (K : Env → World → Prop) (l : List Oper) (i : Nat) (_ : Tok (PProd.mk ops (PProd.mk K (PProd.mk l i)))) (σ : Env) (W : World) : Prop := RE P X r ds ops K σ W (nthO l i)
section
variable (P : Program) (X : Nat → Bool) (r : Option Nat) (ds : List Deferred) (ops : List Oper) (T K : Env → World → Prop) (l : List Oper) (o : Oper) (i : Nat) (σ : Env) (W : World)
@[simp ↓] theorem RT_tok (b : Bool) (t : Tr) : RT P X r ds ops T b t σ W = RTt P X r ds ops T b t .mk σ W := _root_.id rfl
@[simp ↓] theorem RTt_Z (k) : RTt P X r ds ops T false .Z k σ W = T σ W := _root_.id rfl
@[simp ↓] theorem RTt_F (b : Bool) (t : Tr) (k) : RTt P X r ds ops T b (.F i t) k σ W = RFt P X r ds ops (RT P X r ds ops T false t) ops i .mk σ W := by cases b <;> rfl
@[simp ↓] theorem RTt_E (t : Tr) (k) : RTt P X r ds ops T false (.E i t .Z) k σ W = REt P X r ds ops (RT P X r ds ops T false t) ops i .mk σ W := by
 apply propext; exact ⟨fun h => h.1, fun h => ⟨h, trivial⟩⟩
@[simp ↓] theorem RFt_succ (k) : RFt P X r ds ops K (o :: l) (i + 1) k σ W = RFt P X r ds ops K l i .mk σ W := _root_.id rfl
@[simp ↓] theorem REt_succ (k) : REt P X r ds ops K (o :: l) (i + 1) k σ W = REt P X r ds ops K l i .mk σ W := _root_.id rfl
@[simp ↓] theorem RFt_zero (k) : RFt P X r ds ops K (o :: l) 0 k σ W = GIt (gw ops.toArray σ o.guard) (xL X σ W o = true ∧ VO P r o (fun ρ'' ds'' w'' => (ds'' = ds ∧ w'' = W) ∧ K ρ'' W) (fun _ _ _ _ => False) σ ds W) (K (put σ o.dst undef) W) .mk := _root_.id rfl
@[simp ↓] theorem REt_zero (k) : REt P X r ds ops K (o :: l) 0 k σ W = GIt (gw ops.toArray σ o.guard) (VO P r o (fun ρ'' ds'' w'' => ds'' = ds ∧ KR (Agr (fun k => X k = false) W w'') (K ρ'' w'')) (fun _ _ _ _ => False) σ ds W) (K (put σ o.dst undef) W) .mk := _root_.id rfl
end
end Pk
