/-
  The engine, part D: arithmetic, comparisons, slices, strings: how they run.
-/
import Derived.Test.YthamfghcfjhifaaGreatDoorEngC
namespace Pk
open Go

def isP : Option TypeDesc → Bool | some (.pointer _) => true | _ => false
def isM : Option TypeDesc → Bool | some (.map _ _) => true | _ => false
def isS : Option TypeDesc → Bool | some (.slice _) => true | _ => false
def isF : Option TypeDesc → Bool | some (.func _ _ _) => true | _ => false
def isI : Option TypeDesc → Bool | some (.interface _) => true | _ => false
def isStr : Option TypeDesc → Bool | some .string => true | _ => false
def isBoolT : Option TypeDesc → Bool | some .bool => true | _ => false
def isA : Option TypeDesc → Bool | some (.array _ _) => true | _ => false
def elemT : Option TypeDesc → TypeId | some (.slice e) => e | some (.array _ e) => e | some (.pointer e) => e | _ => 0
def keyT : Option TypeDesc → TypeId | some (.map k _) => k | _ => 0
def valT : Option TypeDesc → TypeId | some (.map _ v) => v | _ => 0
def lenT : Option TypeDesc → Nat | some (.array n _) => n | _ => 0
def intT : Option TypeDesc → IntKind | some (.int k) => k | _ => .i64
@[simp] theorem isP_is (e : TypeId) : isP (some (.pointer e)) = true := rfl
@[simp] theorem isM_is (k e : TypeId) : isM (some (.map k e)) = true := rfl
@[simp] theorem isS_is (e : TypeId) : isS (some (.slice e)) = true := rfl
@[simp] theorem isF_is (a b : Array TypeId) (c : Bool) : isF (some (.func a b c)) = true := rfl
@[simp] theorem isI_is (a : Array (String × TypeId)) : isI (some (.interface a)) = true := rfl
@[simp] theorem isStr_is  : isStr (some (.string)) = true := rfl
@[simp] theorem isBoolT_is  : isBoolT (some (.bool)) = true := rfl
@[simp] theorem isA_is (n : Nat) (e : TypeId) : isA (some (.array n e)) = true := rfl
@[simp] theorem elemT_slice (e : TypeId) : elemT (some (.slice e)) = e := rfl
@[simp] theorem elemT_array (n : Nat) (e : TypeId) : elemT (some (.array n e)) = e := rfl
@[simp] theorem elemT_pointer (e : TypeId) : elemT (some (.pointer e)) = e := rfl
@[simp] theorem keyT_map (k v : TypeId) : keyT (some (.map k v)) = k := rfl
@[simp] theorem valT_map (k v : TypeId) : valT (some (.map k v)) = v := rfl
@[simp] theorem lenT_array (n : Nat) (e : TypeId) : lenT (some (.array n e)) = n := rfl
@[simp] theorem intT_int (k : IntKind) : intT (some (.int k)) = k := rfl

theorem run_und {P : Program} {t : TypeId} {d : TypeDesc} (h : P.underlying t = some d) (w : World) : (underlying t).run P w = .ok d w := by simp [underlying, program, Sem.run, h]
theorem isP_inv {d : Option TypeDesc} (h : isP d = true) : ∃ e, d = some (.pointer e) := by
  cases d with
  | none => cases h
  | some d => cases d <;> first | (cases h; done) | exact ⟨_, rfl⟩
theorem isM_inv {d : Option TypeDesc} (h : isM d = true) : d = some (.map (keyT d) (valT d)) := by
  cases d with
  | none => cases h
  | some d => cases d <;> first | (cases h; done) | rfl
theorem isS_inv {d : Option TypeDesc} (h : isS d = true) : d = some (.slice (elemT d)) := by
  cases d with
  | none => cases h
  | some d => cases d <;> first | (cases h; done) | rfl
theorem isA_inv {d : Option TypeDesc} (h : isA d = true) : d = some (.array (lenT d) (elemT d)) := by
  cases d with
  | none => cases h
  | some d => cases d <;> first | (cases h; done) | rfl
theorem isF_inv {d : Option TypeDesc} (h : isF d = true) : ∃ a b c, d = some (.func a b c) := by
  cases d with
  | none => cases h
  | some d => cases d <;> first | (cases h; done) | exact ⟨_, _, _, rfl⟩
theorem isI_inv {d : Option TypeDesc} (h : isI d = true) : ∃ a, d = some (.interface a) := by
  cases d with
  | none => cases h
  | some d => cases d <;> first | (cases h; done) | exact ⟨_, rfl⟩
theorem isStr_inv {d : Option TypeDesc} (h : isStr d = true) : d = some .string := by
  cases d with
  | none => cases h
  | some d => cases d <;> first | (cases h; done) | rfl
theorem isBoolT_inv {d : Option TypeDesc} (h : isBoolT d = true) : d = some .bool := by
  cases d with
  | none => cases h
  | some d => cases d <;> first | (cases h; done) | rfl

section
variable (P : Program) (w : World) (t : TypeId)
@[simp] theorem b_add (k : IntKind) (a b : Int) : (binOp .add t (.int k a) (.int k b)).run P w = .ok (.int k (k.wrap (a + b))) w := by simp [binOp]
@[simp] theorem b_sub (k : IntKind) (a b : Int) : (binOp .sub t (.int k a) (.int k b)).run P w = .ok (.int k (k.wrap (a - b))) w := by simp [binOp]
@[simp] theorem b_mul (k : IntKind) (a b : Int) : (binOp .mul t (.int k a) (.int k b)).run P w = .ok (.int k (k.wrap (a * b))) w := by simp [binOp]
@[simp] theorem b_eql (k : IntKind) (a b : Int) : (binOp .eql t (.int k a) (.int k b)).run P w = .ok (.bool (a == b)) w := by simp [binOp]
@[simp] theorem b_neq (k : IntKind) (a b : Int) : (binOp .neq t (.int k a) (.int k b)).run P w = .ok (.bool (a != b)) w := by simp [binOp]
@[simp] theorem b_lss (k : IntKind) (a b : Int) : (binOp .lss t (.int k a) (.int k b)).run P w = .ok (.bool (decide (a < b))) w := by simp [binOp]
@[simp] theorem b_leq (k : IntKind) (a b : Int) : (binOp .leq t (.int k a) (.int k b)).run P w = .ok (.bool (decide (a ≤ b))) w := by simp [binOp]
@[simp] theorem b_gtr (k : IntKind) (a b : Int) : (binOp .gtr t (.int k a) (.int k b)).run P w = .ok (.bool (decide (b < a))) w := by simp [binOp]
@[simp] theorem b_geq (k : IntKind) (a b : Int) : (binOp .geq t (.int k a) (.int k b)).run P w = .ok (.bool (decide (b ≤ a))) w := by simp [binOp]
@[simp] theorem b_quo (k : IntKind) (a b : Int) (h : b ≠ 0) : (binOp .quo t (.int k a) (.int k b)).run P w = .ok (.int k (k.wrap (a.tdiv b))) w := by simp [binOp, h]
@[simp] theorem b_rem (k : IntKind) (a b : Int) (h : b ≠ 0) : (binOp .rem t (.int k a) (.int k b)).run P w = .ok (.int k (a.tmod b)) w := by simp [binOp, h]
theorem q_bool (a b : Bool) (d : Nat) (h : isBoolT (P.underlying t) = true) : (Op.equalIn (d + 1) t (.bool a) (.bool b)).run P w = .ok (a == b) w := by
  have h' := run_und (isBoolT_inv h) w
  simp only [Op.equalIn, Sem.run_bind, h', Result.andThen_ok, Sem.run_pure]
@[simp] theorem b_eql_bool (a b : Bool) (h : isBoolT (P.underlying t) = true) : (binOp .eql t (.bool a) (.bool b)).run P w = .ok (.bool (a == b)) w := by
  simp only [binOp, Op.equal, Op.maxDepth, Sem.run_bind, q_bool P w t _ _  9999 h, Result.andThen_ok, Sem.run_pure]
@[simp] theorem b_neq_bool (a b : Bool) (h : isBoolT (P.underlying t) = true) : (binOp .neq t (.bool a) (.bool b)).run P w = .ok (.bool (!(a == b))) w := by
  simp only [binOp, Op.equal, Op.maxDepth, Sem.run_bind, q_bool P w t _ _  9999 h, Result.andThen_ok, Sem.run_pure]
theorem q_ptr (a : Option Addr) (d : Nat) (h : isP (P.underlying t) = true) : (Op.equalIn (d + 1) t (.pointer a) (.pointer none)).run P w = .ok (a.isNone) w := by
  obtain ⟨e, he⟩ := isP_inv h
  have h' := run_und he w
  cases a <;> simp only [Op.equalIn, Sem.run_bind, h', Result.andThen_ok, Sem.run_pure] <;> rfl
@[simp] theorem b_eql_ptr (a : Option Addr) (h : isP (P.underlying t) = true) : (binOp .eql t (.pointer a) (.pointer none)).run P w = .ok (.bool (a.isNone)) w := by
  simp only [binOp, Op.equal, Op.maxDepth, Sem.run_bind, q_ptr P w t _  9999 h, Result.andThen_ok, Sem.run_pure]
@[simp] theorem b_neq_ptr (a : Option Addr) (h : isP (P.underlying t) = true) : (binOp .neq t (.pointer a) (.pointer none)).run P w = .ok (.bool (!(a.isNone))) w := by
  simp only [binOp, Op.equal, Op.maxDepth, Sem.run_bind, q_ptr P w t _  9999 h, Result.andThen_ok, Sem.run_pure]
theorem q_map (a : Option Nat) (d : Nat) (h : isM (P.underlying t) = true) : (Op.equalIn (d + 1) t (.map a) (.map none)).run P w = .ok (a.isNone) w := by
  have h' := run_und (isM_inv h) w
  cases a <;> simp only [Op.equalIn, Sem.run_bind, h', Result.andThen_ok, Sem.run_pure] <;> rfl
@[simp] theorem b_eql_map (a : Option Nat) (h : isM (P.underlying t) = true) : (binOp .eql t (.map a) (.map none)).run P w = .ok (.bool (a.isNone)) w := by
  simp only [binOp, Op.equal, Op.maxDepth, Sem.run_bind, q_map P w t _  9999 h, Result.andThen_ok, Sem.run_pure]
@[simp] theorem b_neq_map (a : Option Nat) (h : isM (P.underlying t) = true) : (binOp .neq t (.map a) (.map none)).run P w = .ok (.bool (!(a.isNone))) w := by
  simp only [binOp, Op.equal, Op.maxDepth, Sem.run_bind, q_map P w t _  9999 h, Result.andThen_ok, Sem.run_pure]
theorem q_slice (a : Option Addr) (l c l' c' : Nat) (d : Nat) (h : isS (P.underlying t) = true) : (Op.equalIn (d + 1) t (.slice a l c) (.slice none l' c')).run P w = .ok (a.isNone) w := by
  have h' := run_und (isS_inv h) w
  cases a <;> simp only [Op.equalIn, Sem.run_bind, h', Result.andThen_ok, Sem.run_pure] <;> rfl
@[simp] theorem b_eql_slice (a : Option Addr) (l c l' c' : Nat) (h : isS (P.underlying t) = true) : (binOp .eql t (.slice a l c) (.slice none l' c')).run P w = .ok (.bool (a.isNone)) w := by
  simp only [binOp, Op.equal, Op.maxDepth, Sem.run_bind, q_slice P w t _ _ _ _ _  9999 h, Result.andThen_ok, Sem.run_pure]
@[simp] theorem b_neq_slice (a : Option Addr) (l c l' c' : Nat) (h : isS (P.underlying t) = true) : (binOp .neq t (.slice a l c) (.slice none l' c')).run P w = .ok (.bool (!(a.isNone))) w := by
  simp only [binOp, Op.equal, Op.maxDepth, Sem.run_bind, q_slice P w t _ _ _ _ _  9999 h, Result.andThen_ok, Sem.run_pure]
theorem q_func (f : Fn) (x y : Array Value) (d : Nat) (h : isF (P.underlying t) = true) : (Op.equalIn (d + 1) t (.func f x y) .nilFunc).run P w = .ok (false) w := by
  obtain ⟨a, b, c, he⟩ := isF_inv h
  have h' := run_und he w
  simp only [Op.equalIn, Sem.run_bind, h', Result.andThen_ok, Sem.run_pure]
@[simp] theorem b_eql_func (f : Fn) (x y : Array Value) (h : isF (P.underlying t) = true) : (binOp .eql t (.func f x y) .nilFunc).run P w = .ok (.bool (false)) w := by
  simp only [binOp, Op.equal, Op.maxDepth, Sem.run_bind, q_func P w t _ _ _  9999 h, Result.andThen_ok, Sem.run_pure]
@[simp] theorem b_neq_func (f : Fn) (x y : Array Value) (h : isF (P.underlying t) = true) : (binOp .neq t (.func f x y) .nilFunc).run P w = .ok (.bool (!(false))) w := by
  simp only [binOp, Op.equal, Op.maxDepth, Sem.run_bind, q_func P w t _ _ _  9999 h, Result.andThen_ok, Sem.run_pure]
theorem q_nilFunc  (d : Nat) (h : isF (P.underlying t) = true) : (Op.equalIn (d + 1) t .nilFunc .nilFunc).run P w = .ok (true) w := by
  obtain ⟨a, b, c, he⟩ := isF_inv h
  have h' := run_und he w
  simp only [Op.equalIn, Sem.run_bind, h', Result.andThen_ok, Sem.run_pure]
@[simp] theorem b_eql_nilFunc  (h : isF (P.underlying t) = true) : (binOp .eql t .nilFunc .nilFunc).run P w = .ok (.bool (true)) w := by
  simp only [binOp, Op.equal, Op.maxDepth, Sem.run_bind, q_nilFunc P w t  9999 h, Result.andThen_ok, Sem.run_pure]
@[simp] theorem b_neq_nilFunc  (h : isF (P.underlying t) = true) : (binOp .neq t .nilFunc .nilFunc).run P w = .ok (.bool (!(true))) w := by
  simp only [binOp, Op.equal, Op.maxDepth, Sem.run_bind, q_nilFunc P w t  9999 h, Result.andThen_ok, Sem.run_pure]
@[simp] theorem b_eql_str (a b : ByteArray) : (binOp .eql t (.string a) (.string b)).run P w = .ok (.bool (a.toList == b.toList)) w := by simp [binOp, Op.stringOp]
@[simp] theorem b_neq_str (a b : ByteArray) : (binOp .neq t (.string a) (.string b)).run P w = .ok (.bool !(a.toList == b.toList)) w := by simp [binOp, Op.stringOp]

/-! ### Slices, strings -/
@[simp] theorem r_len_slice (ty : TypeId) (a : Option Addr) (n c : Nat) (h : isS (P.underlying t) = true) : (Builtin.len_ #[t] ty #[.slice a n c]).run P w = .ok (.int .i64 n) w := by
  have h' := run_und (isS_inv h) w
  simp [Builtin.len_, h']
@[simp] theorem r_len_str (ty : TypeId) (s : ByteArray) (h : isStr (P.underlying t) = true) : (Builtin.len_ #[t] ty #[.string s]).run P w = .ok (.int .i64 s.size) w := by
  have h' := run_und (isStr_inv h) w
  simp [Builtin.len_, h']
@[simp] theorem r_index_slice (b o len cap : Nat) (k : IntKind) (i : Int) (h : isS (P.underlying t) = true) (h0 : 0 ≤ i) (h1 : i < len) :
    (Instr.indexAt t (.slice (some ⟨b, o, none⟩) len cap) (.int k i)).run P w = ((Go.sizeOf (elemT (P.underlying t))).run P w).andThen fun n w' => .ok (.pointer (some ⟨b, o + i.toNat * n, none⟩)) w' := by
  have h' := run_und (isS_inv h) w
  simp [Instr.indexAt, h', h0, h1]
@[simp] theorem r_index_array (b o : Nat) (k : IntKind) (i : Int) (h : isA (P.underlying t) = true) (h0 : 0 ≤ i) (h1 : i < lenT (P.underlying t)) :
    (Instr.indexAt t (.pointer (some ⟨b, o, none⟩)) (.int k i)).run P w = ((Go.sizeOf (elemT (P.underlying t))).run P w).andThen fun n w' => .ok (.pointer (some ⟨b, o + i.toNat * n, none⟩)) w' := by
  have h' := run_und (isA_inv h) w
  simp [Instr.indexAt, h', h0, h1]
@[simp] theorem r_index_str (s : ByteArray) (k : IntKind) (i : Nat) (h : isStr (P.underlying t) = true) (h1 : i < s.size) :
    (Instr.index t (.string s) (.int k i)).run P w = .ok (.int .u8 (s[i]'h1).toNat) w := by
  have h' := run_und (isStr_inv h) w
  have e : s[i]? = some s[i] := by simp [h1]
  simp [Instr.index, h', e]
end
end Pk
