/-
  The engine, part M: rows of integers that are ordered in place, as arrays.
-/
import Derived.Test.YthamfghcfjhifaaGreatDoorEngL
import Derived.Sort.AssemblyPlain
namespace Pk
open Go
/-- An element of an array, under a name of its own. -/
def at_ (d : Array Int) (j : Nat) : Int := d[j]!
/-- What a row may write: its own block. -/
def Sv (v : Value) : Nat → Prop := fun k => slN v = false ∧ k = slB v
structure Arr (q : IntKind) (w : World) (v : Value) (d : Array Int) : Prop where
  val : (∃ c, v = .slice none 0 c ∧ d.size = 0) ∨ ∃ b o c, v = .slice (some ⟨b, o, none⟩) d.size c
  cell : ∀ j, j < d.size → w.cell? ⟨slB v, slO v + j, none⟩ = some (.int q (at_ d j))
  thaw : ∀ j, j < d.size → w.frozen? ⟨slB v, slO v + j, none⟩ = false
section
variable {q : IntKind} {w : World} {v : Value} {d : Array Int} {P : Program} {t : TypeId}
theorem Arr.drew (h : Arr q w v d) : Arr q w.drew v d := ⟨h.val, fun j hj => by simpa using h.cell j hj, fun j hj => by simpa using h.thaw j hj⟩
theorem Arr.keep {w' : World} (h : Arr q w v d) (hw : slN v = false → w'.heap[slB v]? = w.heap[slB v]?) : Arr q w' v d := by
  rcases h.val with ⟨c, rfl, h0⟩ | ⟨b, o, c, rfl⟩
  · exact ⟨h.val, fun j hj => by omega, fun j hj => by omega⟩
  · have hb := hw rfl
    exact ⟨h.val, fun j hj => by have := h.cell j hj; unfold World.cell? at this ⊢; simp only at this ⊢; rw [hb]; exact this,
      fun j hj => by have := h.thaw j hj; unfold World.frozen? at this ⊢; simp only at this ⊢; rw [hb]; exact this⟩
theorem Arr.lt (h : Arr q w v d) (h0 : 0 < d.size) : slB v < w.heap.size := World.block_lt_of_cell? _ _ (h.cell 0 h0)
theorem Arr.ext {w' : World} (h : Arr q w v d) (he : Ext w w') : Arr q w' v d := by
  by_cases h0 : 0 < d.size
  · exact h.keep fun _ => he.blk _ (h.lt h0)
  · exact ⟨h.val, fun j hj => by omega, fun j hj => by omega⟩
theorem Arr.index (h : Arr q w v d) (hs : isS (P.underlying t) = true) (hz : ∀ W, (Go.sizeOf (elemT (P.underlying t))).run P W = .ok 1 W) (j : Nat) (hj : j < d.size) (W : World) :
    (Instr.indexAt t v (.int .i64 (j : Int))).run P W = .ok (.pointer (some ⟨slB v, slO v + j, none⟩)) W := by
  rcases h.val with ⟨c, rfl, h0⟩ | ⟨b, o, c, rfl⟩
  · omega
  · rw [r_index_slice P W t b o d.size c .i64 j hs (by omega) (by omega), hz]
    simp [slB, slO]
theorem Arr.isLen (h : Arr q w v d) (hs : isS (P.underlying t) = true) (ty : TypeId) (W : World) : (Builtin.len_ #[t] ty #[v]).run P W = .ok (.int .i64 d.size) W := by
  rcases h.val with ⟨c, rfl, h0⟩ | ⟨b, o, c, rfl⟩
  · rw [h0]; simp [hs]
  · simp [hs]
theorem Arr.sizeq {w' : World} {d' : Array Int} (h : Arr q w v d) (h' : Arr q w' v d') : d.size = d'.size := by
  rcases h.val with ⟨c, rfl, h0⟩ | ⟨b, o, c, rfl⟩
  · rcases h'.val with ⟨c', h1, h2⟩ | ⟨b', o', c', h1⟩
    · omega
    · cases h1
  · rcases h'.val with ⟨c', h1, h2⟩ | ⟨b', o', c', h1⟩
    · cases h1
    · injection h1
theorem at_swp (d : Array Int) {i j : Nat} (hi : i < d.size) (hj : j < d.size) (k : Nat) : at_ (Sort.swp d i j) k = if k = j then at_ d i else if k = i then at_ d j else at_ d k := by
  unfold at_
  by_cases h1 : k = j
  · subst h1; rw [if_pos rfl]; exact Sort.swp_right d i k hj
  · rw [if_neg h1]
    by_cases h2 : k = i
    · subst h2; rw [if_pos rfl]; exact Sort.swp_left d k j hi h1
    · rw [if_neg h2]; exact Sort.swp_other d i j k h2 h1
theorem at_self {d : Array Int} {i j : Nat} : (d[i]! : Int) = at_ d i := rfl
theorem Arr.facts (h : Arr q w v d) (i j : Nat) (hi : i < d.size) (hj : j < d.size) :
    w.cell? ⟨slB v, slO v + i, none⟩ = some (.int q (at_ d i)) ∧ w.cell? ⟨slB v, slO v + j, none⟩ = some (.int q (at_ d j)) ∧ w.frozen? ⟨slB v, slO v + i, none⟩ = false ∧
    (w.setCell ⟨slB v, slO v + i, none⟩ (.int q (at_ d j))).cell? ⟨slB v, slO v + j, none⟩ = some (.int q (at_ d j)) ∧ w.frozen? ⟨slB v, slO v + j, none⟩ = false := by
  refine ⟨h.cell i hi, h.cell j hj, h.thaw i hi, ?_, h.thaw j hj⟩
  by_cases e : j = i
  · subst e; exact World.cell?_setCell_same _ _ _ (h.cell j hj)
  · rw [World.cell?_setCell_other _ _ _ _ (by simp only [ne_eq, Addr.mk.injEq, and_true, true_and]; omega)]; exact h.cell j hj
theorem Arr.swap (h : Arr q w v d) {i j : Nat} (hi : i < d.size) (hj : j < d.size) :
    Arr q ((w.setCell ⟨slB v, slO v + i, none⟩ (.int q (at_ d j))).setCell ⟨slB v, slO v + j, none⟩ (.int q (at_ d i))) v (Sort.swp d i j) := by
  refine ⟨by rw [Sort.size_swp]; exact h.val, fun k hk => ?_, fun k hk => by rw [World.frozen?_setCell, World.frozen?_setCell]; rw [Sort.size_swp] at hk; exact h.thaw k hk⟩
  rw [Sort.size_swp] at hk
  rw [at_swp d hi hj]
  obtain ⟨-, -, -, c2, -⟩ := h.facts i j hi hj
  by_cases h1 : k = j
  · subst h1
    rw [World.cell?_setCell_same _ _ _ c2, if_pos rfl]
  · rw [World.cell?_setCell_other _ _ _ _ (by simp only [ne_eq, Addr.mk.injEq, and_true, true_and]; omega), if_neg h1]
    by_cases h2 : k = i
    · subst h2
      rw [World.cell?_setCell_same _ _ _ (h.cell k hk), if_pos rfl]
    · rw [World.cell?_setCell_other _ _ _ _ (by simp only [ne_eq, Addr.mk.injEq, and_true, true_and]; omega), if_neg h2]
      exact h.cell k hk
theorem Arr.mswap {w0 : World} (h : Arr q w v d) (hM : Mod (Sv v) w0 w) {i j : Nat} (hi : i < d.size) (x y : Value) : Mod (Sv v) w0 ((w.setCell ⟨slB v, slO v + i, none⟩ x).setCell ⟨slB v, slO v + j, none⟩ y) := by
  have hn : Sv v (slB v) := by
    refine ⟨?_, rfl⟩
    rcases h.val with ⟨c, rfl, h0⟩ | ⟨b, o, c, rfl⟩
    · omega
    · rfl
  exact (hM.setCell _ _ (.inl hn)).setCell _ _ (.inl hn)
/-- The draw of an order's open statement. -/
def Dr (w W : World) : Prop := W = w.drew
theorem Arr.dr {W : World} (h : Arr q w v d) (hd : Dr w W) : Arr q W v d := by rw [hd]; exact h.drew
theorem Mod.dr {S : Nat → Prop} {w0 w W : World} (h : Mod S w0 w) (hd : Dr w W) : Mod S w0 W := by rw [hd]; exact h.trans (Ext.drew w).mod
theorem Ext.dr {w0 w W : World} (h : Ext w0 w) (hd : Dr w W) : Ext w0 W := by rw [hd]; exact h.trans (Ext.drew w)
section
variable {r : Option Nat} {ds : List Deferred} {ops : List Oper}
theorem WC_drS {n : Nat} {id : Nat} {Q : Post} {ρ : Env} {w : World} (m : Nat) (hm : P.follows .mixedOrders = true) (hb : (befsOk ops (m + 1) (befs ops (m + 1)) && storeOk ops m (befs ops (m + 1))) = true)
    (h : ∀ W, Dr w W → PS P r ds ops.toArray W (fun ρ' => VL P r ops.toArray Q (ops.drop m) ρ' ds W) (ops.take m) ρ) : WC P n r (.region id ops.toArray true) Q ρ ds w := WC_drawS m hm hb (h _ rfl)
theorem WC_drQ {n : Nat} {id : Nat} {Q : Post} {ρ : Env} {w : World} (m : Nat) (hm : P.follows .mixedOrders = true) (hb : (befsOk ops m (befs ops m) && (ops.take m).all (fun o => plain o.op && o.dst.isSome)) = true)
    (h : ∀ W, Dr w W → PL P r ds ops.toArray W (fun ρ' => VL P r ops.toArray Q (ops.drop m) ρ' ds W) (ops.take m) ρ) : WC P n r (.region id ops.toArray true) Q ρ ds w := WC_drawQ m hm hb (h _ rfl)
end
theorem wnat (n : Int) (k : Nat) (h : n = k) (hk : k ≤ 9223372036854775807) : IntKind.i64.wrap n = (k : Int) := by subst h; exact wrap64 _ (by omega) (by omega)
end
section
variable (lt : Int → Int → Bool)
theorem sift_stop {hi first root : Nat} {d : Array Int} (h : hi ≤ 2 * root + 1) : Sort.siftDown lt hi first root d = d := by
  rw [Sort.siftDown, dif_pos (by omega)]
theorem sift_go {hi first root c : Nat} {d : Array Int} (hc : c < hi) (h : c = if (decide (2 * root + 2 < hi) && lt (at_ d (first + (2 * root + 1))) (at_ d (first + (2 * root + 2)))) = true then 2 * root + 2 else 2 * root + 1) :
    Sort.siftDown lt hi first root d = if lt (at_ d (first + root)) (at_ d (first + c)) = true then Sort.siftDown lt hi first c (Sort.swp d (first + root) (first + c)) else d := by
  have h1 : ¬ 2 * root + 1 ≥ hi := by split at h <;> omega
  rw [Sort.siftDown, dif_neg h1]
  have e : first + (2 * root + 1) + 1 = first + (2 * root + 2) := by omega
  have e2 : 2 * root + 1 + 1 = 2 * root + 2 := by omega
  rw [e, e2]
  by_cases hb : (decide (2 * root + 2 < hi) && lt (at_ d (first + (2 * root + 1))) (at_ d (first + (2 * root + 2)))) = true
  · rw [if_pos hb] at h
    subst h
    have hb' : (decide (2 * root + 2 < hi) && lt d[first + (2 * root + 1)]! d[first + (2 * root + 2)]!) = true := hb
    rw [if_pos hb', dif_pos hc]
    by_cases hl : lt (at_ d (first + root)) (at_ d (first + (2 * root + 2))) = true
    · have hl' : lt d[first + root]! d[first + (2 * root + 2)]! = true := hl
      rw [if_pos hl, hl']; rfl
    · have hl' : lt d[first + root]! d[first + (2 * root + 2)]! = false := Bool.eq_false_iff.2 hl
      rw [if_neg hl, hl']; rfl
  · rw [if_neg hb] at h
    subst h
    have hb' : ¬ (decide (2 * root + 2 < hi) && lt d[first + (2 * root + 1)]! d[first + (2 * root + 2)]!) = true := hb
    rw [if_neg hb']
    by_cases hl : lt (at_ d (first + root)) (at_ d (first + (2 * root + 1))) = true
    · have hl' : lt d[first + root]! d[first + (2 * root + 1)]! = true := hl
      rw [if_pos hl, hl']; rfl
    · have hl' : lt d[first + root]! d[first + (2 * root + 1)]! = false := Bool.eq_false_iff.2 hl
      rw [if_neg hl, hl']; rfl
end
theorem size_swp (d : Array Int) (i j : Nat) : (Sort.swp d i j).size = d.size := Sort.size_swp d i j
/-- Of the slots no more is known than this. -/
theorem WC_gen {P : Program} {n : Nat} {r : Option Nat} {c : Code} {Q : Post} {ρ : Env} {ds : List Deferred} {w : World} (F : Env → Prop) (hF : F ρ) (h : ∀ σ, F σ → WC P n r c Q σ ds w) : WC P n r c Q ρ ds w := h ρ hF
/-! ### Bits -/
def xorI (k : IntKind) (a b : Int) : Int := k.wrap (BitVec.ofInt k.bits a ^^^ BitVec.ofInt k.bits b).toNat
def andI (k : IntKind) (a b : Int) : Int := k.wrap (BitVec.ofInt k.bits a &&& BitVec.ofInt k.bits b).toNat
def orI (k : IntKind) (a b : Int) : Int := k.wrap (BitVec.ofInt k.bits a ||| BitVec.ofInt k.bits b).toNat
def shlI (k : IntKind) (a b : Int) : Int := k.wrap (a * 2 ^ (min b.toNat k.bits))
def shrI (k : IntKind) (a b : Int) : Int := a.fdiv (2 ^ (min b.toNat k.bits))
section
variable (P : Program) (w : World) (t : TypeId)
@[simp] theorem b_xor (k : IntKind) (a b : Int) : (binOp .xor t (.int k a) (.int k b)).run P w = .ok (.int k (xorI k a b)) w := by simp [binOp, Op.intBits, xorI]
@[simp] theorem b_and (k : IntKind) (a b : Int) : (binOp .and t (.int k a) (.int k b)).run P w = .ok (.int k (andI k a b)) w := by simp [binOp, Op.intBits, andI]
@[simp] theorem b_or (k : IntKind) (a b : Int) : (binOp .or t (.int k a) (.int k b)).run P w = .ok (.int k (orI k a b)) w := by simp [binOp, Op.intBits, orI]
@[simp] theorem b_shl (k yk : IntKind) (a b : Int) (h : 0 ≤ b) : (binOp .shl t (.int k a) (.int yk b)).run P w = .ok (.int k (shlI k a b)) w := by
  have : ¬ b < 0 := by omega
  simp [binOp, Op.shift, shlI, this]
@[simp] theorem b_shr (k yk : IntKind) (a b : Int) (h : 0 ≤ b) : (binOp .shr t (.int k a) (.int yk b)).run P w = .ok (.int k (shrI k a b)) w := by
  have : ¬ b < 0 := by omega
  simp [binOp, Op.shift, shrI, this]
end
theorem andI_le {a b : Int} (h0 : 0 ≤ b) (h1 : b ≤ 18446744073709551615) : 0 ≤ andI .u64 a b ∧ andI .u64 a b ≤ b := by
  unfold andI
  have e : (BitVec.ofInt IntKind.u64.bits b).toNat = b.toNat := by
    show (BitVec.ofInt 64 b).toNat = b.toNat
    rw [BitVec.toNat_ofInt]
    omega
  have : (BitVec.ofInt IntKind.u64.bits a &&& BitVec.ofInt IntKind.u64.bits b).toNat ≤ b.toNat := by
    rw [BitVec.toNat_and, e]
    exact Nat.and_le_right
  rw [wrap64u _ (by omega) (by omega)]
  omega
theorem shlI_one {n : Nat} (h : n < 64) : shlI .u64 1 (n : Int) = ((2 ^ n : Nat) : Int) := by
  unfold shlI
  have e : min (n : Int).toNat IntKind.u64.bits = n := by simp [IntKind.bits]; omega
  rw [e]
  have : 2 ^ n < 2 ^ 64 := Nat.pow_lt_pow_right (by decide) h
  have hc : (1 * 2 ^ n : Int) = ((2 ^ n : Nat) : Int) := by rw [Int.one_mul, Int.natCast_pow]; rfl
  rw [hc]
  generalize 2 ^ n = N at this ⊢
  rw [wrap64u _ (by omega) (by omega)]
/-- The table of lengths. -/
def tabOk (s : ByteArray) : Bool := (List.range 256).all fun n => decide (n < s.size) && (decide (n < 2 ^ (s.data.toList.getD n 0).toNat) && ((n == 0 || decide (2 ^ (s.data.toList.getD n 0).toNat ≤ 2 * n)) && decide ((s.data.toList.getD n 0).toNat ≤ 8)))
theorem onRt_tab {P : Program} {w : World} {t : TypeId} {s : ByteArray} {q : IntKind} {n : Nat} {K : Value → World → Prop} {tok : Tok K} (hs : isStr (P.underlying t) = true) (h1 : n < 256) (hok : tabOk s = true)
    (h : ∀ b : Nat, n < 2 ^ b → n = 0 ∨ 2 ^ b ≤ 2 * n → b ≤ 8 → K (.int .u8 b) w) : onRt ((Instr.index t (.string s) (.int q (n : Int))).run P w) K tok := by
  have h2 := List.all_eq_true.1 hok n (by simpa using h1)
  simp only [Bool.and_eq_true, Bool.or_eq_true, decide_eq_true_eq, beq_iff_eq] at h2
  obtain ⟨hlt, a1, a2, a3⟩ := h2
  rw [r_index_str P w t s q n hs hlt]
  rw [onRt_ok]
  have e : (s[n]'hlt) = s.data.toList.getD n 0 := by
    have : n < s.data.toList.length := by simpa using hlt
    rw [List.getD_eq_getElem?_getD, List.getElem?_eq_getElem this]
    rfl
  rw [e]
  exact h _ a1 a2 a3
/-! ### The steps of the plain functions -/
section
variable (lt : Int → Int → Bool)
theorem pis_step (a b s i : Nat) (d : Array Int) {i2 : Nat} (h : i2 = Sort.scanSorted lt d b i) : Sort.partialIns lt a b (s + 1) i d = if i2 = b then (d, true) else if b - a < 50 then (d, false) else
    Sort.partialIns lt a b s i2 (if b - i2 ≥ 2 then Sort.shiftUp lt b (i2 + 1) (if i2 - a ≥ 2 then Sort.shiftDown lt (i2 - 1) (Sort.swp d i2 (i2 - 1)) else Sort.swp d i2 (i2 - 1)) else (if i2 - a ≥ 2 then Sort.shiftDown lt (i2 - 1) (Sort.swp d i2 (i2 - 1)) else Sort.swp d i2 (i2 - 1))) := by
  subst h; rw [Sort.partialIns]
theorem pis_end (a b i : Nat) (d : Array Int) : Sort.partialIns lt a b 0 i d = (d, false) := by rw [Sort.partialIns]
theorem scan_go {b i p : Nat} {d : Array Int} (h : i < b) (hp : i = p + 1) (hl : lt (at_ d i) (at_ d p) = false) : Sort.scanSorted lt d b (i + 1) = Sort.scanSorted lt d b i := by
  subst hp
  conv => rhs; rw [Sort.scanSorted]
  have hl' : lt d[p + 1]! d[p + 1 - 1]! = false := hl
  rw [hl', if_pos (by simp [h])]
theorem scan_end {b i p : Nat} {d : Array Int} (hp : i = p + 1) (h : ¬ i < b ∨ lt (at_ d i) (at_ d p) = true) : Sort.scanSorted lt d b i = i := by
  subst hp
  rw [Sort.scanSorted]
  rcases h with h | h
  · rw [if_neg (by simp [h])]
  · have hl' : lt d[p + 1]! d[p + 1 - 1]! = true := h
    rw [hl', if_neg (by simp)]
theorem down_zero (d : Array Int) : Sort.shiftDown lt 0 d = d := by rw [Sort.shiftDown]
theorem down_step {j p : Nat} {d : Array Int} (hp : j = p + 1) : Sort.shiftDown lt j d = if lt (at_ d j) (at_ d p) = true then Sort.shiftDown lt p (Sort.swp d j p) else d := by
  subst hp
  rw [Sort.shiftDown]
  by_cases h : lt (at_ d (p + 1)) (at_ d p) = true
  · have h' : lt d[p + 1]! d[p]! = true := h
    rw [if_pos h, h']; rfl
  · have h' : lt d[p + 1]! d[p]! = false := Bool.eq_false_iff.2 h
    rw [if_neg h, h']; rfl
theorem up_end {b j : Nat} {d : Array Int} (h : ¬ j < b) : Sort.shiftUp lt b j d = d := by rw [Sort.shiftUp, if_neg h]
theorem up_step {b j p : Nat} {d : Array Int} (h : j < b) (hp : j = p + 1) : Sort.shiftUp lt b j d = if lt (at_ d j) (at_ d p) = true then Sort.shiftUp lt b (j + 1) (Sort.swp d j p) else d := by
  subst hp
  rw [Sort.shiftUp, if_pos h]
  by_cases h : lt (at_ d (p + 1)) (at_ d p) = true
  · have h' : lt d[p + 1]! d[p + 1 - 1]! = true := h
    rw [if_pos h, h']; rfl
  · have h' : lt d[p + 1]! d[p + 1 - 1]! = false := Bool.eq_false_iff.2 h
    rw [if_neg h, h']; rfl
end
section
variable (p : Int → Bool)
theorem su_go {j i : Nat} {d : Array Int} (h : i ≤ j) (hp : p (at_ d i) = true) : Sort.scanUp p d j (i + 1) = Sort.scanUp p d j i := by
  conv => rhs; rw [Sort.scanUp]
  have hp' : p d[i]! = true := hp
  rw [hp', if_pos (by simp [h])]
theorem su_end {j i : Nat} {d : Array Int} (h : ¬ i ≤ j ∨ p (at_ d i) = false) : Sort.scanUp p d j i = i := by
  rw [Sort.scanUp]
  rcases h with h | h
  · rw [if_neg (by simp [h])]
  · have hp' : p d[i]! = false := h
    rw [hp', if_neg (by simp)]
theorem sd_go {j i k : Nat} {d : Array Int} (h : i ≤ j) (hk : j = k + 1) (hp : p (at_ d j) = true) : Sort.scanDown p d i k = Sort.scanDown p d i j := by
  subst hk
  conv => rhs; rw [Sort.scanDown]
  have hp' : p d[k + 1]! = true := hp
  rw [hp', if_pos (by simp [h])]
theorem sd_end {j i : Nat} {d : Array Int} (h : ¬ i ≤ j ∨ p (at_ d j) = false) : Sort.scanDown p d i j = j := by
  cases j with
  | zero => rw [Sort.scanDown]
  | succ k =>
    rw [Sort.scanDown]
    rcases h with h | h
    · rw [if_neg (by simp [h])]
    · have hp' : p d[k + 1]! = false := h
      rw [hp', if_neg (by simp)]
end
/-- What several branches come to is proved once. -/
theorem with_tail {T G : Prop} (h1 : T → G) (h2 : T) : G := h1 h2
end Pk
