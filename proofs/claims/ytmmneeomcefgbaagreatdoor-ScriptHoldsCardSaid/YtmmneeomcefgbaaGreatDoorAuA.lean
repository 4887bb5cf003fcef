/-
 Contracts of the functions that the law reaches,step by step.
-/
import Derived.Test.YtmmneeomcefgbaaGreatDoorAmO
import Derived.Lib.DecodeNEq
namespace Go.Proofs
open Pk
set_option maxRecDepth 10000
attribute [local simp] beq_dec bne_dec
def octA (s : ByteArray) (p : Nat) : Int := if p < s.size then ((s.get! p).toNat : Int) else -1
theorem get_lt (s : ByteArray) (k : Nat) (h : k < s.size) : s.get! k = s[k]'h := by
 cases s with
 | mk d => exact getElem!_pos d k h
def r1C (a : Int) : Nat × Int × Int := if 194 ≤ a ∧ a ≤ 223 then (2,128,191) else if a = 224 then (3,160,191) else if a = 237 then (3,128,159) else if 225 ≤ a ∧ a ≤ 239 then (3,128,191) else if a = 240 then (4,144,191) else if a = 244 then (4,128,143) else if 241 ≤ a ∧ a ≤ 243 then (4,128,191) else if 127 < a then (0,0,0) else (1,0,127)
def r1L (c : Nat → Int) (n : Nat) : Nat → Nat → Int → Int → Nat
 | 0,_,_,_ => n
 | k + 1,i,lo,hi => if c i < lo ∨ hi < c i then 0 else r1L c n k (i + 1) 128 191
def r1 (c : Nat → Int) : Nat := r1L c (r1C (c 0)).1 ((r1C (c 0)).1 - 1) 1 (r1C (c 0)).2.1 (r1C (c 0)).2.2
theorem andNot_ex (t : TypeId) (k : IntKind) (a b : Int) : ∃ z,∀ W,(binOp .andNot t (.int k a) (.int k b)).run Tryz.prog W = .ok (.int k z) W := ⟨_,fun W => by simp [binOp,Op.intBits]; rfl⟩
theorem firstT_cases (b : Nat) : Lib.firstT b = 240 ∨ Lib.firstT b = 241 ∨ Lib.firstT b = 2 ∨ Lib.firstT b = 19 ∨ Lib.firstT b = 3 ∨ Lib.firstT b = 35 ∨ Lib.firstT b = 52 ∨ Lib.firstT b = 4 ∨ Lib.firstT b = 68 := by
 unfold Lib.firstT
 repeat' split
 all_goals simp
def Tabs (w : World) : Prop := (∀ c,c < 256 → w.cell? ⟨1,c,none⟩ = some (.int .u8 (Lib.firstT c))) ∧ (∀ i,i < 16 → w.cell? ⟨2,2 * i,none⟩ = some (.int .u8 (Lib.accLo i)) ∧ w.cell? ⟨2,2 * i + 1,none⟩ = some (.int .u8 (Lib.accHi i)))
theorem Tabs.ext {w w' : World} (h : Tabs w) (hE : Ext w w') : Tabs w' :=
 ⟨fun c hc => by rw [hE.cell _ (by rw [h.1 c hc]; rfl),h.1 c hc],fun i hi => ⟨by rw [hE.cell _ (by rw [(h.2 i hi).1]; rfl),(h.2 i hi).1],by rw [hE.cell _ (by rw [(h.2 i hi).2]; rfl),(h.2 i hi).2]⟩⟩
set_option maxHeartbeats 2000000 in
theorem slow_c (s : ByteArray) (h0 : 0 < s.size) {w : World} (hT : Tabs w) : FN Tryz.prog 226 [.string s] w fun e w' => (∃ r, e = .returned (.tuple #[.int .i32 r, i64 (Utf8.decode s 0).2])) ∧ Ext w w' := by
 refine FN_enter Tryz.func226 rfl rfl (by kernel_rfl) ?_
 have hn : ¬ (s.size : Int) < 1 := by omega
 obtain ⟨x0,hx0⟩ : ∃ x0,s.get! 0 = x0 := ⟨_,rfl⟩
 obtain ⟨x1,hx1⟩ : ∃ x1,s.get! 1 = x1 := ⟨_,rfl⟩
 obtain ⟨x2,hx2⟩ : ∃ x2,s.get! 2 = x2 := ⟨_,rfl⟩
 obtain ⟨x3,hx3⟩ : ∃ x3,s.get! 3 = x3 := ⟨_,rfl⟩
 have l0 := x0.toNat_lt; have l1 := x1.toNat_lt; have l2 := x2.toNat_lt; have l3 := x3.toNat_lt
 have hs0 : s[0]'(by omega) = x0 := by rw [← hx0]; exact (get_lt s 0 (by omega)).symm
 have hdec : Utf8.decode s 0 = Lib.decodeN s.size x0.toNat x1.toNat x2.toNat x3.toNat := by
  rw [Lib.decode_at,Nat.sub_zero,Nat.zero_add,Nat.zero_add,Nat.zero_add,hx0,hx1,hx2,hx3]
 rw [hdec]
 have hc0 := hT.1 x0.toNat (by omega)
 have ix : ∀ (k : Nat), k < s.size → ∀ W, (Instr.index 9 (.string s) (i64 k)).run Tryz.prog W = .ok (u8 (s.get! k).toNat) W := fun k hk W => by
  have h' : (k : Int) < s.size := by omega
  simp [hk]
  rw [get_lt s k hk]
 have ix0 := fun W => ix 0 h0 W
 rw [hx0] at ix0
 simp only [Int.natCast_zero] at ix0
 have hx256 : (x0.toNat : Int) < 256 := by omega
 have hres : Lib.firstT x0.toNat < 240 → Lib.decodeN s.size x0.toNat x1.toNat x2.toNat x3.toNat = Lib.slowN s.size x0.toNat x1.toNat x2.toNat x3.toNat (Lib.firstT x0.toNat % 8) (Lib.accLo (Lib.firstT x0.toNat / 16)) (Lib.accHi (Lib.firstT x0.toNat / 16)) :=
  fun h => (Lib.slow_eq _ _ _ _ _ (by omega) (by omega) (by omega) (by omega) h).symm
 simp [hn,ix0,hc0,hx256]
 rcases firstT_cases x0.toNat with hX | hX | hX | hX | hX | hX | hX | hX | hX
 ·rw [Lib.ascii_eq _ _ _ _ _ hX,hX]
  obtain ⟨z,hz⟩ := andNot_ex 21 .i32 (IntKind.i32.wrap (x0.toNat : Int)) (shrI IntKind.i32 (shlI IntKind.i32 (IntKind.i32.wrap 240) 31) 31)
  simp [ix0,hz]
  exact Ext.refl _
 ·rw [Lib.bad_eq _ _ _ _ _ (by omega) hX,hX]
  obtain ⟨z,hz⟩ := andNot_ex 21 .i32 (IntKind.i32.wrap (x0.toNat : Int)) (shrI IntKind.i32 (shlI IntKind.i32 (IntKind.i32.wrap 241) 31) 31)
  simp [ix0,hz]
  exact Ext.refl _
 ·have hr := hres (by omega)
  rw [hX] at hr
  simp only [show Lib.accLo (2 / 16) = 128 from rfl,show Lib.accHi (2 / 16) = 191 from rfl,show 2 % 8 = 2 from rfl] at hr
  rw [hr,hX]
  have ha0 := (hT.2 0 (by omega)).1
  have ha1 := (hT.2 0 (by omega)).2
  rw [show Lib.accLo 0 = 128 from rfl] at ha0
  rw [show Lib.accHi 0 = 191 from rfl] at ha1
  simp only [Nat.mul_zero,Nat.zero_add] at ha0 ha1
  have q := Blk.new w [u8 128,u8 191] 312
  have hE : Ext w (w.alloc (.cells #[u8 128,u8 191] 312)) := (Ext.refl _).alloc _
  simp [show shrI .u8 2 4 = 0 by decide,show andI .u8 2 7 = 2 by decide,show IntKind.i64.wrap 2 = 2 by decide,ha0,ha1]
  generalize (w.alloc (.cells #[.int .u8 128,.int .u8 191] 312)) = w1 at *
  unfold Lib.slowN
  by_cases g0 : s.size < 2
  ·have g0' : (s.size : Int) < 2 := by omega
   rw [if_pos g0]
   simp [g0']
   exact hE
  have g0' : ¬ (s.size : Int) < 2 := by omega
  rw [if_neg g0]
  have i1 := fun W => ix 1 (by omega) W
  rw [hx1] at i1
  simp only [Int.natCast_one] at i1
  by_cases g1 : x1.toNat < 128
  ·have g1' : (x1.toNat : Int) < 128 := by omega
   rw [if_pos (.inl g1)]
   simp [g0',i1,q.cell 0 _ rfl,g1']
   exact hE
  have g1' : ¬ (x1.toNat : Int) < 128 := by omega
  by_cases g2 : 191 < x1.toNat
  ·have g2' : (191 : Int) < x1.toNat := by omega
   rw [if_pos (.inr g2)]
   simp [g0',i1,q.cell 0 _ rfl,q.cell 1 _ rfl,g1',g2']
   exact hE
  have g2' : ¬ (191 : Int) < x1.toNat := by omega
  rw [if_neg (by omega)]
  rw [if_pos (by omega)]
  simp [g0',i1,q.cell 0 _ rfl,q.cell 1 _ rfl,g1',g2']
  exact hE
 ·have hr := hres (by omega)
  rw [hX] at hr
  simp only [show Lib.accLo (19 / 16) = 160 from rfl,show Lib.accHi (19 / 16) = 191 from rfl,show 19 % 8 = 3 from rfl] at hr
  rw [hr,hX]
  have ha0 := (hT.2 1 (by omega)).1
  have ha1 := (hT.2 1 (by omega)).2
  rw [show Lib.accLo 1 = 160 from rfl] at ha0
  rw [show Lib.accHi 1 = 191 from rfl] at ha1
  simp only [Nat.reduceMul,Nat.reduceAdd] at ha0 ha1
  have q := Blk.new w [u8 160,u8 191] 312
  have hE : Ext w (w.alloc (.cells #[u8 160,u8 191] 312)) := (Ext.refl _).alloc _
  simp [show shrI .u8 19 4 = 1 by decide,show andI .u8 19 7 = 3 by decide,show IntKind.i64.wrap 3 = 3 by decide,ha0,ha1]
  generalize (w.alloc (.cells #[.int .u8 160,.int .u8 191] 312)) = w1 at *
  unfold Lib.slowN
  by_cases g0 : s.size < 3
  ·have g0' : (s.size : Int) < 3 := by omega
   rw [if_pos g0]
   simp [g0']
   exact hE
  have g0' : ¬ (s.size : Int) < 3 := by omega
  rw [if_neg g0]
  have i1 := fun W => ix 1 (by omega) W
  rw [hx1] at i1
  simp only [Int.natCast_one] at i1
  by_cases g1 : x1.toNat < 160
  ·have g1' : (x1.toNat : Int) < 160 := by omega
   rw [if_pos (.inl g1)]
   simp [g0',i1,q.cell 0 _ rfl,g1']
   exact hE
  have g1' : ¬ (x1.toNat : Int) < 160 := by omega
  by_cases g2 : 191 < x1.toNat
  ·have g2' : (191 : Int) < x1.toNat := by omega
   rw [if_pos (.inr g2)]
   simp [g0',i1,q.cell 0 _ rfl,q.cell 1 _ rfl,g1',g2']
   exact hE
  have g2' : ¬ (191 : Int) < x1.toNat := by omega
  rw [if_neg (by omega)]
  rw [if_neg (by omega)]
  have i2 := fun W => ix 2 (by omega) W
  rw [hx2] at i2
  simp only [show ((2 : Nat) : Int) = 2 from rfl] at i2
  by_cases g3 : x2.toNat < 128
  ·have g3' : (x2.toNat : Int) < 128 := by omega
   rw [if_pos (.inl g3)]
   simp [g0',i1,q.cell 0 _ rfl,q.cell 1 _ rfl,g1',g2',i2,g3']
   exact hE
  have g3' : ¬ (x2.toNat : Int) < 128 := by omega
  by_cases g4 : 191 < x2.toNat
  ·have g4' : (191 : Int) < x2.toNat := by omega
   rw [if_pos (.inr g4)]
   simp [g0',i1,q.cell 0 _ rfl,q.cell 1 _ rfl,g1',g2',i2,g3',g4']
   exact hE
  have g4' : ¬ (191 : Int) < x2.toNat := by omega
  rw [if_neg (by omega)]
  rw [if_pos (by omega)]
  simp [g0',i1,q.cell 0 _ rfl,q.cell 1 _ rfl,g1',g2',i2,g3',g4']
  exact hE
 ·have hr := hres (by omega)
  rw [hX] at hr
  simp only [show Lib.accLo (3 / 16) = 128 from rfl,show Lib.accHi (3 / 16) = 191 from rfl,show 3 % 8 = 3 from rfl] at hr
  rw [hr,hX]
  have ha0 := (hT.2 0 (by omega)).1
  have ha1 := (hT.2 0 (by omega)).2
  rw [show Lib.accLo 0 = 128 from rfl] at ha0
  rw [show Lib.accHi 0 = 191 from rfl] at ha1
  simp only [Nat.mul_zero,Nat.zero_add] at ha0 ha1
  have q := Blk.new w [u8 128,u8 191] 312
  have hE : Ext w (w.alloc (.cells #[u8 128,u8 191] 312)) := (Ext.refl _).alloc _
  simp [show shrI .u8 3 4 = 0 by decide,show andI .u8 3 7 = 3 by decide,show IntKind.i64.wrap 3 = 3 by decide,ha0,ha1]
  generalize (w.alloc (.cells #[.int .u8 128,.int .u8 191] 312)) = w1 at *
  unfold Lib.slowN
  by_cases g0 : s.size < 3
  ·have g0' : (s.size : Int) < 3 := by omega
   rw [if_pos g0]
   simp [g0']
   exact hE
  have g0' : ¬ (s.size : Int) < 3 := by omega
  rw [if_neg g0]
  have i1 := fun W => ix 1 (by omega) W
  rw [hx1] at i1
  simp only [Int.natCast_one] at i1
  by_cases g1 : x1.toNat < 128
  ·have g1' : (x1.toNat : Int) < 128 := by omega
   rw [if_pos (.inl g1)]
   simp [g0',i1,q.cell 0 _ rfl,g1']
   exact hE
  have g1' : ¬ (x1.toNat : Int) < 128 := by omega
  by_cases g2 : 191 < x1.toNat
  ·have g2' : (191 : Int) < x1.toNat := by omega
   rw [if_pos (.inr g2)]
   simp [g0',i1,q.cell 0 _ rfl,q.cell 1 _ rfl,g1',g2']
   exact hE
  have g2' : ¬ (191 : Int) < x1.toNat := by omega
  rw [if_neg (by omega)]
  rw [if_neg (by omega)]
  have i2 := fun W => ix 2 (by omega) W
  rw [hx2] at i2
  simp only [show ((2 : Nat) : Int) = 2 from rfl] at i2
  by_cases g3 : x2.toNat < 128
  ·have g3' : (x2.toNat : Int) < 128 := by omega
   rw [if_pos (.inl g3)]
   simp [g0',i1,q.cell 0 _ rfl,q.cell 1 _ rfl,g1',g2',i2,g3']
   exact hE
  have g3' : ¬ (x2.toNat : Int) < 128 := by omega
  by_cases g4 : 191 < x2.toNat
  ·have g4' : (191 : Int) < x2.toNat := by omega
   rw [if_pos (.inr g4)]
   simp [g0',i1,q.cell 0 _ rfl,q.cell 1 _ rfl,g1',g2',i2,g3',g4']
   exact hE
  have g4' : ¬ (191 : Int) < x2.toNat := by omega
  rw [if_neg (by omega)]
  rw [if_pos (by omega)]
  simp [g0',i1,q.cell 0 _ rfl,q.cell 1 _ rfl,g1',g2',i2,g3',g4']
  exact hE
 ·have hr := hres (by omega)
  rw [hX] at hr
  simp only [show Lib.accLo (35 / 16) = 128 from rfl,show Lib.accHi (35 / 16) = 159 from rfl,show 35 % 8 = 3 from rfl] at hr
  rw [hr,hX]
  have ha0 := (hT.2 2 (by omega)).1
  have ha1 := (hT.2 2 (by omega)).2
  rw [show Lib.accLo 2 = 128 from rfl] at ha0
  rw [show Lib.accHi 2 = 159 from rfl] at ha1
  simp only [Nat.reduceMul,Nat.reduceAdd] at ha0 ha1
  have q := Blk.new w [u8 128,u8 159] 312
  have hE : Ext w (w.alloc (.cells #[u8 128,u8 159] 312)) := (Ext.refl _).alloc _
  simp [show shrI .u8 35 4 = 2 by decide,show andI .u8 35 7 = 3 by decide,show IntKind.i64.wrap 3 = 3 by decide,ha0,ha1]
  generalize (w.alloc (.cells #[.int .u8 128,.int .u8 159] 312)) = w1 at *
  unfold Lib.slowN
  by_cases g0 : s.size < 3
  ·have g0' : (s.size : Int) < 3 := by omega
   rw [if_pos g0]
   simp [g0']
   exact hE
  have g0' : ¬ (s.size : Int) < 3 := by omega
  rw [if_neg g0]
  have i1 := fun W => ix 1 (by omega) W
  rw [hx1] at i1
  simp only [Int.natCast_one] at i1
  by_cases g1 : x1.toNat < 128
  ·have g1' : (x1.toNat : Int) < 128 := by omega
   rw [if_pos (.inl g1)]
   simp [g0',i1,q.cell 0 _ rfl,g1']
   exact hE
  have g1' : ¬ (x1.toNat : Int) < 128 := by omega
  by_cases g2 : 159 < x1.toNat
  ·have g2' : (159 : Int) < x1.toNat := by omega
   rw [if_pos (.inr g2)]
   simp [g0',i1,q.cell 0 _ rfl,q.cell 1 _ rfl,g1',g2']
   exact hE
  have g2' : ¬ (159 : Int) < x1.toNat := by omega
  rw [if_neg (by omega)]
  rw [if_neg (by omega)]
  have i2 := fun W => ix 2 (by omega) W
  rw [hx2] at i2
  simp only [show ((2 : Nat) : Int) = 2 from rfl] at i2
  by_cases g3 : x2.toNat < 128
  ·have g3' : (x2.toNat : Int) < 128 := by omega
   rw [if_pos (.inl g3)]
   simp [g0',i1,q.cell 0 _ rfl,q.cell 1 _ rfl,g1',g2',i2,g3']
   exact hE
  have g3' : ¬ (x2.toNat : Int) < 128 := by omega
  by_cases g4 : 191 < x2.toNat
  ·have g4' : (191 : Int) < x2.toNat := by omega
   rw [if_pos (.inr g4)]
   simp [g0',i1,q.cell 0 _ rfl,q.cell 1 _ rfl,g1',g2',i2,g3',g4']
   exact hE
  have g4' : ¬ (191 : Int) < x2.toNat := by omega
  rw [if_neg (by omega)]
  rw [if_pos (by omega)]
  simp [g0',i1,q.cell 0 _ rfl,q.cell 1 _ rfl,g1',g2',i2,g3',g4']
  exact hE
 ·have hr := hres (by omega)
  rw [hX] at hr
  simp only [show Lib.accLo (52 / 16) = 144 from rfl,show Lib.accHi (52 / 16) = 191 from rfl,show 52 % 8 = 4 from rfl] at hr
  rw [hr,hX]
  have ha0 := (hT.2 3 (by omega)).1
  have ha1 := (hT.2 3 (by omega)).2
  rw [show Lib.accLo 3 = 144 from rfl] at ha0
  rw [show Lib.accHi 3 = 191 from rfl] at ha1
  simp only [Nat.reduceMul,Nat.reduceAdd] at ha0 ha1
  have q := Blk.new w [u8 144,u8 191] 312
  have hE : Ext w (w.alloc (.cells #[u8 144,u8 191] 312)) := (Ext.refl _).alloc _
  simp [show shrI .u8 52 4 = 3 by decide,show andI .u8 52 7 = 4 by decide,show IntKind.i64.wrap 4 = 4 by decide,ha0,ha1]
  generalize (w.alloc (.cells #[.int .u8 144,.int .u8 191] 312)) = w1 at *
  unfold Lib.slowN
  by_cases g0 : s.size < 4
  ·have g0' : (s.size : Int) < 4 := by omega
   rw [if_pos g0]
   simp [g0']
   exact hE
  have g0' : ¬ (s.size : Int) < 4 := by omega
  rw [if_neg g0]
  have i1 := fun W => ix 1 (by omega) W
  rw [hx1] at i1
  simp only [Int.natCast_one] at i1
  by_cases g1 : x1.toNat < 144
  ·have g1' : (x1.toNat : Int) < 144 := by omega
   rw [if_pos (.inl g1)]
   simp [g0',i1,q.cell 0 _ rfl,g1']
   exact hE
  have g1' : ¬ (x1.toNat : Int) < 144 := by omega
  by_cases g2 : 191 < x1.toNat
  ·have g2' : (191 : Int) < x1.toNat := by omega
   rw [if_pos (.inr g2)]
   simp [g0',i1,q.cell 0 _ rfl,q.cell 1 _ rfl,g1',g2']
   exact hE
  have g2' : ¬ (191 : Int) < x1.toNat := by omega
  rw [if_neg (by omega)]
  rw [if_neg (by omega)]
  have i2 := fun W => ix 2 (by omega) W
  rw [hx2] at i2
  simp only [show ((2 : Nat) : Int) = 2 from rfl] at i2
  by_cases g3 : x2.toNat < 128
  ·have g3' : (x2.toNat : Int) < 128 := by omega
   rw [if_pos (.inl g3)]
   simp [g0',i1,q.cell 0 _ rfl,q.cell 1 _ rfl,g1',g2',i2,g3']
   exact hE
  have g3' : ¬ (x2.toNat : Int) < 128 := by omega
  by_cases g4 : 191 < x2.toNat
  ·have g4' : (191 : Int) < x2.toNat := by omega
   rw [if_pos (.inr g4)]
   simp [g0',i1,q.cell 0 _ rfl,q.cell 1 _ rfl,g1',g2',i2,g3',g4']
   exact hE
  have g4' : ¬ (191 : Int) < x2.toNat := by omega
  rw [if_neg (by omega)]
  rw [if_neg (by omega)]
  have i3 := fun W => ix 3 (by omega) W
  rw [hx3] at i3
  simp only [show ((3 : Nat) : Int) = 3 from rfl] at i3
  by_cases g5 : x3.toNat < 128
  ·have g5' : (x3.toNat : Int) < 128 := by omega
   rw [if_pos (.inl g5)]
   simp [g0',i1,q.cell 0 _ rfl,q.cell 1 _ rfl,g1',g2',i2,g3',g4',i3,g5']
   exact hE
  have g5' : ¬ (x3.toNat : Int) < 128 := by omega
  by_cases g6 : 191 < x3.toNat
  ·have g6' : (191 : Int) < x3.toNat := by omega
   rw [if_pos (.inr g6)]
   simp [g0',i1,q.cell 0 _ rfl,q.cell 1 _ rfl,g1',g2',i2,g3',g4',i3,g5',g6']
   exact hE
  have g6' : ¬ (191 : Int) < x3.toNat := by omega
  rw [if_neg (by omega)]
  simp [g0',i1,q.cell 0 _ rfl,q.cell 1 _ rfl,g1',g2',i2,g3',g4',i3,g5',g6']
  exact hE
 ·have hr := hres (by omega)
  rw [hX] at hr
  simp only [show Lib.accLo (4 / 16) = 128 from rfl,show Lib.accHi (4 / 16) = 191 from rfl,show 4 % 8 = 4 from rfl] at hr
  rw [hr,hX]
  have ha0 := (hT.2 0 (by omega)).1
  have ha1 := (hT.2 0 (by omega)).2
  rw [show Lib.accLo 0 = 128 from rfl] at ha0
  rw [show Lib.accHi 0 = 191 from rfl] at ha1
  simp only [Nat.mul_zero,Nat.zero_add] at ha0 ha1
  have q := Blk.new w [u8 128,u8 191] 312
  have hE : Ext w (w.alloc (.cells #[u8 128,u8 191] 312)) := (Ext.refl _).alloc _
  simp [show shrI .u8 4 4 = 0 by decide,show andI .u8 4 7 = 4 by decide,show IntKind.i64.wrap 4 = 4 by decide,ha0,ha1]
  generalize (w.alloc (.cells #[.int .u8 128,.int .u8 191] 312)) = w1 at *
  unfold Lib.slowN
  by_cases g0 : s.size < 4
  ·have g0' : (s.size : Int) < 4 := by omega
   rw [if_pos g0]
   simp [g0']
   exact hE
  have g0' : ¬ (s.size : Int) < 4 := by omega
  rw [if_neg g0]
  have i1 := fun W => ix 1 (by omega) W
  rw [hx1] at i1
  simp only [Int.natCast_one] at i1
  by_cases g1 : x1.toNat < 128
  ·have g1' : (x1.toNat : Int) < 128 := by omega
   rw [if_pos (.inl g1)]
   simp [g0',i1,q.cell 0 _ rfl,g1']
   exact hE
  have g1' : ¬ (x1.toNat : Int) < 128 := by omega
  by_cases g2 : 191 < x1.toNat
  ·have g2' : (191 : Int) < x1.toNat := by omega
   rw [if_pos (.inr g2)]
   simp [g0',i1,q.cell 0 _ rfl,q.cell 1 _ rfl,g1',g2']
   exact hE
  have g2' : ¬ (191 : Int) < x1.toNat := by omega
  rw [if_neg (by omega)]
  rw [if_neg (by omega)]
  have i2 := fun W => ix 2 (by omega) W
  rw [hx2] at i2
  simp only [show ((2 : Nat) : Int) = 2 from rfl] at i2
  by_cases g3 : x2.toNat < 128
  ·have g3' : (x2.toNat : Int) < 128 := by omega
   rw [if_pos (.inl g3)]
   simp [g0',i1,q.cell 0 _ rfl,q.cell 1 _ rfl,g1',g2',i2,g3']
   exact hE
  have g3' : ¬ (x2.toNat : Int) < 128 := by omega
  by_cases g4 : 191 < x2.toNat
  ·have g4' : (191 : Int) < x2.toNat := by omega
   rw [if_pos (.inr g4)]
   simp [g0',i1,q.cell 0 _ rfl,q.cell 1 _ rfl,g1',g2',i2,g3',g4']
   exact hE
  have g4' : ¬ (191 : Int) < x2.toNat := by omega
  rw [if_neg (by omega)]
  rw [if_neg (by omega)]
  have i3 := fun W => ix 3 (by omega) W
  rw [hx3] at i3
  simp only [show ((3 : Nat) : Int) = 3 from rfl] at i3
  by_cases g5 : x3.toNat < 128
  ·have g5' : (x3.toNat : Int) < 128 := by omega
   rw [if_pos (.inl g5)]
   simp [g0',i1,q.cell 0 _ rfl,q.cell 1 _ rfl,g1',g2',i2,g3',g4',i3,g5']
   exact hE
  have g5' : ¬ (x3.toNat : Int) < 128 := by omega
  by_cases g6 : 191 < x3.toNat
  ·have g6' : (191 : Int) < x3.toNat := by omega
   rw [if_pos (.inr g6)]
   simp [g0',i1,q.cell 0 _ rfl,q.cell 1 _ rfl,g1',g2',i2,g3',g4',i3,g5',g6']
   exact hE
  have g6' : ¬ (191 : Int) < x3.toNat := by omega
  rw [if_neg (by omega)]
  simp [g0',i1,q.cell 0 _ rfl,q.cell 1 _ rfl,g1',g2',i2,g3',g4',i3,g5',g6']
  exact hE
 ·have hr := hres (by omega)
  rw [hX] at hr
  simp only [show Lib.accLo (68 / 16) = 128 from rfl,show Lib.accHi (68 / 16) = 143 from rfl,show 68 % 8 = 4 from rfl] at hr
  rw [hr,hX]
  have ha0 := (hT.2 4 (by omega)).1
  have ha1 := (hT.2 4 (by omega)).2
  rw [show Lib.accLo 4 = 128 from rfl] at ha0
  rw [show Lib.accHi 4 = 143 from rfl] at ha1
  simp only [Nat.reduceMul,Nat.reduceAdd] at ha0 ha1
  have q := Blk.new w [u8 128,u8 143] 312
  have hE : Ext w (w.alloc (.cells #[u8 128,u8 143] 312)) := (Ext.refl _).alloc _
  simp [show shrI .u8 68 4 = 4 by decide,show andI .u8 68 7 = 4 by decide,show IntKind.i64.wrap 4 = 4 by decide,ha0,ha1]
  generalize (w.alloc (.cells #[.int .u8 128,.int .u8 143] 312)) = w1 at *
  unfold Lib.slowN
  by_cases g0 : s.size < 4
  ·have g0' : (s.size : Int) < 4 := by omega
   rw [if_pos g0]
   simp [g0']
   exact hE
  have g0' : ¬ (s.size : Int) < 4 := by omega
  rw [if_neg g0]
  have i1 := fun W => ix 1 (by omega) W
  rw [hx1] at i1
  simp only [Int.natCast_one] at i1
  by_cases g1 : x1.toNat < 128
  ·have g1' : (x1.toNat : Int) < 128 := by omega
   rw [if_pos (.inl g1)]
   simp [g0',i1,q.cell 0 _ rfl,g1']
   exact hE
  have g1' : ¬ (x1.toNat : Int) < 128 := by omega
  by_cases g2 : 143 < x1.toNat
  ·have g2' : (143 : Int) < x1.toNat := by omega
   rw [if_pos (.inr g2)]
   simp [g0',i1,q.cell 0 _ rfl,q.cell 1 _ rfl,g1',g2']
   exact hE
  have g2' : ¬ (143 : Int) < x1.toNat := by omega
  rw [if_neg (by omega)]
  rw [if_neg (by omega)]
  have i2 := fun W => ix 2 (by omega) W
  rw [hx2] at i2
  simp only [show ((2 : Nat) : Int) = 2 from rfl] at i2
  by_cases g3 : x2.toNat < 128
  ·have g3' : (x2.toNat : Int) < 128 := by omega
   rw [if_pos (.inl g3)]
   simp [g0',i1,q.cell 0 _ rfl,q.cell 1 _ rfl,g1',g2',i2,g3']
   exact hE
  have g3' : ¬ (x2.toNat : Int) < 128 := by omega
  by_cases g4 : 191 < x2.toNat
  ·have g4' : (191 : Int) < x2.toNat := by omega
   rw [if_pos (.inr g4)]
   simp [g0',i1,q.cell 0 _ rfl,q.cell 1 _ rfl,g1',g2',i2,g3',g4']
   exact hE
  have g4' : ¬ (191 : Int) < x2.toNat := by omega
  rw [if_neg (by omega)]
  rw [if_neg (by omega)]
  have i3 := fun W => ix 3 (by omega) W
  rw [hx3] at i3
  simp only [show ((3 : Nat) : Int) = 3 from rfl] at i3
  by_cases g5 : x3.toNat < 128
  ·have g5' : (x3.toNat : Int) < 128 := by omega
   rw [if_pos (.inl g5)]
   simp [g0',i1,q.cell 0 _ rfl,q.cell 1 _ rfl,g1',g2',i2,g3',g4',i3,g5']
   exact hE
  have g5' : ¬ (x3.toNat : Int) < 128 := by omega
  by_cases g6 : 191 < x3.toNat
  ·have g6' : (191 : Int) < x3.toNat := by omega
   rw [if_pos (.inr g6)]
   simp [g0',i1,q.cell 0 _ rfl,q.cell 1 _ rfl,g1',g2',i2,g3',g4',i3,g5',g6']
   exact hE
  have g6' : ¬ (191 : Int) < x3.toNat := by omega
  rw [if_neg (by omega)]
  simp [g0',i1,q.cell 0 _ rfl,q.cell 1 _ rfl,g1',g2',i2,g3',g4',i3,g5',g6']
  exact hE
end Go.Proofs