/-
 Contracts of the functions that the law reaches,step by step.
-/
import Derived.Test.YtdflcfoalhhjlaaGreatGcA
import Derived.Lib.AppendZerosOnto
namespace Go.Proofs
open Pk
set_option maxRecDepth 10000
def cmpI (a b : Int) : Int := if a < b then -1 else if b < a then 1 else 0
def orI : List Int → Int
 | [] => 0
 | x :: xs => if x = 0 then orI xs else x
theorem orI_zero : ∀ {xs : List Int}, (∀ i (h : i < xs.length), xs[i] = 0) → orI xs = 0
 | [],_ => rfl
 | x :: xs, h => by
  have h0 : x = 0 := h 0 (by simp)
  rw [orI,if_pos h0]
  exact orI_zero fun i hi => h (i + 1) (by simpa using hi)
theorem orI_at : ∀ {xs : List Int} {i : Nat} (h : i < xs.length), (∀ j (hj : j < i), xs[j]'(by omega) = 0) → xs[i] ≠ 0 → orI xs = xs[i]
 | [],i,h,_,_ => by simp at h
 | x :: xs, 0, _, _, h2 => by
  have h3 : ¬ x = 0 := h2
  simp only [orI,if_neg h3]; rfl
 | x :: xs, i + 1, h, h1, h2 => by
  have h0 : x = 0 := h1 0 (by omega)
  rw [orI,if_pos h0]
  have := orI_at (xs := xs) (i := i) (by simpa using h) (fun j hj => h1 (j + 1) (by omega)) (by simpa using h2)
  simpa using this
theorem nan64_c (x : Int) (w : World) : FN Tryz.prog 105 [.int .u64 x] w fun e w' => e = .returned (.bool false) ∧ w' = w := by
 refine FN_enter Tryz.func105 rfl rfl (by kernel_rfl) ?_
 simp
theorem cmp64_c (a b : Int) (w : World) : FN Tryz.prog 54 [.int .u64 a, .int .u64 b] w fun e w' => e = .returned (i64 (cmpI a b)) ∧ w' = w := by
 refine FN_enter Tryz.func54 rfl rfl (by kernel_rfl) ?_
 simp
 refine FN.mono (nan64_c a w) ?_
 rintro _ _ ⟨rfl,rfl⟩
 rename_i w
 simp
 refine FN.mono (nan64_c b w) ?_
 rintro _ _ ⟨rfl,rfl⟩
 by_cases h1 : a < b
 ·simp [cmpI,h1]
 ·by_cases h2 : b < a
  ·simp [cmpI,h1,h2]
  ·simp [cmpI,h1,h2]
theorem nan32_c (x : Int) (w : World) : FN Tryz.prog 107 [.int .u32 x] w fun e w' => e = .returned (.bool false) ∧ w' = w := by
 refine FN_enter Tryz.func107 rfl rfl (by kernel_rfl) ?_
 simp
theorem cmp32_c (a b : Int) (w : World) : FN Tryz.prog 56 [.int .u32 a, .int .u32 b] w fun e w' => e = .returned (i64 (cmpI a b)) ∧ w' = w := by
 refine FN_enter Tryz.func56 rfl rfl (by kernel_rfl) ?_
 simp
 refine FN.mono (nan32_c a w) ?_
 rintro _ _ ⟨rfl,rfl⟩
 rename_i w
 simp
 refine FN.mono (nan32_c b w) ?_
 rintro _ _ ⟨rfl,rfl⟩
 by_cases h1 : a < b
 ·simp [cmpI,h1]
 ·by_cases h2 : b < a
  ·simp [cmpI,h1,h2]
  ·simp [cmpI,h1,h2]
theorem nanI_c (x : Int) (w : World) : FN Tryz.prog 106 [.int .i64 x] w fun e w' => e = .returned (.bool false) ∧ w' = w := by
 refine FN_enter Tryz.func106 rfl rfl (by kernel_rfl) ?_
 simp
theorem cmpI_c (a b : Int) (w : World) : FN Tryz.prog 55 [.int .i64 a, .int .i64 b] w fun e w' => e = .returned (i64 (cmpI a b)) ∧ w' = w := by
 refine FN_enter Tryz.func55 rfl rfl (by kernel_rfl) ?_
 simp
 refine FN.mono (nanI_c a w) ?_
 rintro _ _ ⟨rfl,rfl⟩
 rename_i w
 simp
 refine FN.mono (nanI_c b w) ?_
 rintro _ _ ⟨rfl,rfl⟩
 by_cases h1 : a < b
 ·simp [cmpI,h1]
 ·by_cases h2 : b < a
  ·simp [cmpI,h1,h2]
  ·simp [cmpI,h1,h2]
theorem or_c {w : World} {v : Value} {xs : List Int} (h : Sl w 1 v xs.length (xs.map i64)) (hb : xs.length ≤ 1000000) : FN Tryz.prog 53 [v] w fun e w' => e = .returned (i64 (orI xs)) ∧ w' = w := by
 refine FN_enter Tryz.func53 rfl rfl (by kernel_rfl) ?_
 have hlen := fun ty W => h.isLen (P := Tryz.prog) (t := 188) (by simp) ty W
 simp [hlen]
 refine WC_loop (fun k ρ ds w' => ∃ i : Nat,k = xs.length - i ∧ i ≤ xs.length ∧ ρ 3 = i64 0 ∧ ρ 6 = v ∧ ρ 7 = i64 xs.length ∧ ρ 8 = i64 i ∧ ds = [] ∧ w' = w ∧ (∀ j (hj : j < xs.length),j < i → xs[j] = 0)) xs.length ⟨0,by simp⟩ ?_
 rintro k ρ ds w1 ⟨i,rfl,hi,e3,e6,e7,e8,rfl,rfl,hz⟩
 by_cases hlt : i < xs.length
 ·have a := h.at_ i (i64 xs[i]) (by rw [List.getElem?_map,List.getElem?_eq_getElem hlt]; rfl)
  have ix := h.index (P := Tryz.prog) (t := 188) (by simp) .i64 i (by omega) (by omega) w1
  simp at ix
  by_cases h0 : xs[i] = 0
  ·simp [e3,e6,e7,e8,hlt,ix,a,h0]
   refine ⟨xs.length - (i + 1),by omega,i + 1,rfl,by omega,by rw [wrap64 _ (by omega) (by omega)]; rfl,fun j hj h1 => ?_⟩
   by_cases e : j = i
   ·subst e; exact h0
   ·exact hz j hj (by omega)
  ·have hbn : (xs[i] != 0) = true := by simpa using h0
   simp [e3,e6,e7,e8,hlt,ix,a,hbn]
   exact (orI_at hlt (fun j hj => hz j (by omega) hj) h0).symm
 ·have : i = xs.length := by omega
  subst this
  simp [e3,e7,e8]
  exact (orI_zero fun j hj => hz j hj hj).symm
def orderV (a b : Ct) : Int := orI [cmpI a.fr b.fr,cmpI a.to' b.to',cmpI a.sf b.sf]
def aheadP (a b : Ct) : Prop := a.fr < b.fr ∨ a.fr = b.fr ∧ (a.to' < b.to' ∨ a.to' = b.to' ∧ a.sf < b.sf)
instance (a b : Ct) : Decidable (aheadP a b) := by unfold aheadP; infer_instance
theorem orderV_neg (a b : Ct) : orderV a b < 0 ↔ aheadP a b := by
 unfold orderV aheadP
 simp only [orI,cmpI]
 repeat' split
 all_goals omega
theorem corder_c (a b : Ct) (w : World) : FN Tryz.prog 76 [ctV a, ctV b] w fun e w' => e = .returned (i64 (orderV a b)) ∧ Ext w w' := by
 refine FN_enter Tryz.func76 rfl rfl (by kernel_rfl) ?_
 have hE : Ext w ((w.alloc (.cells #[u32 a.fr,u32 a.to',u64 a.sf,u64 a.su,u64 a.rate] 64)).alloc (.cells #[u32 b.fr,u32 b.to',u64 b.sf,u64 b.su,u64 b.rate] 64)) := ((Ext.refl w).alloc _).alloc _
 have hA := c5_blk ((Blk.new w (ctC a) 64).ext ((Ext.refl _).alloc (.cells #[u32 b.fr,u32 b.to',u64 b.sf,u64 b.su,u64 b.rate] 64)))
 have hB := c5_blk (Blk.new (w.alloc (.cells #[u32 a.fr,u32 a.to',u64 a.sf,u64 a.su,u64 a.rate] 64)) (ctC b) 64)
 rw [show (w.alloc (.cells #[u32 a.fr,u32 a.to',u64 a.sf,u64 a.su,u64 a.rate] 64)).heap.size = w.heap.size + 1 by simp] at hB
 rw [show (ctC a).toArray = #[u32 a.fr,u32 a.to',u64 a.sf,u64 a.su,u64 a.rate] from rfl] at hA
 rw [show (ctC b).toArray = #[u32 b.fr,u32 b.to',u64 b.sf,u64 b.su,u64 b.rate] from rfl] at hB
 simp
 generalize ((w.alloc (.cells #[u32 a.fr,u32 a.to',u64 a.sf,u64 a.su,u64 a.rate] 64)).alloc (.cells #[u32 b.fr,u32 b.to',u64 b.sf,u64 b.su,u64 b.rate] 64)) = W at *
 refine WC_drawC 16 (.F 0 <| .F 1 <| .F 2 <| .F 3 <| .F 5 <| .F 6 <| .F 7 <| .F 8 <| .F 10 <| .F 11 <| .F 12 <| .F 13 <| .F 14 <| .F 15 <| .C 4 <| .C 9 <| .Z) (fun _ => false) rfl (by kernel_rfl) fun W1 hW => ?_
 have hWE : Ext W W1 := hW ▸ Ext.drew W
 have gA := hA.ext hWE
 have gB := hB.ext hWE
 simp [gA.c0,gA.c1,gA.c2,gB.c0,gB.c1,gB.c2]
 refine FN.mono (cmp32_c a.fr b.fr W1) ?_
 rintro _ _ ⟨rfl,rfl⟩
 rename_i W1
 simp
 refine KR_same ?_
 simp
 refine FN.mono (cmp32_c a.to' b.to' W1) ?_
 rintro _ _ ⟨rfl,rfl⟩
 rename_i W1
 simp
 refine KR_same ?_
 simp
 refine FN.mono (cmp64_c a.sf b.sf W1) ?_
 rintro _ _ ⟨rfl,rfl⟩
 rename_i W1
 simp
 have hs : Sl (W1.alloc (.cells #[i64 (cmpI a.fr b.fr),i64 (cmpI a.to' b.to'),i64 (cmpI a.sf b.sf)] 3)) 1 (.slice (some ⟨W1.heap.size,0,none⟩) 3 3) 3 ([cmpI a.fr b.fr,cmpI a.to' b.to',cmpI a.sf b.sf].map i64) := Sl.made W1 [i64 (cmpI a.fr b.fr),i64 (cmpI a.to' b.to'),i64 (cmpI a.sf b.sf)] 3 1 3 rfl
 have hE2 := (Ext.refl W1).alloc (.cells #[i64 (cmpI a.fr b.fr),i64 (cmpI a.to' b.to'),i64 (cmpI a.sf b.sf)] 3)
 refine FN.mono (or_c (xs := [cmpI a.fr b.fr,cmpI a.to' b.to',cmpI a.sf b.sf]) hs (by simp)) ?_
 rintro _ W2 ⟨rfl,hw⟩
 subst hw
 simp [orderV]
 exact (hE.trans hWE).trans hE2
end Go.Proofs
namespace Go.Proofs
open Pk
set_option maxRecDepth 10000
def kOf (l : List Ct) (c : Ct) : Nat := (l.takeWhile fun x => decide (aheadP x c)).length
theorem aheadP_trans {a b c : Ct} (h : aheadP a b) (k : aheadP b c) : aheadP a c := by unfold aheadP at *; omega
theorem kOf_le (l : List Ct) (c : Ct) : kOf l c ≤ l.length := by unfold kOf; exact (List.takeWhile_prefix _).length_le
theorem kOf_lt : ∀ {l : List Ct} {c : Ct}, l.Pairwise aheadP → ∀ {i : Nat} (h : i < l.length), i < kOf l c ↔ aheadP l[i] c
 | [],c,_,i,h => by simp at h
 | x :: l, c, hs, i, h => by
  rw [List.pairwise_cons] at hs
  unfold kOf
  by_cases hx : aheadP x c
  ·rw [List.takeWhile_cons_of_pos (by simpa using hx)]
   cases i with
   | zero => simp [hx]
   | succ i =>
    have := kOf_lt (c := c) hs.2 (i := i) (by simpa using h)
    simp
    exact this
  ·rw [List.takeWhile_cons_of_neg (by simpa using hx)]
   simp
   cases i with
   | zero => simpa using hx
   | succ i =>
    intro ha
    exact hx (aheadP_trans (hs.1 _ (List.getElem_mem (by simpa using h))) (by simpa using ha))
theorem bs_c {w : World} {v : Value} {l : List Ct} (h : Sl w 5 v l.length (l.flatMap ctC)) (hb : l.length ≤ 1000000) (hs : l.Pairwise aheadP) (c : Ct) :
  FN Tryz.prog 75 [v,ctV c,.func (.func 76) #[] #[]] w fun e w' => ∃ b,e = .returned (.tuple #[i64 (kOf l c),.bool b]) ∧ Ext w w' := by
 refine FN_enter Tryz.func75 rfl rfl (by kernel_rfl) ?_
 have hlen := fun ty W => h.isLen (P := Tryz.prog) (t := 137) (by simp) ty W
 have hE := (Ext.refl w).alloc (.cells #[u32 c.fr,u32 c.to',u64 c.sf,u64 c.su,u64 c.rate] 64)
 have hC := c5_blk (Blk.new w (ctC c) 64)
 rw [show (ctC c).toArray = #[u32 c.fr,u32 c.to',u64 c.sf,u64 c.su,u64 c.rate] from rfl] at hC
 have hkl := kOf_le l c
 simp [hlen]
 generalize (w.alloc (.cells #[u32 c.fr,u32 c.to',u64 c.sf,u64 c.su,u64 c.rate] 64)) = W at *
 refine WC_loop (fun k ρ ds w' => ∃ i j : Nat,k = j - i ∧ i ≤ kOf l c ∧ kOf l c ≤ j ∧ j ≤ l.length ∧ ρ 0 = v ∧ ρ 2 = .func (.func 76) #[] #[] ∧ ρ 4 = ptr w.heap.size ∧ ρ 8 = i64 l.length ∧ ρ 9 = i64 i ∧ ρ 10 = i64 j ∧ ds = [] ∧ Ext W w') l.length ⟨0,l.length,by simp,by simp,hkl,by simp,by simp,by simp,by simp,by simp,by simp,by simp,rfl,Ext.refl _⟩ ?_
 rintro k ρ ds w1 ⟨i,j,rfl,hi,hj,hjl,e0,e2,e4,e8,e9,e10,rfl,hE1⟩
 by_cases hlt : i < j
 ·simp [e9,e10,hlt]
  refine WC_drawC 6 (.F 0 <| .F 1 <| .F 2 <| .F 3 <| .F 4 <| .F 5 <| .Z) (fun _ => false) rfl (by kernel_rfl) fun W1 hW1 => ?_
  have hWE : Ext w1 W1 := hW1 ▸ Ext.drew w1
  have hX := hE1.trans hWE
  obtain ⟨m,hm⟩ : ∃ m,m = (i + j) / 2 := ⟨_,rfl⟩
  have hmid : IntKind.i64.wrap (shrI IntKind.u64 (IntKind.u64.wrap (IntKind.i64.wrap ((i : Int) + (j : Int)))) 1) = (m : Int) := by
   rw [wrap64 ((i : Int) + j) (by omega) (by omega),wrap64u _ (by omega) (by omega)]
   have : shrI IntKind.u64 ((i : Int) + j) 1 = (m : Int) := by
    show ((i : Int) + (j : Int)).fdiv 2 = (m : Int)
    rw [Int.fdiv_eq_ediv_of_nonneg _ (by omega)]
    omega
   rw [this,wrap64 _ (by omega) (by omega)]
  have hml : m < l.length := by omega
  have g := (ctRow h hml).ext (hE.trans hX)
  have ix := h.index (P := Tryz.prog) (t := 137) (by simp) .i64 m (by omega) (by omega) W1
  have gc := hC.ext hX
  have g1 := gc.c1
  have g2 := gc.c2
  have g3 := gc.c3
  have g4 := gc.c4
  simp only [Nat.zero_add] at g1 g2 g3 g4
  simp at ix
  simp [e0,e2,e4,hmid,ix,g.c0,g.c1,g.c2,g.c3,g.c4,gc.c0,g1,g2,g3,g4]
  refine FN.mono (corder_c l[m] c W1) ?_
  rintro _ W2 ⟨rfl,h2⟩
  have hk := kOf_lt (c := c) hs hml
  by_cases ha : aheadP l[m] c
  ·have hn := (orderV_neg _ _).2 ha
   have := hk.2 ha
   simp [hn,e0,e2,e4,e8,e10]
   exact ⟨j - (m + 1),by omega,m + 1,j,rfl,by omega,by omega,by omega,by rw [wrap64 _ (by omega) (by omega)]; rfl,rfl,hX.trans h2⟩
  ·have hn : ¬ orderV l[m] c < 0 := fun hn => ha ((orderV_neg _ _).1 hn)
   have : ¬ m < kOf l c := fun h => ha (hk.1 h)
   simp [hn,e0,e2,e4,e8,e9]
   exact ⟨m - i,by omega,i,m,rfl,by omega,by omega,by omega,rfl,rfl,hX.trans h2⟩
 ·have hij : i = kOf l c := by omega
  simp [e9,e10,hlt]
  refine WC_drawC 15 (.F 0 <| .F 1 <| .F 2 <| .F 3 <| .F 4 <| .F 5 <| .F 6 <| .F 7 <| .F 8 <| .F 9 <| .F 10 <| .C 11 <| .F 12 <| .F 13 <| .F 14 <| .Z) (fun _ => false) rfl (by kernel_rfl) fun W1 hW1 => ?_
  have hWE : Ext w1 W1 := hW1 ▸ Ext.drew w1
  have hX := hE1.trans hWE
  by_cases hin : i < l.length
  ·have g := (ctRow h hin).ext (hE.trans hX)
   have ix := h.index (P := Tryz.prog) (t := 137) (by simp) .i64 i (by omega) (by omega) W1
   have gc := hC.ext hX
   have g1 := gc.c1
   have g2 := gc.c2
   have g3 := gc.c3
   have g4 := gc.c4
   simp only [Nat.zero_add] at g1 g2 g3 g4
   simp at ix
   simp [e0,e2,e4,e8,e9,hin,ix,g.c0,g.c1,g.c2,g.c3,g.c4,gc.c0,g1,g2,g3,g4]
   refine FN.mono (corder_c l[i] c W1) ?_
   rintro _ W2 ⟨rfl,h2⟩
   simp
   refine KR_ext h2 ?_
   simp [beq_dec,e9,hij]
   exact ⟨(Decidable.em _).symm,(hE.trans hX).trans h2⟩
  ·simp [e8,e9,hin]
   exact ⟨by rw [hij],hE.trans hX⟩
theorem ct_one (z : Ct) (u : Value) (h : u ∈ ctC z) : u.oneCell' = true := by
 simp at h
 rcases h with rfl | rfl | rfl | rfl | rfl <;> rfl
@[simp] theorem r_cap_slice (P : Program) (w : World) (t ty : TypeId) (a : Option Addr) (n c : Nat) (h : isS (P.underlying t) = true) : (Builtin.cap_ #[t] ty #[.slice a n c]).run P w = .ok (.int .i64 c) w := by
 have h' := run_und (isS_inv h) w
 simp [Builtin.cap_,h',goInt]
theorem sl_h {P : Program} {t : TypeId} (hs : isS (P.underlying t) = true) (a : Option Addr) (n c : Nat) (k : IntKind) (h : Int) (h0 : 0 ≤ h) (h1 : h ≤ c) (W : World) :
  (Instr.sliceAt t (.slice a n c) none (some (.int k h)) none).run P W = ((Go.sizeOf (elemT (P.underlying t))).run P W).andThen fun s w => .ok (sliced a 0 h.toNat c s) w := by
 rw [run_sliceAt_slice W t _ _ _ _ (elem_of hs),elemT_of hs,run_slice_h W t a n c (elem_of hs) k h h0 h1]
theorem len_take_le {α : Type} (bs : List (List α)) (i : Nat) : (bs.take i).flatten.length ≤ bs.flatten.length := by
 have : bs.flatten = (bs.take i).flatten ++ (bs.drop i).flatten := by rw [← List.flatten_append,List.take_append_drop]
 rw [this,List.length_append]; omega
def btot {α : Type} (bs : List (List α)) (i : Nat) : Nat := (bs.take i).flatten.length
theorem btot_le {α : Type} (bs : List (List α)) (i : Nat) : btot bs i ≤ bs.flatten.length := len_take_le bs i
theorem btake {α : Type} (bs : List (List α)) {i : Nat} (h : i < bs.length) : (bs.take (i + 1)).flatten = (bs.take i).flatten ++ bs[i] := by
 have : bs.take (i + 1) = bs.take i ++ [bs[i]] := by rw [List.take_add_one,List.getElem?_eq_getElem h]; rfl
 rw [this,List.flatten_append]
 simp
theorem btot_next {α : Type} (bs : List (List α)) {i : Nat} (h : i < bs.length) : btot bs (i + 1) = btot bs i + bs[i].length := by
 unfold btot
 rw [btake bs h,List.length_append]
theorem btot_all {α : Type} (bs : List (List α)) : btot bs bs.length = bs.flatten.length := by unfold btot; rw [List.take_length]
def ccat_Rows (W : World) (vs : List Value) (bs : List (List Ct)) : Prop := vs.length = bs.length ∧ ∀ (i : Nat) (x : Value) (b : List Ct),vs[i]? = some x → bs[i]? = some b → Sl W 5 x b.length (b.flatMap ctC)
theorem ccat_grow (n : Nat) (hn : n ≤ 1000000) (w : World) : FN Tryz.prog 115 [.slice none 0 0, i64 n] w fun e w' => ∃ v, e = .returned v ∧ w'.ownsRow w.heap.size 64 5 v 0 [] ∧ Ext w w' := by
 refine FN_enter Tryz.func115 rfl rfl (by kernel_rfl) ?_
 have h1 : ¬ ((n : Int) < 0) := by omega
 have q0 : IntKind.i64.wrap 0 = 0 := by decide
 have q1 : IntKind.i64.wrap (n : Int) = n := wrap64 _ (by omega) (by omega)
 by_cases h0 : n = 0
 ·subst h0
  simp [q0]
  exact ⟨World.ownsRow_nil w _ _ _,Ext.refl w⟩
 ·have hn0 : 0 < n := by omega
  have e0 := (Sl.nil w 5 0).sliceH (P := Tryz.prog) (t := 137) (by simp) .i64 0 (by omega) (by omega) w
  simp [slcH] at e0
  obtain ⟨⟨i,z,hi1,hi2,hi3,hi4,hi5⟩,hsz⟩ := elOk_inv (show elOk (Tryz.prog.info? 64) 5 = true by kernel_rfl)
  have hold : (Builtin.firstCells i.size 0 (.slice none 0 0)).run Tryz.prog w.drew = .ok ([] : List Value).toArray w.drew := run_firstCells_none _ _ _ _ _
  have hfit : Builtin.nextslicecap (0 + n) 0 * i.bytes ≤ 281474976710656 := growslice_fits (by omega) (by have := Nat.mul_le_mul (show 0 + n ≤ 1048576 by omega) hi5; omega)
  have hr := Go.Lib.run_append_grow_zeros (P := Tryz.prog) w 137 3 137 64 i z .i64 .i64 (by simp) (by simp) hi1 hi2 none 0 0 [] hold n hn0 (by omega) (by omega) (by omega) (by have := Nat.mul_le_mul (show n ≤ 1048576 by omega) hi5; omega) hfit
  rw [Nat.zero_add] at hr
  have hcap := grownCap_ge w n 0 64
  have hcapm := grownCap_le_maxLen w n 0 64 (by simp only [maxLen]; omega)
  generalize grownCap w n 0 64 = cap at *
  obtain ⟨cur,hcur⟩ : ∃ cur,cur = (([] : List Value).toArray ++ Builtin.zeroCells z.cells n ++ Builtin.zeroCells z.cells (cap - n)) := ⟨_,rfl⟩
  have hcs : cur.size = cap * 5 := by
   rw [hcur]
   have zs : ∀ m,(Builtin.zeroCells z.cells m).size = m * 5 := fun m => by rw [size_zeroCells,hi4]
   rw [Array.size_append,Array.size_append,zs,zs]
   simp
   omega
  rw [← hcur] at hr
  have hE : Ext w (w.drew.alloc (.cells cur 64)) := (Ext.drew w).alloc _
  have hob : (w.drew.alloc (.cells cur 64)).heap[w.heap.size]? = some (.cells cur 64 (0,0)) := by simpa using World.alloc_heap_new w.drew (.cells cur 64)
  have e1 := sl_h (P := Tryz.prog) (t := 137) (by simp) (some ⟨w.heap.size,0,none⟩) n cap .i64 0 (by omega) (by omega) (w.drew.alloc (.cells cur 64))
  simp [sliced] at e1
  simp [h1,q0,q1,hn0,e0,hr,e1]
  exact ⟨⟨rfl,.inr ⟨w.heap.size,cap,cur,rfl,Nat.le_refl _,hob,Nat.zero_le _,hcapm,hcs,by simp⟩⟩,hE⟩
set_option maxHeartbeats 1000000 in
theorem ccat_c {w : World} {v : Value} {vs : List Value} {bs : List (List Ct)} (h : Sl w 1 v vs.length vs) (hv : ccat_Rows w vs bs) (hl : vs.length ≤ 1000000) (hb : bs.flatten.length ≤ 1000000) :
  FN Tryz.prog 77 [v] w fun e w' => ∃ v',e = .returned v' ∧ w'.ownsRow w.heap.size 64 5 v' bs.flatten.length (bs.flatten.flatMap ctC) ∧ Ext w w' := by
 refine FN_enter Tryz.func77 rfl rfl (by kernel_rfl) ?_
 have hlen := fun ty W => h.isLen (P := Tryz.prog) (t := 198) (by simp) ty W
 have hlb := hv.1
 have ix := fun (i : Nat) (hi : i < vs.length) W => h.index (P := Tryz.prog) (t := 198) (by simp) .i64 i (by omega) (by omega) W
 simp [hlen]
 refine WC_loop (fun k ρ ds w' => ∃ i : Nat,k = vs.length - i ∧ i ≤ vs.length ∧ ρ 0 = v ∧ ρ 3 = i64 (btot bs i) ∧ ρ 9 = v ∧ ρ 10 = i64 vs.length ∧ ρ 11 = i64 i ∧ ds = [] ∧ w' = w) vs.length ⟨0,by simp,by simp,by simp,by simp [btot],by simp,by simp,by simp,rfl,rfl⟩ ?_
 rintro k ρ ds w1 ⟨i,rfl,hi,e0,e3,e9,e10,e11,rfl,rfl⟩
 by_cases hlt : i < vs.length
 ·have hib : i < bs.length := by omega
  have hq := List.getElem?_eq_getElem hlt
  have hqb := List.getElem?_eq_getElem hib
  have hx := hv.2 i _ _ hq hqb
  have hxl := fun ty W => hx.isLen (P := Tryz.prog) (t := 137) (by simp) ty W
  have a := h.at_ i vs[i] hq
  have ix1 := ix i hlt w1
  simp at ix1
  have hle := btot_le bs (i + 1)
  have hnx := btot_next bs hib
  have wq : IntKind.i64.wrap ((btot bs i : Int) + (bs[i].length : Int)) = (btot bs (i + 1) : Int) := by rw [wrap64 _ (by omega) (by omega)]; omega
  have hneg : ¬ ((btot bs (i + 1) : Int) < 0) := by omega
  simp [e0,e3,e9,e10,e11,hlt,ix1,a,hxl,wq,hneg]
  exact ⟨vs.length - (i + 1),by omega,i + 1,rfl,by omega,rfl,by rw [wrap64 _ (by omega) (by omega)]; rfl⟩
 ·have : i = vs.length := by omega
  subst this
  simp [e3,e10,e11]
  have hbb := btot_le bs vs.length
  refine FN.mono (ccat_grow (btot bs vs.length) (by omega) w1) ?_
  rintro _ w2 ⟨u0,rfl,ho0,hE0⟩
  simp [e0,hlen]
  refine WC_loop (fun k ρ ds w' => ∃ (i : Nat) (u : Value), k = vs.length - i ∧ i ≤ vs.length ∧ ρ 6 = u ∧ ρ 25 = v ∧ ρ 26 = i64 vs.length ∧ ρ 27 = i64 i ∧ ds = [] ∧ Ext w1 w' ∧ w'.ownsRow w1.heap.size 64 5 u (btot bs i) ((bs.take i).flatten.flatMap ctC)) vs.length
   ⟨0,u0,by simp,by simp,by simp,by simp,by simp,by simp,rfl,hE0,by simpa [btot] using ho0⟩ ?_
  rintro k ρ ds w3 ⟨i,u,rfl,hi,e6,e25,e26,e27,rfl,hE,ho⟩
  by_cases hlt : i < vs.length
  ·have hib : i < bs.length := by omega
   have hq := List.getElem?_eq_getElem hlt
   have hqb := List.getElem?_eq_getElem hib
   have hx := (hv.2 i _ _ hq hqb).ext hE
   have a := (h.ext hE).at_ i vs[i] hq
   have ix1 := ix i hlt w3
   simp at ix1
   have hle := btot_le bs (i + 1)
   have hnx := btot_next bs hib
   have hsz := hE.size
   obtain ⟨v',w4,hr,ho4,hM4,-⟩ := append_own (P := Tryz.prog) (t := 137) (ty := 137) (e := 64) (s := 5) (by simp) (by simp) (by kernel_rfl) ho hx (fun u hu => by obtain ⟨z,-,hz⟩ := List.mem_flatMap.1 hu; exact ct_one z u hz) (by omega) hsz
   simp [e6,e25,e26,e27,hlt,ix1,a,hr]
   refine ⟨vs.length - (i + 1), by omega, i + 1, rfl, by omega, by rw [wrap64 _ (by omega) (by omega)]; rfl, ?_, ?_⟩
   ·exact ((hE.mod (S := fun k => w1.heap.size ≤ k)).trans (hM4.weaken fun k hk => by have := own_ge ho hk.1; omega)).ext fun _ h => h
   ·rw [btake bs hib,hnx,List.flatMap_append]
    exact ho4
  ·have : i = vs.length := by omega
   subst this
   simp [e6,e26,e27]
   rw [hlb,btot_all,List.take_length] at ho
   refine ⟨?_,hE⟩
   simpa using ho
end Go.Proofs