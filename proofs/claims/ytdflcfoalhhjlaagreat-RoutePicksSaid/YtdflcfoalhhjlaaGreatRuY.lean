/-
 Contracts of the functions that the law reaches,step by step.
-/
import Derived.Test.YtdflcfoalhhjlaaGreatRpA
namespace Go.Proofs
open Pk St
set_option maxRecDepth 10000
def RoI (base : Nat) (v : Value) (N : Nat) (F : Nat → Wy × Nat) (a m b : Nat) (w : World) (k : Nat) (ρ : Env) (ds : List Deferred) (W : World) : Prop :=
 ∃ (i j : Nat) (G : Nat → Wy × Nat),(k = i + j ∧ 0 < i ∧ 0 < j ∧ i ≤ m ∧ a ≤ m - i ∧ m + j ≤ b) ∧ (ρ 0 = v ∧ ρ 2 = i64 m ∧ ρ 4 = (Value.func (.func 62) #[] #[]) ∧ ρ 10 = i64 i ∧ ρ 11 = i64 j) ∧ ds = [] ∧ RF W base v N G ∧ rot G (m - i) m (m + j) = rot F a m b ∧ PM G F N ∧ Mod (fun k => k = slB v) w W
set_option maxHeartbeats 2000000 in
theorem rotate_c {w : World} {base N a m b : Nat} {v : Value} {F : Nat → Wy × Nat} (h : RF w base v N F) (ham : a < m) (hmb : m < b) (hb : b ≤ N) (hN : N ≤ 1000) : FN Tryz.prog 153 [v, i64 a, i64 m, i64 b, (Value.func (.func 62) #[] #[])] w fun e w' => (∃ u, e = .returned u) ∧ RF w' base v N (rot F a m b) ∧ PM (rot F a m b) F N ∧ Mod (fun k => k = slB v) w w' := by
 refine FN_enter Tryz.func153 rfl rfl (by kernel_rfl) ?_
 have s1 : IntKind.i64.wrap ((m : Int) - (a : Int)) = ((m - a : Nat) : Int) := by rw [wrap64 _ (by omega) (by omega)]; omega
 have s2 : IntKind.i64.wrap ((b : Int) - (m : Int)) = ((b - m : Nat) : Int) := by rw [wrap64 _ (by omega) (by omega)]; omega
 simp [s1,s2]
 refine WC_loop (RoI base v N F a m b w) (m - a + (b - m)) ⟨m - a, b - m, F, ⟨rfl, by omega, by omega, by omega, by omega, by omega⟩, by simp, rfl, h, by
  rw [show m - (m - a) = a by omega,show m + (b - m) = b by omega],PM.refl _ _,Mod.refl _ _⟩ ?_
 rintro k ρ ds W0 ⟨i,j,G,⟨rfl,hi,hj,him,hai,hjb⟩,⟨e0,e2,e4,e10,e11⟩,rfl,hR,hG,hP,hM⟩
 have mi : IntKind.i64.wrap ((m : Int) - (i : Int)) = ((m - i : Nat) : Int) := by rw [wrap64 _ (by omega) (by omega)]; omega
 rcases Nat.lt_trichotomy i j with hij | hij | hij
 ·have hne : ((i : Int) != (j : Int)) = true := by simp; omega
  have hgt : ¬ (j : Int) < (i : Int) := by omega
  have hgt' : ¬ j < i := by omega
  have q1 : IntKind.i64.wrap ((m : Int) + (j : Int)) = ((m + j : Nat) : Int) := by rw [wrap64 _ (by omega) (by omega)]; omega
  have q2 : IntKind.i64.wrap (((m + j : Nat) : Int) - (i : Int)) = ((m + j - i : Nat) : Int) := by rw [wrap64 _ (by omega) (by omega)]; omega
  have q2' : IntKind.i64.wrap ((m : Int) + (j : Int) - (i : Int)) = ((m + j - i : Nat) : Int) := by rw [wrap64 _ (by omega) (by omega)]; omega
  have q3 : IntKind.i64.wrap ((j : Int) - (i : Int)) = ((j - i : Nat) : Int) := by rw [wrap64 _ (by omega) (by omega)]; omega
  simp [e0,e2,e4,e10,e11,hne,hgt,mi,q1,q2']
  refine FN.mono (swapr_c (a := m - i) (b := m + j - i) (n := i) hR (by omega) (by omega) hN) ?_
  rintro _ W2 ⟨⟨u,rfl⟩,hR2,hM2⟩
  simp [e10,e11,q3]
  refine ⟨i + (j - i),by omega,i,j - i,_,⟨rfl,hi,by omega,him,hai,by omega⟩,by simp [e0,e2,e4,e10],rfl,hR2,by rw [rot_lt G him hij]; exact hG,(PM.swr (PM.refl G N) (by omega) (by omega)).trans hP,hM.trans hM2⟩
 ·subst hij
  have hne : ((i : Int) != (i : Int)) = false := by simp
  simp [e0,e2,e4,e10,e11,mi]
  refine FN.mono (swapr_c (a := m - i) (b := m) (n := i) hR (by omega) (by omega) hN) ?_
  rintro _ W2 ⟨⟨u,rfl⟩,hR2,hM2⟩
  have hP2 := (PM.swr (PM.refl G N) (a := m - i) (b := m) (n := i) (by omega) (by omega)).trans hP
  rw [rot_eq G him,hG] at hR2 hP2
  simp
  exact ⟨hR2,hP2,hM.trans hM2⟩
 ·have hne : ((i : Int) != (j : Int)) = true := by simp; omega
  have hgt : (j : Int) < (i : Int) := by omega
  have q3 : IntKind.i64.wrap ((i : Int) - (j : Int)) = ((i - j : Nat) : Int) := by rw [wrap64 _ (by omega) (by omega)]; omega
  simp [e0,e2,e4,e10,e11,hne,hgt,mi]
  refine FN.mono (swapr_c (a := m - i) (b := m) (n := j) hR (by omega) (by omega) hN) ?_
  rintro _ W2 ⟨⟨u,rfl⟩,hR2,hM2⟩
  simp [e10,e11,q3]
  refine ⟨i - j + j, by omega, i - j, j, _, ⟨rfl, by omega, hj, by omega, by omega, hjb⟩, by simp [e0, e2, e4, e11], rfl, hR2, by
   rw [show m - (i - j) = m - i + j by omega,rot_gt G him hij]; exact hG,(PM.swr (PM.refl G N) (by omega) (by omega)).trans hP,hM.trans hM2⟩
def InI (base : Nat) (v : Value) (N : Nat) (F : Nat → Wy × Nat) (a b : Nat) (w : World) (k : Nat) (ρ : Env) (ds : List Deferred) (W : World) : Prop :=
 ∃ (i : Nat) (G : Nat → Wy × Nat),(k = b - i ∧ a + 1 ≤ i ∧ (i ≤ b ∨ i = a + 1)) ∧ (ρ 0 = v ∧ ρ 1 = i64 a ∧ ρ 2 = i64 b ∧ ρ 3 = (Value.func (.func 62) #[] #[]) ∧ ρ 8 = i64 i) ∧ ds = [] ∧ RF W base v N G ∧ Sd wyLt G a i ∧ Rg G F a i ∧ PM G F N ∧ Mod (fun k => k = slB v) w W
def InJ (base : Nat) (v : Value) (N : Nat) (F : Nat → Wy × Nat) (a b i : Nat) (w : World) (k : Nat) (ρ : Env) (ds : List Deferred) (W : World) : Prop :=
 ∃ (j : Nat) (G : Nat → Wy × Nat),(k = j - a ∧ a ≤ j ∧ j ≤ i) ∧ (ρ 0 = v ∧ ρ 1 = i64 a ∧ ρ 2 = i64 b ∧ ρ 3 = (Value.func (.func 62) #[] #[]) ∧ ρ 8 = i64 i ∧ ρ 9 = i64 j) ∧ ds = [] ∧ RF W base v N G ∧ Ins wyLt G a i j ∧ Rg G F a (i + 1) ∧ PM G F N ∧ Mod (fun k => k = slB v) w W
def SortE (lt : Wy → Wy → Prop) (base : Nat) (v : Value) (N : Nat) (F : Nat → Wy × Nat) (a b : Nat) (w : World) (e : Ending) (w' : World) : Prop :=
 (∃ u,e = .returned u) ∧ Mod (fun k => k = slB v) w w' ∧ ∃ F',RF w' base v N F' ∧ Sd lt F' a b ∧ Rg F' F a b ∧ PM F' F N
set_option maxHeartbeats 2000000 in
theorem insert_c {w : World} {base N a b : Nat} {v : Value} {F : Nat → Wy × Nat} (h : RF w base v N F) (hab : a ≤ b) (hb : b ≤ N) (hN : N ≤ 1000) (ht : ∀ p q, a ≤ p → p < q → q < b → (F p).2 < (F q).2) : FN Tryz.prog 134 [v, i64 a, i64 b, (Value.func (.func 62) #[] #[])] w fun e w' => SortE wyLt base v N F a b w e w' := by
 refine FN_enter Tryz.func134 rfl rfl (by kernel_rfl) ?_
 have wa : IntKind.i64.wrap ((a : Int) + 1) = ((a + 1 : Nat) : Int) := by rw [wrap64 _ (by omega) (by omega)]; rfl
 simp [wa]
 refine WC_loop (InI base v N F a b w) (b - (a + 1)) ⟨a + 1,F,⟨rfl,Nat.le_refl _,.inr rfl⟩,by simp,rfl,h,fun i j h1 h2 h3 => by omega,Rg.refl _ _ _,PM.refl _ _,Mod.refl _ _⟩ ?_
 rintro k ρ ds W0 ⟨i,G,⟨rfl,hi1,hi2⟩,⟨e0,e1,e2,e3,e8⟩,rfl,hR,hS,hG,hP,hM⟩
 by_cases hlt : i < b
 ·have hlt' : (i : Int) < (b : Int) := by omega
  have wi : IntKind.i64.wrap ((i : Int) + 1) = ((i + 1 : Nat) : Int) := by rw [wrap64 _ (by omega) (by omega)]; rfl
  simp [e2,e8,hlt]
  have hins : Ins wyLt G a i i := Ins.start hS fun p p1 p2 => by
   obtain ⟨p',a1,a2,e⟩ := hG.in' p p1 p2
   rw [e,hG.out i (by omega)]
   exact ht p' i a1 a2 hlt
  refine WC_loop (InJ base v N F a b i w) (i - a) ⟨i,G,⟨rfl,by omega,Nat.le_refl _⟩,by simp [e0,e1,e2,e3,e8],rfl,hR,hins,hG.wide (Nat.le_refl _) (by omega),hP,hM⟩ ?_
  clear hins hS hG hP hM hR e0 e1 e2 e3 e8
  rintro k2 ρ2 ds2 W0 ⟨j,G,⟨rfl,hj1,hj2⟩,⟨e0,e1,e2,e3,e8,e9⟩,rfl,hR,hI,hG,hP,hM⟩
  refine WC_drawC 14 (.F 0 <| .F 1 <| .F 2 <| .F 3 <| .F 4 <| .F 5 <| .F 6 <| .F 7 <| .F 8 <| .F 9 <| .F 10 <| .F 11 <| .F 12 <| .F 13 <| .Z) (fun _ => false) rfl (by kernel_rfl) fun W hW => ?_
  have hEW : Ext W0 W := hW ▸ Ext.drew W0
  have hRW := hR.ext hEW
  by_cases hj : a < j
  ·have sub1 : IntKind.i64.wrap ((j : Int) - 1) = ((j - 1 : Nat) : Int) := by rw [wrap64 _ (by omega) (by omega)]; omega
   have ri := hRW.row (i := j) (by omega)
   have rj := hRW.row (i := j - 1) (by omega)
   have xi := fun W => hRW.ix (i := j) (k := (j : Int)) rfl (by omega) W
   have xj := fun W => hRW.ix (i := j - 1) (k := ((j - 1 : Nat) : Int)) rfl (by omega) W
   simp [e0,e1,e3,e9,hj,sub1,xi,xj,ri.c0,ri.c1,ri.c2,ri.c3,ri.c4,ri.c5,ri.c6,ri.c7,rj.c0,rj.c1,rj.c2,rj.c3,rj.c4,rj.c5,rj.c6,rj.c7]
   refine FN.mono (sorted1_c (G j).1 (G (j - 1)).1 W) ?_
   rintro _ W2 ⟨rfl,hE2⟩
   have hR2 := hRW.ext hE2
   by_cases hlw : wyLt (G j).1 (G (j - 1)).1
   ·have hk : cmpK (G j).1 (G (j - 1)).1 < 0 := by simpa using (cmpK_lt (G j).1 (G (j - 1)).1).trans (decide_eq_true hlw)
    have hI3 := hI.step swo_wy hj hj2 hlw
    have hG3 := hG.sw (i := j) (j := j - 1) (by omega) (by omega)
    have hP3 := hP.sw (i := j) (j := j - 1) (by omega) (by omega)
    simp [hk]
    clear ri rj xi xj
    have hR := hR2
    have hEX := hEW.trans hE2
    refine WC_drawL 16 (.F 0 <| .F 1 <| .F 2 <| .F 3 <| .F 4 <| .F 5 <| .F 6 <| .F 7 <| .F 8 <| .F 9 <| .F 10 <| .F 11 <| .F 12 <| .F 13 <| .F 14 <| .S 15 <| .Z) (fun _ => false) (fun _ => false) (fun _ _ _ => False) rfl (by kernel_rfl) (fun _ h => h) (fun _ _ _ _ h1 h2 => h1) fun W hW => ?_
    have hEW : Ext W2 W := hW ▸ Ext.drew W2
    have hRW := hR.ext hEW
    have ri := hRW.row (i := j) (by omega)
    have rj := hRW.row (i := (j - 1)) (by omega)
    have xi := fun W => hRW.ix (i := j) (k := (j : Int)) (by omega) (by omega) W
    have xj := fun W => hRW.ix (i := (j - 1)) (k := ((j - 1 : Nat) : Int)) (by omega) (by omega) W
    have th := fun k => hRW.thaw (by omega) k
    simp [e0,e9,sub1,xi,xj,ri.c0,ri.c1,ri.c2,ri.c3,ri.c4,ri.c5,ri.c6,ri.c7,rj.c0,rj.c1,rj.c2,rj.c3,rj.c4,rj.c5,rj.c6,rj.c7,th,cell_setCell]
    refine KR_mk (agr_any ((((((((((Mod.refl (fun _ => True) _).any _ _).any _ _).any _ _).any _ _).any _ _).any _ _).any _ _).any _ _)) ) ?_
    have hput := hRW.put (i := j) (by omega) (G (j - 1))
    have hMp : Mod (fun k => k = slB v) W (putC W (slB v) (slO v + j * 8) (wyC (G (j - 1)).1)) := putC_mod _ _ (Mod.refl _ _)
    generalize hW' : World.setCell _ ⟨slB v,slO v + j * 8 + 7,none⟩ _ = W'
    have e' : putC W (slB v) (slO v + j * 8) (wyC (G (j - 1)).1) = W' := hW'
    rw [e'] at hput hMp
    have rj' := hput.row (i := (j - 1)) (by omega)
    have th' := fun k => hput.thaw (by omega) k
    simp [e0,e9,sub1,xj,rj'.c0,rj'.c1,rj'.c2,rj'.c3,rj'.c4,rj'.c5,rj'.c6,rj'.c7,th',cell_setCell]
    have hR3 := hput.put (i := (j - 1)) (by omega) (G j)
    have hMp2 : Mod (fun k => k = slB v) W' (putC W' (slB v) (slO v + (j - 1) * 8) (wyC (G j).1)) := putC_mod _ _ (Mod.refl _ _)
    have hM3 := (hEW.mod.trans hMp).trans hMp2
    rw [← sw_up] at hR3
    generalize hW3 : World.setCell _ ⟨slB v,slO v + (j - 1) * 8 + 7,none⟩ _ = W3
    have e3' : putC W' (slB v) (slO v + (j - 1) * 8) (wyC (G j).1) = W3 := hW3
    rw [e3'] at hR3 hM3
    exact ⟨j - 1 - a,by omega,j - 1,_,⟨rfl,by omega,by omega⟩,by simp [e0,e1,e2,e3,e8],rfl,hR3,hI3,hG3,hP3,hM.trans (hEX.mod.trans hM3)⟩
   ·have hk : ¬ cmpK (G j).1 (G (j - 1)).1 < 0 := by simpa using (cmpK_lt (G j).1 (G (j - 1)).1).trans (decide_eq_false hlw)
    have hS2 := hI.stop swo_wy hj1 hj2 fun _ => hlw
    simp [hk,e8,wi]
    exact ⟨b - (i + 1),by omega,i + 1,G,⟨rfl,by omega,.inl (by omega)⟩,by simp [e0,e1,e2,e3],rfl,hR2,hS2,hG,hP,hM.trans (hEW.trans hE2).mod⟩
  ·have hS2 := hI.stop swo_wy hj1 hj2 fun h => (hj h).elim
   simp [e1,e9,hj,e8,wi]
   exact ⟨b - (i + 1),by omega,i + 1,G,⟨rfl,by omega,.inl (by omega)⟩,by simp [e0,e1,e2,e3],rfl,hRW,hS2,hG,hP,hM.trans hEW.mod⟩
 ·simp [e2,e8,hlt]
  refine ⟨⟨_,rfl⟩,hM,G,hR,fun p q h1 h2 h3 => hS p q h1 h2 (by omega),?_,hP⟩
  by_cases hib : i = b
  ·rw [← hib]; exact hG
  ·refine ⟨fun x hx => ?_,fun p h1 h2 => by omega⟩
   by_cases hx' : x = a
   ·obtain ⟨p',a1,a2,e⟩ := hG.in' x (by omega) (by omega)
    rw [e,hx',show p' = a by omega]
   ·exact hG.out x (by omega)
end Go.Proofs
namespace Go.Proofs
open Pk St
set_option maxRecDepth 10000
theorem St.Mg.congr {α : Type} {lt : α → α → Prop} {F F' : Nat → α × Nat} {a m b : Nat} (h : Mg lt F a m b) (hg : ∀ x, a ≤ x → x < b → F' x = F x) (hm : a ≤ m ∧ m ≤ b) : Mg lt F' a m b := by
 refine ⟨fun i j h1 h2 h3 => ?_,fun i j h1 h2 h3 => ?_,fun i j h1 h2 h3 h4 => ?_⟩
 all_goals rw [hg i (by omega) (by omega), hg j (by omega) (by omega)]
 ·exact h.l i j h1 h2 h3
 ·exact h.r i j h1 h2 h3
 ·exact h.t i j h1 h2 h3 h4
theorem half_i {i j h : Nat} (hh : h = (i + j) / 2) (hl : i + j ≤ 100000) : IntKind.i64.wrap (shrI IntKind.u64 (IntKind.u64.wrap (IntKind.i64.wrap ((i : Int) + (j : Int)))) 1) = (h : Int) := by
 have a1 : IntKind.i64.wrap ((i : Int) + (j : Int)) = (i : Int) + (j : Int) := wrap64 _ (by omega) (by omega)
 have a2 : IntKind.u64.wrap ((i : Int) + (j : Int)) = (i : Int) + (j : Int) := wrap64u _ (by omega) (by omega)
 rw [a1,a2]
 unfold shrI
 have h2 : (2 : Int) ^ (min (1 : Int).toNat IntKind.u64.bits) = 2 := by decide
 rw [h2,Int.fdiv_eq_ediv_of_nonneg _ (by omega),wrap64 _ (by omega) (by omega)]
 omega
def SyB (a m b : Nat) (v : Value) (F : Nat → Wy × Nat) (w : World) (k : Nat) (ρ : Env) (ds : List Deferred) (W : World) : Prop :=
 ∃ i j : Nat,(k = j - i ∧ m ≤ i ∧ i ≤ j ∧ j ≤ b) ∧ (ρ 0 = v ∧ ρ 1 = i64 a ∧ ρ 4 = (Value.func (.func 62) #[] #[]) ∧ ρ 10 = i64 i ∧ ρ 11 = i64 j) ∧ ds = [] ∧ Ext w W ∧ (∀ c,m ≤ c → c < i → wyLt (F c).1 (F a).1) ∧ (∀ c,j ≤ c → c < b → ¬ wyLt (F c).1 (F a).1)
def SyC (base N a b i : Nat) (v : Value) (F : Nat → Wy × Nat) (w : World) (k : Nat) (ρ : Env) (ds : List Deferred) (W : World) : Prop :=
 ∃ kk : Nat,(k = i - 1 - kk ∧ a ≤ kk ∧ kk ≤ i - 1) ∧ (ρ 0 = v ∧ ρ 10 = i64 i ∧ ρ 13 = i64 kk) ∧ ds = [] ∧ RF W base v N (mv1 F a kk) ∧ Rg (mv1 F a kk) F a b ∧ PM (mv1 F a kk) F N ∧ Mod (fun k => k = slB v) w W
def SyD (a m : Nat) (v : Value) (F : Nat → Wy × Nat) (w : World) (k : Nat) (ρ : Env) (ds : List Deferred) (W : World) : Prop :=
 ∃ i j : Nat,(k = j - i ∧ a ≤ i ∧ i ≤ j ∧ j ≤ m) ∧ (ρ 0 = v ∧ ρ 2 = i64 m ∧ ρ 4 = (Value.func (.func 62) #[] #[]) ∧ ρ 14 = i64 i ∧ ρ 15 = i64 j) ∧ ds = [] ∧ Ext w W ∧ (∀ c,a ≤ c → c < i → ¬ wyLt (F m).1 (F c).1) ∧ (∀ c,j ≤ c → c < m → wyLt (F m).1 (F c).1)
def SyE (base N a m i : Nat) (v : Value) (F : Nat → Wy × Nat) (w : World) (k : Nat) (ρ : Env) (ds : List Deferred) (W : World) : Prop :=
 ∃ kk : Nat,(k = kk - i ∧ i ≤ kk ∧ kk ≤ m) ∧ (ρ 0 = v ∧ ρ 14 = i64 i ∧ ρ 17 = i64 kk) ∧ ds = [] ∧ RF W base v N (mv2 F m kk) ∧ Rg (mv2 F m kk) F a (m + 1) ∧ PM (mv2 F m kk) F N ∧ Mod (fun k => k = slB v) w W
def SyF (a m b md s0 r0 : Nat) (v : Value) (F : Nat → Wy × Nat) (w : World) (k : Nat) (ρ : Env) (ds : List Deferred) (W : World) : Prop :=
 ∃ s r : Nat, (k = r - s ∧ s0 ≤ s ∧ s ≤ r ∧ r ≤ r0) ∧ (ρ 0 = v ∧ ρ 1 = i64 a ∧ ρ 2 = i64 m ∧ ρ 3 = i64 b ∧ ρ 4 = (Value.func (.func 62) #[] #[]) ∧ ρ 18 = i64 md ∧ ρ 19 = i64 ((md + m : Nat) : Int) ∧ ρ 20 = i64 s ∧ ρ 21 = i64 r ∧ ρ 22 = i64 ((md + m - 1 : Nat) : Int)) ∧ ds = [] ∧ Ext w W ∧
  (∀ c,s0 ≤ c → c < s → ¬ wyLt (F (md + m - 1 - c)).1 (F c).1) ∧ (∀ c,r ≤ c → c < r0 → wyLt (F (md + m - 1 - c)).1 (F c).1)
set_option maxHeartbeats 4000000 in
theorem sym1_c {base N : Nat} {v : Value} (hN : N ≤ 1000) {w : World} {F : Nat → Wy × Nat} {a m b : Nat} (h : RF w base v N F) (hma : m = a + 1) (hmb : m < b) (hb : b ≤ N) (hM : Mg wyLt F a m b) : FN Tryz.prog 135 [v, i64 a, i64 m, i64 b, (Value.func (.func 62) #[] #[])] w fun e w' => SortE wyLt base v N F a b w e w' := by
 refine FN_enter Tryz.func135 rfl rfl (by kernel_rfl) ?_
 have s1 : IntKind.i64.wrap ((m : Int) - (a : Int)) = ((m - a : Nat) : Int) := by rw [wrap64 _ (by omega) (by omega)]; omega
 have e1 : ((m - a : Nat) : Int) = 1 := by omega
 have e2 : m - a = 1 := by omega
 simp [s1,e2]
 refine WC_loop (SyB a m b v F w) (b - m) ⟨m,b,⟨rfl,Nat.le_refl _,by omega,Nat.le_refl _⟩,by simp,rfl,Ext.refl _,fun c h1 h2 => by omega,fun c h1 h2 => by omega⟩ ?_
 rintro k ρ ds W0 ⟨i,j,⟨rfl,hi,hij,hj⟩,⟨f0,f1,f4,f10,f11⟩,rfl,hX,h1,h2⟩
 subst hma
 by_cases hlt : i < j
 ·obtain ⟨hh,hhe⟩ : ∃ hh : Nat,hh = (i + j) / 2 := ⟨_,rfl⟩
  have hw := half_i hhe (by omega)
  have wh : IntKind.i64.wrap ((hh : Int) + 1) = ((hh + 1 : Nat) : Int) := by rw [wrap64 _ (by omega) (by omega)]; rfl
  simp [f10,f11,hlt,hw]
  refine WC_drawC 9 (.F 0 <| .F 1 <| .F 2 <| .F 3 <| .F 4 <| .F 5 <| .F 6 <| .F 7 <| .F 8 <| .Z) (fun _ => false) rfl (by kernel_rfl) fun W hW => ?_
  have hEW : Ext W0 W := hW ▸ Ext.drew W0
  have hRW := h.ext (hX.trans hEW)
  have ri := hRW.row (i := hh) (by omega)
  have rj := hRW.row (i := a) (by omega)
  have xi := fun W => hRW.ix (i := hh) (k := (hh : Int)) rfl (by omega) W
  have xj := fun W => hRW.ix (i := a) (k := (a : Int)) rfl (by omega) W
  simp [f0,f1,f4,xi,xj,ri.c0,ri.c1,ri.c2,ri.c3,ri.c4,ri.c5,ri.c6,ri.c7,rj.c0,rj.c1,rj.c2,rj.c3,rj.c4,rj.c5,rj.c6,rj.c7]
  refine FN.mono (sorted1_c (F hh).1 (F a).1 W) ?_
  rintro _ W2 ⟨rfl,hE2⟩
  by_cases hl : wyLt (F hh).1 (F a).1
  ·have hk : cmpK (F hh).1 (F a).1 < 0 := by simpa using (cmpK_lt (F hh).1 (F a).1).trans (decide_eq_true hl)
   simp [hk,wh]
   exact ⟨j - (hh + 1),by omega,hh + 1,j,⟨rfl,by omega,by omega,hj⟩,by simp [f0,f1,f4,f11],rfl,hX.trans (hEW.trans hE2),fun c c1 c2 => hM.one_lt swo_wy (c := hh) c1 (by omega) (by omega) hl,h2⟩
  ·have hk : ¬ cmpK (F hh).1 (F a).1 < 0 := by simpa using (cmpK_lt (F hh).1 (F a).1).trans (decide_eq_false hl)
   simp [hk]
   exact ⟨hh - i,by omega,i,hh,⟨rfl,hi,by omega,by omega⟩,by simp [f0,f1,f4,f10],rfl,hX.trans (hEW.trans hE2),h1,fun c c1 c2 => hM.one_nlt swo_wy (c := hh) (by omega) c1 c2 hl⟩
 ·have hij' : j = i := by omega
  subst hij'
  have hS := hM.one swo_wy ⟨hi,hj⟩ h1 h2
  have sub1 : IntKind.i64.wrap ((j : Int) - 1) = ((j - 1 : Nat) : Int) := by rw [wrap64 _ (by omega) (by omega)]; omega
  simp [f1,f10,f11]
  refine WC_loop (SyC base N a b j v F w) (j - 1 - a) ⟨a,⟨rfl,Nat.le_refl _,by omega⟩,by simp [f0,f10],rfl,by rw [mv1_0]; exact h.ext hX,by rw [mv1_0]; exact Rg.refl _ _ _,by rw [mv1_0]; exact PM.refl _ _,hX.mod⟩ ?_
  clear f0 f1 f4 f10 f11 h1 h2 hX
  rintro k ρ ds W0 ⟨kk,⟨rfl,hk1,hk2⟩,⟨f0,f10,f13⟩,rfl,hR,hG,hP,hMo⟩
  by_cases hlk : kk < j - 1
  ·have hlk' : (kk : Int) < ((j - 1 : Nat) : Int) := by omega
   have wk : IntKind.i64.wrap ((kk : Int) + 1) = (kk : Int) + 1 := wrap64 _ (by omega) (by omega)
   simp [f10,f13,sub1,hlk']
   refine WC_drawL 16 (.F 0 <| .F 1 <| .F 2 <| .F 3 <| .F 4 <| .F 5 <| .F 6 <| .F 7 <| .F 8 <| .F 9 <| .F 10 <| .F 11 <| .F 12 <| .F 13 <| .F 14 <| .S 15 <| .Z) (fun _ => false) (fun _ => false) (fun _ _ _ => False) rfl (by kernel_rfl) (fun _ h => h) (fun _ _ _ _ h1 h2 => h1) fun W hW => ?_
   have hEW : Ext W0 W := hW ▸ Ext.drew W0
   have hRW := hR.ext hEW
   have ri := hRW.row (i := kk) (by omega)
   have rj := hRW.row (i := (kk + 1)) (by omega)
   have xi := fun W => hRW.ix (i := kk) (k := (kk : Int)) (by omega) (by omega) W
   have xj := fun W => hRW.ix (i := (kk + 1)) (k := ((kk : Int) + 1)) (by omega) (by omega) W
   have th := fun k => hRW.thaw (by omega) k
   simp [f0,f13,wk,xi,xj,ri.c0,ri.c1,ri.c2,ri.c3,ri.c4,ri.c5,ri.c6,ri.c7,rj.c0,rj.c1,rj.c2,rj.c3,rj.c4,rj.c5,rj.c6,rj.c7,th,cell_setCell]
   refine KR_mk (agr_any ((((((((((Mod.refl (fun _ => True) _).any _ _).any _ _).any _ _).any _ _).any _ _).any _ _).any _ _).any _ _)) ) ?_
   have hput := hRW.put (i := kk) (by omega) ((mv1 F a kk) (kk + 1))
   have hMp : Mod (fun k => k = slB v) W (putC W (slB v) (slO v + kk * 8) (wyC ((mv1 F a kk) (kk + 1)).1)) := putC_mod _ _ (Mod.refl _ _)
   generalize hW' : World.setCell _ ⟨slB v,slO v + kk * 8 + 7,none⟩ _ = W'
   have e' : putC W (slB v) (slO v + kk * 8) (wyC ((mv1 F a kk) (kk + 1)).1) = W' := hW'
   rw [e'] at hput hMp
   have rj' := hput.row (i := (kk + 1)) (by omega)
   have th' := fun k => hput.thaw (by omega) k
   simp [f0,f13,wk,xj,rj'.c0,rj'.c1,rj'.c2,rj'.c3,rj'.c4,rj'.c5,rj'.c6,rj'.c7,th',cell_setCell]
   have hR3 := hput.put (i := (kk + 1)) (by omega) ((mv1 F a kk) kk)
   have hMp2 : Mod (fun k => k = slB v) W' (putC W' (slB v) (slO v + (kk + 1) * 8) (wyC ((mv1 F a kk) kk).1)) := putC_mod _ _ (Mod.refl _ _)
   have hM3 := (hEW.mod.trans hMp).trans hMp2
   rw [← sw_up] at hR3
   generalize hW3 : World.setCell _ ⟨slB v,slO v + (kk + 1) * 8 + 7,none⟩ _ = W3
   have e3' : putC W' (slB v) (slO v + (kk + 1) * 8) (wyC ((mv1 F a kk) kk).1) = W3 := hW3
   rw [e3'] at hR3 hM3
   have hG3 := hG.sw (i := kk) (j := kk + 1) (by omega) (by omega)
   have hP3 := hP.sw (i := kk) (j := kk + 1) (by omega) (by omega)
   rw [mv1_step F hk1] at hR3 hG3 hP3
   exact ⟨j - 1 - (kk + 1),by omega,kk + 1,⟨rfl,by omega,by omega⟩,by simp [f0,f10],rfl,hR3,hG3,hP3,hMo.trans hM3⟩
  ·have hkk : kk = j - 1 := by omega
   have hlk' : ¬ (kk : Int) < ((j - 1 : Nat) : Int) := by omega
   simp [f10,f13,sub1,hlk']
   rw [← hkk] at hS
   exact ⟨⟨_,rfl⟩,hMo,_,hR,hS,hG,hP⟩
set_option maxHeartbeats 4000000 in
theorem sym2_c {base N : Nat} {v : Value} (hN : N ≤ 1000) {w : World} {F : Nat → Wy × Nat} {a m b : Nat} (h : RF w base v N F) (hma : a + 1 < m) (hmb : b = m + 1) (hb : b ≤ N) (hM : Mg wyLt F a m b) : FN Tryz.prog 135 [v, i64 a, i64 m, i64 b, (Value.func (.func 62) #[] #[])] w fun e w' => SortE wyLt base v N F a b w e w' := by
 refine FN_enter Tryz.func135 rfl rfl (by kernel_rfl) ?_
 have s1 : IntKind.i64.wrap ((m : Int) - (a : Int)) = ((m - a : Nat) : Int) := by rw [wrap64 _ (by omega) (by omega)]; omega
 have s2 : IntKind.i64.wrap ((b : Int) - (m : Int)) = ((b - m : Nat) : Int) := by rw [wrap64 _ (by omega) (by omega)]; omega
 have e1 : (((m - a : Nat) : Int) == 1) = false := by simp; omega
 have e2 : ((b - m : Nat) : Int) = 1 := by omega
 simp [s1,s2,e1,e2]
 refine WC_loop (SyD a m v F w) (m - a) ⟨a,m,⟨rfl,Nat.le_refl _,by omega,Nat.le_refl _⟩,by simp,rfl,Ext.refl _,fun c h1 h2 => by omega,fun c h1 h2 => by omega⟩ ?_
 rintro k ρ ds W0 ⟨i,j,⟨rfl,hi,hij,hj⟩,⟨f0,f2,f4,f14,f15⟩,rfl,hX,h1,h2⟩
 subst hmb
 by_cases hlt : i < j
 ·obtain ⟨hh,hhe⟩ : ∃ hh : Nat,hh = (i + j) / 2 := ⟨_,rfl⟩
  have hw := half_i hhe (by omega)
  have wh : IntKind.i64.wrap ((hh : Int) + 1) = ((hh + 1 : Nat) : Int) := by rw [wrap64 _ (by omega) (by omega)]; rfl
  simp [f14,f15,hlt,hw]
  refine WC_drawC 9 (.F 0 <| .F 1 <| .F 2 <| .F 3 <| .F 4 <| .F 5 <| .F 6 <| .F 7 <| .F 8 <| .Z) (fun _ => false) rfl (by kernel_rfl) fun W hW => ?_
  have hEW : Ext W0 W := hW ▸ Ext.drew W0
  have hRW := h.ext (hX.trans hEW)
  have ri := hRW.row (i := m) (by omega)
  have rj := hRW.row (i := hh) (by omega)
  have xi := fun W => hRW.ix (i := m) (k := (m : Int)) rfl (by omega) W
  have xj := fun W => hRW.ix (i := hh) (k := (hh : Int)) rfl (by omega) W
  simp [f0,f2,f4,xi,xj,ri.c0,ri.c1,ri.c2,ri.c3,ri.c4,ri.c5,ri.c6,ri.c7,rj.c0,rj.c1,rj.c2,rj.c3,rj.c4,rj.c5,rj.c6,rj.c7]
  refine FN.mono (sorted1_c (F m).1 (F hh).1 W) ?_
  rintro _ W2 ⟨rfl,hE2⟩
  by_cases hl : wyLt (F m).1 (F hh).1
  ·have hk : cmpK (F m).1 (F hh).1 < 0 := by simpa using (cmpK_lt (F m).1 (F hh).1).trans (decide_eq_true hl)
   have hk' : ¬ 0 ≤ cmpK (F m).1 (F hh).1 := by omega
   simp [hk]
   exact ⟨hh - i,by omega,i,hh,⟨rfl,hi,by omega,by omega⟩,by simp [f0,f2,f4,f14],rfl,hX.trans (hEW.trans hE2),h1,fun c c1 c2 => hM.two_lt swo_wy (c := hh) (by omega) c1 c2 hl⟩
  ·have hk : ¬ cmpK (F m).1 (F hh).1 < 0 := by simpa using (cmpK_lt (F m).1 (F hh).1).trans (decide_eq_false hl)
   have hk' : 0 ≤ cmpK (F m).1 (F hh).1 := by omega
   simp [hk,wh]
   exact ⟨j - (hh + 1),by omega,hh + 1,j,⟨rfl,by omega,by omega,hj⟩,by simp [f0,f2,f4,f15],rfl,hX.trans (hEW.trans hE2),fun c c1 c2 => hM.two_nlt swo_wy (c := hh) c1 (by omega) (by omega) hl,h2⟩
 ·have hij' : j = i := by omega
  subst hij'
  have hS := hM.two swo_wy ⟨hi,hj⟩ h1 h2
  simp [f2,f14,f15]
  refine WC_loop (SyE base N a m j v F w) (m - j) ⟨m,⟨rfl,hj,Nat.le_refl _⟩,by simp [f0,f14],rfl,by rw [mv2_0]; exact h.ext hX,by rw [mv2_0]; exact Rg.refl _ _ _,by rw [mv2_0]; exact PM.refl _ _,hX.mod⟩ ?_
  clear f0 f2 f4 f14 f15 h1 h2 hX
  rintro k ρ ds W0 ⟨kk,⟨rfl,hk1,hk2⟩,⟨f0,f14,f17⟩,rfl,hR,hG,hP,hMo⟩
  by_cases hlk : j < kk
  ·have sub1 : IntKind.i64.wrap ((kk : Int) - 1) = ((kk - 1 : Nat) : Int) := by rw [wrap64 _ (by omega) (by omega)]; omega
   simp [f14,f17,hlk]
   refine WC_drawL 16 (.F 0 <| .F 1 <| .F 2 <| .F 3 <| .F 4 <| .F 5 <| .F 6 <| .F 7 <| .F 8 <| .F 9 <| .F 10 <| .F 11 <| .F 12 <| .F 13 <| .F 14 <| .S 15 <| .Z) (fun _ => false) (fun _ => false) (fun _ _ _ => False) rfl (by kernel_rfl) (fun _ h => h) (fun _ _ _ _ h1 h2 => h1) fun W hW => ?_
   have hEW : Ext W0 W := hW ▸ Ext.drew W0
   have hRW := hR.ext hEW
   have ri := hRW.row (i := kk) (by omega)
   have rj := hRW.row (i := (kk - 1)) (by omega)
   have xi := fun W => hRW.ix (i := kk) (k := (kk : Int)) (by omega) (by omega) W
   have xj := fun W => hRW.ix (i := (kk - 1)) (k := ((kk - 1 : Nat) : Int)) (by omega) (by omega) W
   have th := fun k => hRW.thaw (by omega) k
   simp [f0,f17,sub1,xi,xj,ri.c0,ri.c1,ri.c2,ri.c3,ri.c4,ri.c5,ri.c6,ri.c7,rj.c0,rj.c1,rj.c2,rj.c3,rj.c4,rj.c5,rj.c6,rj.c7,th,cell_setCell]
   refine KR_mk (agr_any ((((((((((Mod.refl (fun _ => True) _).any _ _).any _ _).any _ _).any _ _).any _ _).any _ _).any _ _).any _ _)) ) ?_
   have hput := hRW.put (i := kk) (by omega) ((mv2 F m kk) (kk - 1))
   have hMp : Mod (fun k => k = slB v) W (putC W (slB v) (slO v + kk * 8) (wyC ((mv2 F m kk) (kk - 1)).1)) := putC_mod _ _ (Mod.refl _ _)
   generalize hW' : World.setCell _ ⟨slB v,slO v + kk * 8 + 7,none⟩ _ = W'
   have e' : putC W (slB v) (slO v + kk * 8) (wyC ((mv2 F m kk) (kk - 1)).1) = W' := hW'
   rw [e'] at hput hMp
   have rj' := hput.row (i := (kk - 1)) (by omega)
   have th' := fun k => hput.thaw (by omega) k
   simp [f0,f17,sub1,xj,rj'.c0,rj'.c1,rj'.c2,rj'.c3,rj'.c4,rj'.c5,rj'.c6,rj'.c7,th',cell_setCell]
   have hR3 := hput.put (i := (kk - 1)) (by omega) ((mv2 F m kk) kk)
   have hMp2 : Mod (fun k => k = slB v) W' (putC W' (slB v) (slO v + (kk - 1) * 8) (wyC ((mv2 F m kk) kk).1)) := putC_mod _ _ (Mod.refl _ _)
   have hM3 := (hEW.mod.trans hMp).trans hMp2
   rw [← sw_up] at hR3
   generalize hW3 : World.setCell _ ⟨slB v,slO v + (kk - 1) * 8 + 7,none⟩ _ = W3
   have e3' : putC W' (slB v) (slO v + (kk - 1) * 8) (wyC ((mv2 F m kk) kk).1) = W3 := hW3
   rw [e3'] at hR3 hM3
   have hG3 := hG.sw (i := kk) (j := kk - 1) (by omega) (by omega)
   have hP3 := hP.sw (i := kk) (j := kk - 1) (by omega) (by omega)
   rw [mv2_step F hk2 (by omega)] at hR3 hG3 hP3
   exact ⟨kk - 1 - j,by omega,kk - 1,⟨rfl,by omega,by omega⟩,by simp [f0,f14],rfl,hR3,hG3,hP3,hMo.trans hM3⟩
  ·have hkk : kk = j := by omega
   simp [f14,f17,hlk]
   rw [← hkk] at hS
   exact ⟨⟨_,rfl⟩,hMo,_,hR,hS,hG,hP⟩
end Go.Proofs