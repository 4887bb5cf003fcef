/-
 Contracts of the functions that the law reaches,step by step.
-/
import Derived.Test.YtdflcfoalhhjlaaGreatRuY
namespace Go.Proofs
open Pk St
set_option maxRecDepth 10000
set_option maxHeartbeats 8000000 in
theorem sym_c {base N : Nat} {v : Value} (hN : N ≤ 1000) : ∀ (n : Nat) {w : World} {F : Nat → Wy × Nat} {a m b : Nat}, b - a ≤ n → RF w base v N F → a < m → m < b → b ≤ N → Mg wyLt F a m b → FN Tryz.prog 135 [v, i64 a, i64 m, i64 b, (Value.func (.func 62) #[] #[])] w fun e w' => SortE wyLt base v N F a b w e w' := by
 intro n
 induction n with
 | zero => intro w F a m b h1 h2 h3 h4; omega
 | succ n ih =>
 intro w F a m b hn h ham hmb hb hM
 by_cases hma : m = a + 1
 ·exact sym1_c hN h hma hmb hb hM
 by_cases hmb1 : b = m + 1
 ·exact sym2_c hN h (by omega) hmb1 hb hM
 refine FN_enter Tryz.func135 rfl rfl (by kernel_rfl) ?_
 have s1 : IntKind.i64.wrap ((m : Int) - (a : Int)) = ((m - a : Nat) : Int) := by rw [wrap64 _ (by omega) (by omega)]; omega
 have s2 : IntKind.i64.wrap ((b : Int) - (m : Int)) = ((b - m : Nat) : Int) := by rw [wrap64 _ (by omega) (by omega)]; omega
 have e1 : (((m - a : Nat) : Int) == 1) = false := by simp; omega
 have e2 : (((b - m : Nat) : Int) == 1) = false := by simp; omega
 obtain ⟨md,hmd⟩ : ∃ md : Nat,md = (a + b) / 2 := ⟨_,rfl⟩
 have hw := half_i hmd (by omega)
 obtain ⟨nn,hnn⟩ : ∃ nn : Nat,nn = md + m := ⟨_,rfl⟩
 have wn : IntKind.i64.wrap ((md : Int) + (m : Int)) = (nn : Int) := by rw [wrap64 _ (by omega) (by omega)]; omega
 obtain ⟨pp,hpp⟩ : ∃ pp : Nat,pp = md + m - 1 := ⟨_,rfl⟩
 have wp : IntKind.i64.wrap ((nn : Int) - 1) = (pp : Int) := by rw [wrap64 _ (by omega) (by omega)]; omega
 refine with_tail (T := ∀ (σ : Env) (s0 r0 : Nat),(σ 0 = v ∧ σ 1 = i64 a ∧ σ 2 = i64 m ∧ σ 3 = i64 b ∧ σ 4 = (Value.func (.func 62) #[] #[]) ∧ σ 18 = i64 md ∧ σ 19 = i64 nn ∧ σ 20 = i64 s0 ∧ σ 21 = i64 r0 ∧ σ 22 = i64 pp) → ((m ≤ md ∧ s0 = a ∧ r0 = m) ∨ (md < m ∧ s0 + b = md + m ∧ r0 = md)) → WCt Tryz.prog 220 none ?dC ?dQ Tok.mk σ [] w) (fun tail => ?br) ?jn
 case br =>
  by_cases hc : md < m
  ·obtain ⟨s0,hs0⟩ : ∃ s0 : Nat,s0 = md + m - b := ⟨_,rfl⟩
   have ws : IntKind.i64.wrap ((nn : Int) - (b : Int)) = (s0 : Int) := by rw [wrap64 _ (by omega) (by omega)]; omega
   simp [s1,s2,e1,e2,hw,wn,wp,hc,ws]
   refine tail _ s0 md ⟨?_,?_,?_,?_,?_,?_,?_,?_,?_,?_⟩ (.inr ⟨hc,by omega,rfl⟩) <;> simp
  ·simp [s1,s2,e1,e2,hw,wn,wp,hc]
   refine tail _ a m ⟨?_,?_,?_,?_,?_,?_,?_,?_,?_,?_⟩ (.inl ⟨by omega,rfl,rfl⟩) <;> simp
 case jn =>
  rintro σ s0 r0 ⟨g0,g1,g2,g3,g4,g18,g19,g20,g21,g22⟩ hcase
  subst hnn hpp
  refine WC_loop (SyF a m b md s0 r0 v F w) (r0 - s0) ⟨s0,r0,⟨rfl,Nat.le_refl _,by omega,Nat.le_refl _⟩,⟨g0,g1,g2,g3,g4,g18,g19,g20,g21,g22⟩,rfl,Ext.refl _,fun c h1 h2 => by omega,fun c h1 h2 => by omega⟩ ?_
  clear g0 g1 g2 g3 g4 g18 g19 g20 g21 g22
  rintro k ρ ds W0 ⟨s,r,⟨rfl,hs1,hs2,hs3⟩,⟨f0,f1,f2,f3,f4,f18,f19,f20,f21,f22⟩,rfl,hX,h1,h2⟩
  by_cases hlt : s < r
  ·obtain ⟨hh,hhe⟩ : ∃ hh : Nat,hh = (s + r) / 2 := ⟨_,rfl⟩
   have hwh := half_i hhe (by omega)
   have wh : IntKind.i64.wrap ((hh : Int) + 1) = ((hh + 1 : Nat) : Int) := by rw [wrap64 _ (by omega) (by omega)]; rfl
   obtain ⟨qq,hqq⟩ : ∃ qq : Nat,qq = md + m - 1 - hh := ⟨_,rfl⟩
   have wq : IntKind.i64.wrap (((md + m - 1 : Nat) : Int) - (hh : Int)) = (qq : Int) := by rw [wrap64 _ (by omega) (by omega)]; omega
   simp [f20,f21,hlt,hwh]
   refine WC_drawC 11 (.F 0 <| .F 1 <| .F 2 <| .F 3 <| .F 4 <| .F 5 <| .F 6 <| .F 7 <| .F 8 <| .F 9 <| .F 10 <| .Z) (fun _ => false) rfl (by kernel_rfl) fun W hW => ?_
   have hEW : Ext W0 W := hW ▸ Ext.drew W0
   have hRW := h.ext (hX.trans hEW)
   have ri := hRW.row (i := qq) (by omega)
   have rj := hRW.row (i := hh) (by omega)
   have xi := fun W => hRW.ix (i := qq) (k := (qq : Int)) rfl (by omega) W
   have xj := fun W => hRW.ix (i := hh) (k := (hh : Int)) rfl (by omega) W
   simp [f0,f4,f22,wq,xi,xj,ri.c0,ri.c1,ri.c2,ri.c3,ri.c4,ri.c5,ri.c6,ri.c7,rj.c0,rj.c1,rj.c2,rj.c3,rj.c4,rj.c5,rj.c6,rj.c7]
   refine FN.mono (sorted1_c (F qq).1 (F hh).1 W) ?_
   rintro _ W2 ⟨rfl,hE2⟩
   by_cases hl : wyLt (F qq).1 (F hh).1
   ·have hk : cmpK (F qq).1 (F hh).1 < 0 := by simpa using (cmpK_lt (F qq).1 (F hh).1).trans (decide_eq_true hl)
    have hk' : ¬ 0 ≤ cmpK (F qq).1 (F hh).1 := by omega
    simp [hk]
    refine ⟨hh - s,by omega,s,hh,⟨rfl,hs1,by omega,by omega⟩,by simp [f0,f1,f2,f3,f4,f18,f19,f20,f22],rfl,hX.trans (hEW.trans hE2),h1,fun c c1 c2 => ?_⟩
    exact hM.dn swo_wy (c := hh) (p := md + m - 1) (by omega) c1 (by omega) (by omega) (by omega) (by omega) (by rw [← hqq]; exact hl)
   ·have hk : ¬ cmpK (F qq).1 (F hh).1 < 0 := by simpa using (cmpK_lt (F qq).1 (F hh).1).trans (decide_eq_false hl)
    have hk' : 0 ≤ cmpK (F qq).1 (F hh).1 := by omega
    simp [hk,wh]
    refine ⟨r - (hh + 1),by omega,hh + 1,r,⟨rfl,by omega,by omega,hs3⟩,by simp [f0,f1,f2,f3,f4,f18,f19,f21,f22],rfl,hX.trans (hEW.trans hE2),fun c c1 c2 => ?_,h2⟩
    exact hM.up swo_wy (c := hh) (p := md + m - 1) (by omega) (by omega) (by omega) (by omega) (by omega) (by omega) (by rw [← hqq]; exact hl)
  ·have hsr : r = s := by omega
   subst hsr
   obtain ⟨e,he⟩ : ∃ e : Nat,e = md + m - r := ⟨_,rfl⟩
   have we : IntKind.i64.wrap (((md + m : Nat) : Int) - (r : Int)) = (e : Int) := by rw [wrap64 _ (by omega) (by omega)]; omega
   have we2 : IntKind.i64.wrap ((md : Int) + (m : Int) - (r : Int)) = (e : Int) := by rw [wrap64 _ (by omega) (by omega)]; omega
   have hH : Half wyLt (rot F r m e) a r md e b := hM.half swo_wy ⟨by omega, by omega⟩ (by omega) (by omega) ⟨by omega, by omega⟩ (fun c1 c2 => by
    have := h1 (r - 1) (by omega) (by omega)
    rwa [show md + m - 1 - (r - 1) = e by omega] at this) (fun c1 c2 => by
    have := h2 r (Nat.le_refl _) (by omega)
    rwa [show md + m - 1 - r = e - 1 by omega] at this)
   have hGr : Rg (rot F r m e) F a b := (Rg.rot (F := F) (a := r) (m := m) (b := e) (by omega) (by omega)).wide (by omega) (by omega)
   have leftNo : ¬ (a < r ∧ r < md) → Sd wyLt (rot F r m e) a md := fun hc i j k1 k2 k3 => by
    by_cases c1 : a < r
    ·exact hH.x.l i j k1 k2 (by omega)
    ·exact hH.x.r i j (by omega) k2 k3
   have rightNo : ∀ F2, Rg F2 (rot F r m e) a md → ¬ (md < e ∧ e < b) → Sd wyLt F2 md b := fun F2 hg hc i j k1 k2 k3 => by
    rw [hg.out i (.inr k1),hg.out j (.inr (by omega))]
    by_cases c1 : md < e
    ·exact hH.y.l i j k1 k2 (by omega)
    ·exact hH.y.r i j (by omega) k2 k3
   have yOf : ∀ F2,Rg F2 (rot F r m e) a md → Mg wyLt F2 md e b := fun F2 hg => hH.y.congr (fun x k1 k2 => hg.out x (.inr k1)) ⟨by omega,by omega⟩
   have last : ∀ (W2 : World) (F2 F3 : Nat → Wy × Nat) (u : Value), Mod (fun k => k = slB v) w W2 → RF W2 base v N F3 → Rg F2 (rot F r m e) a md → Sd wyLt F2 a md → Rg F3 F2 md b → Sd wyLt F3 md b → PM F3 F N → SortE wyLt base v N F a b w (.returned u) W2 := fun W2 F2 F3 u k1 k2 k3 k4 k5 k6 k7 =>
    ⟨⟨u,rfl⟩,k1,F3,k2,hH.done k3 k4 k5 k6,((k5.wide (by omega) (Nat.le_refl _)).trans (k3.wide (Nat.le_refl _) (by omega))).trans hGr,k7⟩
   have hR0 := h.ext hX
   by_cases q1 : r < m
   ·by_cases q2 : m < e
    ·have q3 : r < md := by omega
     have q4 : md < e := by omega
     simp [f0,f2,f4,f19,f20,f21,we2,q1,q2]
     refine FN.mono (rotate_c (a := r) (m := m) (b := e) hR0 q1 q2 (by omega) hN) ?_
     rintro _ W2 ⟨⟨u,rfl⟩,hR2,hP2,hM2⟩
     have hM02 := hX.mod.trans hM2
     by_cases la : a < r
     ·simp [f0,f1,f4,f18,f20,la,q3]
      refine FN.mono (ih (a := a) (m := r) (b := md) (by omega) hR2 la q3 (by omega) hH.x) ?_
      rintro _ W3 ⟨⟨u,rfl⟩,hM3,F2,hR3,hS3,hG3,hP3⟩
      by_cases lb : e < b
      ·simp [f0,f3,f4,f18,q4,lb]
       refine FN.mono (ih (a := md) (m := e) (b := b) (by omega) hR3 q4 lb hb (yOf _ hG3)) ?_
       rintro _ W4 ⟨⟨u,rfl⟩,hM4,F3,hR4,hS4,hG4,hP4⟩
       simp
       exact last _ _ _ _ ((hM02.trans hM3).trans hM4) hR4 hG3 hS3 hG4 hS4 (hP4.trans (hP3.trans hP2))
      ·simp [f3,f18,q4,lb]
       exact last _ _ _ _ (hM02.trans hM3) hR3 hG3 hS3 (Rg.refl _ _ _) (rightNo _ hG3 fun h => lb h.2) (hP3.trans hP2)
     ·by_cases lb : e < b
      ·simp [f0,f1,f3,f4,f18,f20,la,q4,lb]
       refine FN.mono (ih (a := md) (m := e) (b := b) (by omega) hR2 q4 lb hb (yOf _ (Rg.refl _ _ _))) ?_
       rintro _ W4 ⟨⟨u,rfl⟩,hM4,F3,hR4,hS4,hG4,hP4⟩
       simp
       exact last _ _ _ _ (hM02.trans hM4) hR4 (Rg.refl _ _ _) (leftNo fun h => la h.1) hG4 hS4 (hP4.trans hP2)
      ·simp [f1,f3,f18,f20,la,q4,lb]
       exact last _ _ _ _ hM02 hR2 (Rg.refl _ _ _) (leftNo fun h => la h.1) (Rg.refl _ _ _) (rightNo _ (Rg.refl _ _ _) fun h => lb h.2) hP2
    ·have hrn : rot F r m e = F := rot_none (.inr (by omega)) (by omega)
     have q3 : ¬ r < md := by omega
     have q4 : md < e := by omega
     have q5 : e < b := by omega
     have hRg : RF W0 base v N (rot F r m e) := by rw [hrn]; exact hR0
     have hPg : PM (rot F r m e) F N := by rw [hrn]; exact PM.refl _ _
     by_cases la : a < r
     ·simp [f0,f1,f2,f3,f4,f18,f19,f20,f21,we2,q1,q2,q3,q4,q5,la]
      refine FN.mono (ih (a := md) (m := e) (b := b) (by omega) hRg q4 q5 hb (yOf _ (Rg.refl _ _ _))) ?_
      rintro _ W4 ⟨⟨u,rfl⟩,hM4,F3,hR4,hS4,hG4,hP4⟩
      simp
      exact last _ _ _ _ (hX.mod.trans hM4) hR4 (Rg.refl _ _ _) (leftNo fun h => q3 h.2) hG4 hS4 (hP4.trans hPg)
     ·simp [f0,f1,f2,f3,f4,f18,f19,f20,f21,we2,q1,q2,q4,q5,la]
      refine FN.mono (ih (a := md) (m := e) (b := b) (by omega) hRg q4 q5 hb (yOf _ (Rg.refl _ _ _))) ?_
      rintro _ W4 ⟨⟨u,rfl⟩,hM4,F3,hR4,hS4,hG4,hP4⟩
      simp
      exact last _ _ _ _ (hX.mod.trans hM4) hR4 (Rg.refl _ _ _) (leftNo fun h => q3 h.2) hG4 hS4 (hP4.trans hPg)
   ·have hrn : rot F r m e = F := rot_none (.inl (by omega)) (by omega)
    have q2 : a < r := by omega
    have q4 : ¬ md < e := by omega
    have hRg : RF W0 base v N (rot F r m e) := by rw [hrn]; exact hR0
    have hPg : PM (rot F r m e) F N := by rw [hrn]; exact PM.refl _ _
    by_cases q3 : r < md
    ·simp [f0,f1,f2,f4,f18,f19,f20,f21,we2,q1,q2,q3]
     refine FN.mono (ih (a := a) (m := r) (b := md) (by omega) hRg q2 q3 (by omega) hH.x) ?_
     rintro _ W3 ⟨⟨u,rfl⟩,hM3,F2,hR3,hS3,hG3,hP3⟩
     simp [f18,q4]
     exact last _ _ _ _ (hX.mod.trans hM3) hR3 hG3 hS3 (Rg.refl _ _ _) (rightNo _ hG3 fun h => q4 h.1) (hP3.trans hPg)
    ·simp [f1,f2,f18,f19,f20,f21,we2,q1,q2,q3,q4]
     exact last _ _ _ _ hX.mod hRg (Rg.refl _ _ _) (leftNo fun h => q3 h.2) (Rg.refl _ _ _) (rightNo _ (Rg.refl _ _ _) fun h => q4 h.1) hPg
end Go.Proofs
namespace Go.Proofs
open Pk St
set_option maxRecDepth 10000
structure SrE (lt : Wy → Wy → Prop) (base : Nat) (v : Value) (N : Nat) (F : Nat → Wy × Nat) (a b : Nat) (w w' : World) (F' : Nat → Wy × Nat) : Prop where
 m : Mod (fun k => k = slB v) w w'
 r : RF w' base v N F'
 s : Sd lt F' a b
 g : Rg F' F a b
 p : PM F' F N
def StA (base n : Nat) (v : Value) (F : Nat → Wy × Nat) (w : World) (k : Nat) (ρ : Env) (ds : List Deferred) (W : World) : Prop :=
 (ρ 0 = v ∧ ρ 1 = i64 n ∧ ρ 2 = (Value.func (.func 62) #[] #[]) ∧ ρ 6 = i64 20) ∧ ds = [] ∧ ((k = 1 ∧ ρ 7 = i64 0 ∧ ρ 8 = i64 20 ∧ W = w) ∨ (k = 0 ∧ 20 ≤ n ∧ ρ 7 = i64 20 ∧ ρ 8 = i64 40 ∧ ∃ G,SrE wyLt base v n F 0 20 w W G))
def StB (base n : Nat) (v : Value) (F : Nat → Wy × Nat) (w : World) (k : Nat) (ρ : Env) (ds : List Deferred) (W : World) : Prop :=
 (ρ 0 = v ∧ ρ 1 = i64 n ∧ ρ 2 = (Value.func (.func 62) #[] #[])) ∧ ds = [] ∧ ((k = 1 ∧ ρ 6 = i64 20 ∧ 20 < n ∧ ∃ G,RF W base v n G ∧ Mg wyLt G 0 20 n ∧ PM G F n ∧ Mod (fun k => k = slB v) w W) ∨ (k = 0 ∧ (n ≤ 20 ∧ ρ 6 = i64 20 ∨ ρ 6 = i64 40) ∧ ∃ G,RF W base v n G ∧ Sd wyLt G 0 n ∧ PM G F n ∧ Mod (fun k => k = slB v) w W))
def StC (v : Value) (n : Nat) (w : World) (k : Nat) (ρ : Env) (ds : List Deferred) (W : World) : Prop :=
 k = 0 ∧ (ρ 0 = v ∧ ρ 1 = i64 n ∧ ρ 2 = (Value.func (.func 62) #[] #[]) ∧ ρ 6 = i64 20 ∧ ρ 7 = i64 0 ∧ ρ 8 = i64 40) ∧ ds = [] ∧ W = w
set_option maxHeartbeats 4000000 in
theorem stable_c {w : World} {base n : Nat} {v : Value} {F : Nat → Wy × Nat} (h : RF w base v n F) (hn : n ≤ 30) (ht : ∀ p q, p < q → q < n → (F p).2 < (F q).2) : FN Tryz.prog 110 [v, i64 n, (Value.func (.func 62) #[] #[])] w fun e w' => (∃ u, e = .returned u) ∧ ∃ G, RF w' base v n G ∧ Sd wyLt G 0 n ∧ PM G F n ∧ Mod (fun k => k = slB v) w w' := by
 refine FN_enter Tryz.func110 rfl rfl (by kernel_rfl) ?_
 simp
 refine WC_loop (StA base n v F w) 1 ⟨by simp,rfl,.inl ⟨rfl,by simp,by simp,rfl⟩⟩ ?_
 have w40 : IntKind.i64.wrap 40 = 40 := by decide
 have w020 : IntKind.i64.wrap 20 = 20 := by decide
 rintro k ρ ds W ⟨⟨e0,e1,e2,e6⟩,rfl,hst⟩
 refine with_tail (T := ∀ (σ : Env) (W : World) (k2 : Nat),StB base n v F w k2 σ [] W → k2 ≤ 1 → WCt Tryz.prog 63 none ?dC ?dQ Tok.mk σ [] W) (fun tail => ?br) ?jn
 case br =>
  rcases hst with ⟨rfl, e7, e8, hWw⟩ | ⟨rfl, h20, e7, e8, G, hG⟩
  ·have h : RF W base v n F := by rw [hWw]; exact h
   have hMW : Mod (fun k => k = slB v) w W := by rw [hWw]; exact Mod.refl _ _
   by_cases h20 : 20 ≤ n
   ·have h20' : (20 : Int) ≤ (n : Int) := by omega
    simp [e0,e1,e2,e7,e8,h20']
    refine FN.mono (insert_c (a := 0) (b := 20) h (by omega) h20 (by omega) fun p q _ h2 h3 => ht p q h2 (by omega)) ?_
    rintro _ W2 ⟨⟨u,rfl⟩,hM,G,hR,hS,hG,hP⟩
    simp [e6,e8,w40]
    exact ⟨by simp [e0,e1,e2,e6],rfl,.inr ⟨rfl,h20,by simp,by simp,G,hMW.trans hM,hR,hS,hG,hP⟩⟩
   ·have h20' : ¬ (20 : Int) ≤ (n : Int) := by omega
    simp [e0,e1,e2,e7,e8,h20']
    refine FN.mono (insert_c (a := 0) (b := n) h (by omega) (Nat.le_refl _) (by omega) fun p q _ h2 h3 => ht p q h2 h3) ?_
    rintro _ W2 ⟨⟨u,rfl⟩,hM,G,hR,hS,hG,hP⟩
    simp
    refine tail _ _ 0 ⟨⟨?_,?_,?_⟩,rfl,.inr ⟨rfl,.inl ⟨by omega,?_⟩,G,hR,hS,hP,hMW.trans hM⟩⟩ (by omega) <;> simp [e0,e1,e2,e6]
  ·have h40 : ¬ 40 ≤ n := by omega
   have h40' : ¬ (40 : Int) ≤ (n : Int) := by omega
   simp [e0,e1,e2,e7,e8,h40']
   refine FN.mono (insert_c (a := 20) (b := n) hG.r h20 (Nat.le_refl _) (by omega) fun p q h1 h2 h3 => by rw [hG.g.out p (by omega),hG.g.out q (by omega)]; exact ht p q h2 h3) ?_
   rintro _ W2 ⟨⟨u,rfl⟩,hM,G2,hR2,hS2,hG2,hP2⟩
   have hl : Sd wyLt G2 0 20 := fun i j h1 h2 h3 => by rw [hG2.out i (by omega),hG2.out j (by omega)]; exact hG.s i j h1 h2 h3
   simp
   by_cases hgt : 20 < n
   ·have htg : ∀ i j, 0 ≤ i → i < 20 → 20 ≤ j → j < n → (G2 i).2 < (G2 j).2 := fun i j h1 h2 h3 h4 => by
     obtain ⟨j',a1,a2,e⟩ := hG2.in' j h3 h4
     rw [e,hG2.out i (by omega),hG.g.out j' (by omega)]
     obtain ⟨i',b1,b2,e'⟩ := hG.g.in' i h1 h2
     rw [e']
     exact ht i' j' (by omega) a2
    refine tail _ _ 1 ⟨⟨?_,?_,?_⟩,rfl,.inl ⟨rfl,?_,hgt,G2,hR2,⟨hl,hS2,htg⟩,hP2.trans hG.p,hG.m.trans hM⟩⟩ (by omega) <;> simp [e0,e1,e2,e6]
   ·refine tail _ _ 0 ⟨⟨?_,?_,?_⟩,rfl,.inr ⟨rfl,.inl ⟨by omega,?_⟩,G2,hR2,fun i j h1 h2 h3 => hl i j h1 h2 (by omega),hP2.trans hG.p,hG.m.trans hM⟩⟩ (by omega) <;> simp [e0,e1,e2,e6]
 case jn =>
  clear hst e0 e1 e2 e6
  intro σ W3 k2 hB hk2
  refine WC_loop (StB base n v F w) k2 hB ?_
  rintro k ρ ds W4 ⟨⟨e0,e1,e2⟩,rfl,hst⟩
  rcases hst with ⟨rfl, e6, h20, G, hR, hMg, hP, hM⟩ | ⟨rfl, h6, G, hR, hS, hP, hM⟩
  ·have h20' : (20 : Int) < (n : Int) := by omega
   have h40 : ¬ 40 ≤ n := by omega
   have h40' : ¬ (40 : Int) ≤ (n : Int) := by omega
   simp [e1,e6,w40,h20']
   refine WC_loop (StC v n W4) 0 ⟨rfl,by simp [e0,e1,e2,e6],rfl,rfl⟩ ?_
   rintro k5 ρ5 ds5 W5 ⟨rfl,⟨f0,f1,f2,f6,f7,f8⟩,rfl,rfl⟩
   simp [f0,f1,f2,f6,f7,f8,h40',w020,h20']
   refine FN.mono (sym_c (by omega) n (a := 0) (m := 20) (b := n) (by omega) hR (by omega) h20 (Nat.le_refl _) hMg) ?_
   rintro _ W6 ⟨⟨u,rfl⟩,hM6,G3,hR3,hS3,hG3,hP3⟩
   simp [f6,w40]
   exact ⟨by simp [f0,f1,f2],rfl,.inr ⟨rfl,.inr (by simp),G3,hR3,hS3,hP3.trans hP,hM.trans hM6⟩⟩
  ·rcases h6 with ⟨hle, e6⟩ | e6
   ·have hle' : ¬ (20 : Int) < (n : Int) := by omega
    have hle2 : ¬ 20 < n := by omega
    simp [e1,e6,hle']
    exact ⟨G,hR,hS,hP,hM⟩
   ·have hle' : ¬ (40 : Int) < (n : Int) := by omega
    have hle2 : ¬ 40 < n := by omega
    simp [e1,e6,hle']
    exact ⟨G,hR,hS,hP,hM⟩
theorem stableF_c {w : World} {base n : Nat} {v : Value} {F : Nat → Wy × Nat} (h : RF w base v n F) (hn : n ≤ 30) (ht : ∀ p q, p < q → q < n → (F p).2 < (F q).2) : FN Tryz.prog 61 [v, (Value.func (.func 62) #[] #[])] w fun e w' => (∃ u, e = .returned u) ∧ ∃ G, RF w' base v n G ∧ Sd wyLt G 0 n ∧ PM G F n ∧ Mod (fun k => k = slB v) w w' := by
 refine FN_enter Tryz.func61 rfl rfl (by kernel_rfl) ?_
 have hlen := fun ty W => (sl_of_own h).isLen (P := Tryz.prog) (t := 48) (by simp) ty W
 simp [hlen]
 refine FN.mono (stable_c h hn ht) ?_
 rintro _ w2 ⟨⟨u,rfl⟩,hG⟩
 simp
 exact hG
end Go.Proofs