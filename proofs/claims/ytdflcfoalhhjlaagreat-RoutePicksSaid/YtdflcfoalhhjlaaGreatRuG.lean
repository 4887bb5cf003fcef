/-
 Contracts of the functions that the law reaches,step by step.
-/
import Derived.Test.YtdflcfoalhhjlaaGreatRuF
import Derived.Test.YtdflcfoalhhjlaaGreatRuA
namespace Go.Proofs
open Pk
set_option maxRecDepth 10000
structure AI (w w1 : World) (A3 base : Nat) (L : List Ct) (snt : Ct → Int → Option Int) (q : Qu) (til : Int) (W : World) (i : Nat) (pre : List Tl) (no' : List Ct) (nv' vo : Value) : Prop where
 x : Ext w W
 m : Mod (fun k => k = A3) w1 W
 qb : Blk W A3 (quC (qNo q no') nv')
 no : SlB W 5 nv' no'.length (no'.flatMap ctC)
 o : W.ownsRow base 66 8 vo pre.length (pre.flatMap wtC)
 nn : no' ≠ [] → slN vo = false → slB nv' ≠ slB vo
 nq : no' ≠ [] → slB nv' ≠ A3
 eno : no' = q.no ++ pre.map (·.f)
 bad : (badQ q || badE q) = true → pre = []
 ok : (badQ q || badE q) = false → WaysP L snt q til q.no pre
 len : pre.length = i
end Go.Proofs
namespace Go.Proofs
open Pk
set_option maxRecDepth 10000
theorem fWay : flatA Tryz.prog 66 = some [.int .u64,.int .i64,.int .u32,.int .u32,.int .u32,.int .u64,.int .u64,.int .u64] := by kernel_rfl
theorem way_eq (a b : Wy) : eqcs (wyC a) (wyC b) = decide (a = b) := by
 obtain ⟨a1,a2,a3,a4,a5,a6,a7,a8⟩ := a
 obtain ⟨b1,b2,b3,b4,b5,b6,b7,b8⟩ := b
 rw [Bool.eq_iff_iff]
 simp [eqcs,eqc]
theorem eqWy (a b : Wy) (w : World) : (binOp .eql 66 (wyV a) (wyV b)).run Tryz.prog w = .ok (.bool (decide (a = b))) w := by
 rw [← way_eq]
 exact run_eql_flat w fWay _ _ rfl rfl
theorem neqWy (a b : Wy) (w : World) : (binOp .neq 66 (wyV a) (wyV b)).run Tryz.prog w = .ok (.bool !(decide (a = b))) w := by
 rw [← way_eq]
 exact run_neq_flat w fWay _ _ rfl rfl
structure C8 (w : World) (b o : Nat) (x : Wy) : Prop where
 c0 : w.cell? ⟨b,o,none⟩ = some (u64 x.a)
 c1 : w.cell? ⟨b,o + 1,none⟩ = some (i64 x.h)
 c2 : w.cell? ⟨b,o + 2,none⟩ = some (u32 x.n)
 c3 : w.cell? ⟨b,o + 3,none⟩ = some (u32 x.f.fr)
 c4 : w.cell? ⟨b,o + 4,none⟩ = some (u32 x.f.to')
 c5 : w.cell? ⟨b,o + 5,none⟩ = some (u64 x.f.sf)
 c6 : w.cell? ⟨b,o + 6,none⟩ = some (u64 x.f.su)
 c7 : w.cell? ⟨b,o + 7,none⟩ = some (u64 x.f.rate)
theorem wyRow {w : World} {v : Value} {l : List Wy} (h : Sl w 8 v l.length (l.flatMap wyC)) {i : Nat} (hi : i < l.length) : C8 w (slB v) (slO v + i * 8) l[i] := by
 have hx : l[i]? = some l[i] := by simp [hi]
 have f := fun j hj => flat_at wyC (s := 8) (fun _ => rfl) l i j _ hx hj
 have a := fun j u hj => h.at_ (i * 8 + j) u hj
 refine ⟨a 0 _ (f 0 (by omega)), ?_, ?_, ?_, ?_, ?_, ?_, ?_⟩
 ·have := a 1 _ (f 1 (by omega)); rwa [← Nat.add_assoc] at this
 ·have := a 2 _ (f 2 (by omega)); rwa [← Nat.add_assoc] at this
 ·have := a 3 _ (f 3 (by omega)); rwa [← Nat.add_assoc] at this
 ·have := a 4 _ (f 4 (by omega)); rwa [← Nat.add_assoc] at this
 ·have := a 5 _ (f 5 (by omega)); rwa [← Nat.add_assoc] at this
 ·have := a 6 _ (f 6 (by omega)); rwa [← Nat.add_assoc] at this
 ·have := a 7 _ (f 7 (by omega)); rwa [← Nat.add_assoc] at this
theorem wyIndex {w : World} {v : Value} {l : List Wy} (h : Sl w 8 v l.length (l.flatMap wyC)) (i : Nat) (hi : i < l.length) (W : World) : (Instr.indexAt 48 v (.int .i64 (i : Int))).run Tryz.prog W = .ok (.pointer (some ⟨slB v, slO v + i * 8, none⟩)) W := by
 have := Sl.index (P := Tryz.prog) (t := 48) h (by simp) .i64 i (by omega) (by omega) W
 simpa using this
theorem same_go {a b : List Wy} (hl : a.length = b.length) {i : Nat} (hi : i ≤ a.length) (h : ∀ j (h1 : j < a.length) (h2 : j < b.length), j < i → a[j] = b[j]) (he : i = a.length) : a = b :=
 List.ext_getElem hl fun j h1 h2 => h j h1 h2 (by omega)
theorem same_c {w : World} {v1 v2 : Value} {a b : List Wy} (h1 : SlB w 8 v1 a.length (a.flatMap wyC)) (h2 : SlB w 8 v2 b.length (b.flatMap wyC)) (hl : a.length ≤ 1000) : FN Tryz.prog 13 [v1, v2] w fun e w' => e = .returned (.bool (decide (a = b))) ∧ Ext w w' := by
 refine FN_enter Tryz.func13 rfl rfl (by kernel_rfl) ?_
 have len1 := fun ty W => h1.isLen (P := Tryz.prog) (t := 48) (by simp) ty W
 have len2 := fun ty W => h2.isLen (P := Tryz.prog) (t := 48) (by simp) ty W
 by_cases hne : a.length = b.length
 case neg =>
  have hne' : ¬ (a.length : Int) = (b.length : Int) := by omega
  have hd : ¬ a = b := fun e => hne (by rw [e])
  have hb : ((a.length : Int) != (b.length : Int)) = true := by simp [hne']
  simp [len1,len2,hb,hd]
  exact Ext.refl w
 simp [len1,len2,hne]
 refine WC_loop (fun k ρ ds w' => ∃ i : Nat,(k = a.length - i ∧ i ≤ a.length) ∧ (ρ 0 = v1 ∧ ρ 1 = v2 ∧ ρ 5 = i64 i) ∧ ds = [] ∧ Ext w w' ∧ ∀ j (h1 : j < a.length) (h2 : j < b.length),j < i → a[j] = b[j]) a.length ⟨0,⟨by simp,by simp⟩,by simp,rfl,Ext.refl w,fun j _ _ h => by omega⟩ ?_
 rintro k ρ ds W ⟨i,⟨rfl,hi⟩,⟨e0,e1,e5⟩,rfl,hX,hno⟩
 by_cases hlt : i < a.length
 ·have hlt2 : i < b.length := by omega
  simp [e0,e5,len1,hlt]
  refine WC_drawC 8 (.F 0 <| .F 1 <| .F 2 <| .F 3 <| .F 4 <| .F 5 <| .F 6 <| .F 7 <| .Z) (fun _ => false) rfl (by kernel_rfl) fun W2 hW2 => ?_
  have hE2 : Ext W W2 := hW2 ▸ Ext.drew _
  have s1 := (h1.ext (hX.trans hE2)).toSl (by omega)
  have s2 := (h2.ext (hX.trans hE2)).toSl (by omega)
  have r1 := wyRow s1 hlt
  have r2 := wyRow s2 hlt2
  have x1 := wyIndex s1 i hlt W2
  have x2 := wyIndex s2 i hlt2 W2
  have hq := neqWy a[i] b[i] W2
  have hwrap : IntKind.i64.wrap ((i : Int) + 1) = ((i + 1 : Nat) : Int) := by rw [wrap64 _ (by omega) (by omega)]; rfl
  simp [e0,e1,e5,x1,x2,r1.c0,r1.c1,r1.c2,r1.c3,r1.c4,r1.c5,r1.c6,r1.c7,r2.c0,r2.c1,r2.c2,r2.c3,r2.c4,r2.c5,r2.c6,r2.c7,hq]
  by_cases he : a[i] = b[i]
  ·simp [he,e5,hwrap]
   refine ⟨a.length - (i + 1),by omega,i + 1,⟨rfl,by omega⟩,by simp [e0,e1],hX.trans hE2,fun j h1 h2 hj => ?_⟩
   rcases Nat.lt_succ_iff_lt_or_eq.1 hj with h | rfl
   ·exact hno j h1 h2 h
   ·exact he
  ·have hd : ¬ a = b := fun e => he (by subst e; rfl)
   simp [he,hd]
   exact hX.trans hE2
 ·have : i = a.length := by omega
  subst this
  have hd : a = b := same_go hne (Nat.le_refl _) hno rfl
  simp [e0,e5,len1,hd]
  exact hX
end Go.Proofs