/-
 Contracts of the functions that the law reaches,step by step.
-/
import Derived.Test.YtdgkfilajbnhgaaGreatGeN
namespace Go.Proofs
open Pk
set_option maxRecDepth 10000
theorem Sl.keepN {w w' : World} {s n : Nat} {v : Value} {cs : List Value} (h : Sl w s v n cs) (hw : cs ≠ [] → ∀ (a : Addr) (u : Value), a.block = slB v → w.cell? a = some u → w'.cell? a = some u) : Sl w' s v n cs :=
 ⟨h.len,h.val,fun j u hj => hw (fun e => by rw [e] at hj; simp at hj) _ _ rfl (h.at_ j u hj)⟩
theorem cell_map {w : World} {a : Addr} {u : Value} {κ ν : Type} {ek : κ → Value} {ew : ν → Value} {r : Nat} {m : List (κ × ν)} (hu : w.cell? a = some u) (hm : MapAt ek ew w r m) : a.block ≠ r := fun e => by
 obtain ⟨⟨es,c,h1,-⟩,-⟩ := hm
 unfold World.cell? at hu
 rw [e,h1] at hu
 simp at hu
theorem foot_cell {w : World} {t R : Nat} {M : ME} {a : Addr} {u : Value} (h : TabAt w t R M) (hu : w.cell? a = some u) (hn : a.block ≠ t) : ¬ Foot t R M a.block := by
 rintro (e | e | ⟨x, hx, e⟩)
 ·exact hn e
 ·exact cell_map hu h.map e
 ·exact cell_map hu (h.inner x hx) e
structure Pl (p t R q r A1 A2 A3 B1 : Nat) : Prop where
 pt : p < t
 pR : p < R
 tq : t < q
 Rq : R < q
 tr : t < r
 Rr : R < r
 tR : t ≠ R
 qr : q ≠ r
 qA : q < A1
 rA : r < A1
 a1 : A2 = A1 + 1
 a2 : A3 = A2 + 1
 a3 : B1 = A3 + 1
structure MI (p t R q r A1 A2 A3 B1 : Nat) (W : World) (v vp vt vl : Value) (lp ld : List Ct) (M : ME) (sl : List St) (m : VM) (ll : List LR) : Prop where
 plan : PlanAt W p v lp
 tab : TabAt W t R M
 led : LedAt W q r m
 b1 : Blk W A1 [vp]
 b2 : Blk W A2 [vt]
 b3 : Blk W A3 [vl]
 pl : RPl W vp ld
 tb : TRw W vt sl
 lg : RLg W vl ll
 ov : lp ≠ [] → B1 ≤ slB v
 op : ld ≠ [] → B1 ≤ slB vp
 ot : sl ≠ [] → B1 ≤ slB vt
 ol : ll ≠ [] → B1 ≤ slB vl
 of : ∀ k,Foot t R M k → k = t ∨ k = R ∨ B1 ≤ k
section
variable {p t R q r A1 A2 A3 B1 : Nat} {W W' : World} {v vp vt vl v' : Value} {lp ld lp' : List Ct} {M M' : ME} {sl : List St} {m m' : VM} {ll : List LR}
theorem flat_ne' {α : Type} {g : α → List Value} {l : List α} (h : l.flatMap g ≠ []) : l ≠ [] := fun e => h (by rw [e]; rfl)
theorem MI.rows {S : Nat → Prop} (h : MI p t R q r A1 A2 A3 B1 W v vp vt vl lp ld M sl m ll) (hM : Mod S W W') (hS : ∀ (a : Addr) (u : Value), W.cell? a = some u → B1 ≤ a.block → ¬ S a.block) : RPl W' vp ld ∧ TRw W' vt sl ∧ RLg W' vl ll ∧ Sl W' 5 v lp.length (lp.flatMap ctC) :=
 ⟨Sl.keepN h.pl fun hn a u ha hu => hM.cell hu (hS a u hu (by rw [ha]; exact h.op (flat_ne' hn))),
  Sl.keepN h.tb fun hn a u ha hu => hM.cell hu (hS a u hu (by rw [ha]; exact h.ot (flat_ne' hn))),
  Sl.keepN h.lg fun hn a u ha hu => hM.cell hu (hS a u hu (by rw [ha]; exact h.ol (flat_ne' hn))),
  Sl.keepN h.plan.row fun hn a u ha hu => hM.cell hu (hS a u hu (by rw [ha]; exact h.ov (flat_ne' hn)))⟩
theorem MI.ext (h : MI p t R q r A1 A2 A3 B1 W v vp vt vl lp ld M sl m ll) (hE : Ext W W') : MI p t R q r A1 A2 A3 B1 W' v vp vt vl lp ld M sl m ll :=
 {h with plan := h.plan.ext hE,tab := h.tab.ext hE,led := h.led.ext hE,b1 := h.b1.ext hE,b2 := h.b2.ext hE,b3 := h.b3.ext hE,pl := h.pl.ext hE,tb := h.tb.ext hE,lg := h.lg.ext hE }
theorem MI.modp (N : Pl p t R q r A1 A2 A3 B1) (h : MI p t R q r A1 A2 A3 B1 W v vp vt vl lp ld M sl m ll) (hM : Mod (· = p) W W') (hP : PlanAt W' p v' lp') (ho : lp' ≠ [] → B1 ≤ slB v') : MI p t R q r A1 A2 A3 B1 W' v' vp vt vl lp' ld M sl m ll := by
 obtain ⟨k1,k2,k3,k4,k5,k6,k7,k8,k9,k10,k11,k12,k13⟩ := N
 obtain ⟨r1,r2,r3,-⟩ := h.rows hM fun a u hu hb => by omega
 exact ⟨hP,h.tab.mod hM fun k hk e => by have := h.of k hk; omega,h.led.mod hM (by omega) (by omega),h.b1.mod hM (by omega),h.b2.mod hM (by omega),h.b3.mod hM (by omega),r1,r2,r3,ho,h.op,h.ot,h.ol,h.of⟩
theorem MI.modt (N : Pl p t R q r A1 A2 A3 B1) (h : MI p t R q r A1 A2 A3 B1 W v vp vt vl lp ld M sl m ll) (hM : Mod (Foot t R M) W W') (hT : TabAt W' t R M') (hf : ∀ k, Foot t R M' k → Foot t R M k ∨ W.heap.size ≤ k) : MI p t R q r A1 A2 A3 B1 W' v vp vt vl lp ld M' sl m ll := by
 obtain ⟨k1,k2,k3,k4,k5,k6,k7,k8,k9,k10,k11,k12,k13⟩ := N
 have hb := h.b3.lt
 obtain ⟨r1,r2,r3,r4⟩ := h.rows hM fun a u hu hb => foot_cell h.tab hu (by omega)
 have nf : ∀ k,k < B1 → k ≠ t → k ≠ R → ¬ Foot t R M k := fun k h1 h2 h3 h4 => by have := h.of k h4; omega
 exact ⟨⟨h.plan.blk.mod hM (nf _ (by omega) (by omega) (by omega)), r4⟩, hT, h.led.mod hM (nf _ (by omega) (by omega) (by omega)) (nf _ (by omega) (by omega) (by omega)), h.b1.mod hM (nf _ (by omega) (by omega) (by omega)), h.b2.mod hM (nf _ (by omega) (by omega) (by omega)), h.b3.mod hM (nf _ (by omega) (by omega) (by omega)), r1, r2, r3, h.ov, h.op, h.ot, h.ol, fun k hk => by
  rcases hf k hk with hk | hk
  ·exact h.of k hk
  ·omega⟩
theorem MI.modr (N : Pl p t R q r A1 A2 A3 B1) (h : MI p t R q r A1 A2 A3 B1 W v vp vt vl lp ld M sl m ll) (hM : Mod (· = r) W W') (hL : LedAt W' q r m') : MI p t R q r A1 A2 A3 B1 W' v vp vt vl lp ld M sl m' ll := by
 obtain ⟨k1,k2,k3,k4,k5,k6,k7,k8,k9,k10,k11,k12,k13⟩ := N
 obtain ⟨r1,r2,r3,r4⟩ := h.rows hM fun a u hu hb => by omega
 exact ⟨⟨h.plan.blk.mod hM (by omega),r4⟩,h.tab.mod hM fun k hk e => by have := h.of k hk; omega,hL,h.b1.mod hM (by omega),h.b2.mod hM (by omega),h.b3.mod hM (by omega),r1,r2,r3,h.ov,h.op,h.ot,h.ol,h.of⟩
theorem MI.set1 (N : Pl p t R q r A1 A2 A3 B1) (h : MI p t R q r A1 A2 A3 B1 W v vp vt vl lp ld M sl m ll) {vp' : Value} {ld' : List Ct} (hp : RPl W vp' ld') (ho : ld' ≠ [] → B1 ≤ slB vp') : MI p t R q r A1 A2 A3 B1 (W.setCell ⟨A1, 0, none⟩ vp') v vp' vt vl lp ld' M sl m ll := by
 obtain ⟨k1,k2,k3,k4,k5,k6,k7,k8,k9,k10,k11,k12,k13⟩ := N
 have hM := Mod.setCell (S := (· = A1)) (Mod.refl _ W) ⟨A1,0,none⟩ vp' (.inl rfl)
 obtain ⟨r1,r2,r3,r4⟩ := h.rows hM fun a u hu hb => by omega
 exact ⟨⟨h.plan.blk.mod hM (by omega), r4⟩, h.tab.mod hM fun k hk e => by have := h.of k hk; omega, h.led.mod hM (by omega) (by omega), h.b1.set 0 _, h.b2.mod hM (by omega), h.b3.mod hM (by omega),
  Sl.keepN hp fun hn a u ha hu => hM.cell hu (by have := ho (flat_ne' hn); omega),r2,r3,h.ov,ho,h.ot,h.ol,h.of⟩
theorem MI.set2 (N : Pl p t R q r A1 A2 A3 B1) (h : MI p t R q r A1 A2 A3 B1 W v vp vt vl lp ld M sl m ll) {vt' : Value} {sl' : List St} (hp : TRw W vt' sl') (ho : sl' ≠ [] → B1 ≤ slB vt') : MI p t R q r A1 A2 A3 B1 (W.setCell ⟨A2, 0, none⟩ vt') v vp vt' vl lp ld M sl' m ll := by
 obtain ⟨k1,k2,k3,k4,k5,k6,k7,k8,k9,k10,k11,k12,k13⟩ := N
 have hM := Mod.setCell (S := (· = A2)) (Mod.refl _ W) ⟨A2,0,none⟩ vt' (.inl rfl)
 obtain ⟨r1,r2,r3,r4⟩ := h.rows hM fun a u hu hb => by omega
 exact ⟨⟨h.plan.blk.mod hM (by omega), r4⟩, h.tab.mod hM fun k hk e => by have := h.of k hk; omega, h.led.mod hM (by omega) (by omega), h.b1.mod hM (by omega), h.b2.set 0 _, h.b3.mod hM (by omega),
  r1,Sl.keepN hp fun hn a u ha hu => hM.cell hu (by have := ho (flat_ne' hn); omega),r3,h.ov,h.op,ho,h.ol,h.of⟩
theorem MI.set3 (N : Pl p t R q r A1 A2 A3 B1) (h : MI p t R q r A1 A2 A3 B1 W v vp vt vl lp ld M sl m ll) {vl' : Value} {ll' : List LR} (hp : RLg W vl' ll') (ho : ll' ≠ [] → B1 ≤ slB vl') : MI p t R q r A1 A2 A3 B1 (W.setCell ⟨A3, 0, none⟩ vl') v vp vt vl' lp ld M sl m ll' := by
 obtain ⟨k1,k2,k3,k4,k5,k6,k7,k8,k9,k10,k11,k12,k13⟩ := N
 have hM := Mod.setCell (S := (· = A3)) (Mod.refl _ W) ⟨A3,0,none⟩ vl' (.inl rfl)
 obtain ⟨r1,r2,r3,r4⟩ := h.rows hM fun a u hu hb => by omega
 exact ⟨⟨h.plan.blk.mod hM (by omega), r4⟩, h.tab.mod hM fun k hk e => by have := h.of k hk; omega, h.led.mod hM (by omega) (by omega), h.b1.mod hM (by omega), h.b2.mod hM (by omega), h.b3.set 0 _,
  r1,r2,Sl.keepN hp fun hn a u ha hu => hM.cell hu (by have := ho (flat_ne' hn); omega),h.ov,h.op,h.ot,ho,h.of⟩
end
theorem RelT.congr {M M' : ME} {l : List St} (h : RelT M l) (h1 : ∀ k, sps M' k = sps M k) (h2 : total M' = total M) : RelT M' l :=
 ⟨h.uni,fun s => by rw [h1]; exact h.get s,by rw [h2]; exact h.cnt,h.ok⟩
end Go.Proofs