/-
 Contracts of the functions that the law reaches,step by step.
-/
import Derived.Test.YtmmneeomcefgbaaGreatDoorAuB
import Derived.Test.YtmmneeomcefgbaaGreatDoorEngAH
namespace Go.Proofs
open Pk
set_option maxRecDepth 10000
attribute [local simp] beq_dec bne_dec
abbrev ipnT : Tx := [105,112,110,58]
abbrev nobT : Tx := [100,116,110,58,110,111,110,101]
def endQ (r : Tx) : Option (Nat × Nat) := match cutAt 46 r with
 | none => none
 | some (x, y) => match bndP x 4294967295 with
  | none => none
  | some n => match bndP y 4294967295 with
   | none => none
   | some m => some (n,m)
def endP (s : Tx) : Option (Nat × Nat) :=
 if s = nobT then some (0, 0) else if Lib.hasPrefix s ipnT then match endQ (Lib.trimPrefix s ipnT) with
  | none => none
  | some (n,m) => if n = 0 then none else some (n,m)
 else none
theorem bndP_le {s : Tx} {b u : Nat} (h : bndP s b = some u) : u ≤ b := by
 unfold bndP at h
 split at h
 ·split at h
  ·rename_i hh; cases h; exact hh.1
  ·cases h
 ·cases h
theorem cutAt_len {c : UInt8} : ∀ {s x y : Tx}, cutAt c s = some (x, y) → x.length + y.length + 1 = s.length
 | [],_,_,h => by simp [cutAt] at h
 | b :: r, x, y, h => by
  unfold cutAt at h
  split at h
  ·simp at h; obtain ⟨rfl,rfl⟩ := h; simp
  ·split at h
   ·cases h
   ·rename_i x' y' h'
    simp at h
    obtain ⟨rfl,rfl⟩ := h
    have := cutAt_len h'
    simp; omega
set_option maxHeartbeats 4000000 in
theorem endp_c (s : Tx) (hs : s.length ≤ 1000000) {w : World} (hG : Gl w) (h8 : 8 ≤ w.heap.size) : FN Tryz.prog 188 [tv s] w fun e w' => Ext w w' ∧ match endP s with
  | none => e = .panicked (panE 130)
  | some (n,m) => e = .returned (eptV n m) := by
 refine FN_enter Tryz.func188 rfl rfl (by kernel_rfl) ?_
 have hE1 : Ext w (w.alloc (.cells #[u32 0,u32 0] 26)) := (Ext.refl w).alloc _
 have o1 : Blk (w.alloc (.cells #[u32 0,u32 0] 26)) w.heap.size [u32 0,u32 0] := Blk.new w _ _
 have z1 : (w.alloc (.cells #[u32 0,u32 0] 26)).heap.size = w.heap.size + 1 := by simp
 simp
 generalize (w.alloc (.cells #[u32 0,u32 0] 26)) = w1 at *
 by_cases hn : s = nobT
 ·subst hn
  simp [o1.cell 0 _ rfl,o1.cell 1 _ rfl,o1.thaw,cell_setCell]
  refine ⟨(((hE1.mod (S := fun k => w.heap.size ≤ k)).trans ((((Mod.refl (fun k => k = w.heap.size) w1).setC 0 _).setC 1 _).weaken fun k hk => by omega))).ext fun _ h => h,?_⟩
  simp [endP]
 have hq : (s == nobT) = false := by simpa using hn
 simp [hq]
 refine FN.mono (FN_of_calls Tryz.func240 rfl rfl (Tryz.strings_CutPrefix ⟨s.toArray⟩ ⟨#[105,112,110,58]⟩ w1)) ?_
 rintro _ w2 ⟨rfl,rfl⟩
 by_cases hp : Lib.hasPrefix s ipnT = true
 ·simp [hp]
  refine FN.mono (nmust_t 130 w2) ?_
  rintro _ w3 ⟨⟨u,rfl⟩,rfl⟩
  simp
  have hrl : (Lib.trimPrefix s ipnT).length ≤ s.length := by
   unfold Lib.trimPrefix
   split
   all_goals simp
  have hendP : endP s = match endQ (Lib.trimPrefix s ipnT) with
    | none => none
    | some (n,m) => if n = 0 then none else some (n,m) := by
   unfold endP
   rw [if_neg hn,if_pos hp]
  generalize Lib.trimPrefix s ipnT = r at *
  have hE4 : Ext w3 (w3.alloc (.cells #[tv r] 283)) := (Ext.refl _).alloc _
  have l4 : Blk (w3.alloc (.cells #[tv r] 283)) w3.heap.size [tv r] := Blk.new w3 _ _
  have z4 : (w3.alloc (.cells #[tv r] 283)).heap.size = w3.heap.size + 1 := by simp
  obtain ⟨lb,hlb⟩ : ∃ lb,w3.heap.size = lb := ⟨_,rfl⟩
  rw [hlb] at l4 z4 ⊢
  generalize (w3.alloc (.cells #[tv r] 283)) = w4 at *
  have hG4 := hG.ext (hE1.trans hE4)
  have o4 := o1.ext hE4
  refine WC_drawZ 14 (.F 0 <| .F 1 <| .F 2 <| .F 6 <| .F 7 <| .F 8 <| .D 13 <| .L 3 <| .L 4 <| .F 5 <| .L 9 <| .L 10 <| .F 11 <| .F 12 <| .W 13 <| .Z) (Xf fun k => k = lb) (Xf fun k => k = lb) (fun _ u W => ∃ j, u = ptr j ∧ lb < j ∧ Blk W j [u32 0, u32 0]) (fun ch w' => Ext w w' ∧ ch = panE 130 ∧ endP s = none) rfl (by kernel_rfl) (fun _ h => h) (fun _ _ _ _ ⟨j, h1, h2, h3⟩ hA => ⟨j, h1, h2, h3.agr hA (Xf_f (by omega))⟩) ?_ fun W hW => ?_
  ·rintro ch ρ' w' ⟨h1,rfl,h2⟩
   simp
   rw [h2]
   exact ⟨h1,trivial⟩
  have hWE : Ext w4 W := hW ▸ Ext.drew _
  have l5 := l4.ext hWE
  simp
  refine RLX_float (fun W' h' => ?_) ?_
  ·simp
   have := hWE.size
   have := h'.size
   exact ⟨(Ext.refl _).alloc _,by omega,Blk.new W' [u32 0,u32 0] 26⟩
  simp
  refine RLX_loose fun W5 h5 => ?_
  have l6 := l5.ext h5
  have hG6 := hG4.ext (hWE.trans h5)
  simp
  refine FN.mono (upto_c l6 (by omega)) ?_
  rintro e6 w6 ⟨M6,hp6⟩
  rcases ho : cutAt 46 r with _ | ⟨x, y⟩
  ·rw [ho] at hp6
   obtain rfl : e6 = _ := hp6
   simp
   refine ⟨((((hE1.trans hE4).trans (hWE.trans h5)).mod (S := fun k => w.heap.size ≤ k)).trans (M6.weaken fun k hk => by have := hE1.size; omega)).ext fun _ h => h,?_⟩
   rw [hendP]
   simp [endQ,ho]
  rw [ho] at hp6
  obtain ⟨rfl,l7⟩ := hp6
  have hxy := cutAt_len ho
  have hsz := hE1.size
  have hG7 := hG6.mod M6 fun k hk => by omega
  have hM7 : Mod (fun k => w.heap.size ≤ k) w w6 := ((((hE1.trans hE4).trans (hWE.trans h5)).mod (S := fun k => w.heap.size ≤ k)).trans (M6.weaken fun k hk => by omega))
  have o7 := (o4.ext (hWE.trans h5)).mod M6 (by have := o1.lt; omega)
  simp
  refine KR_mk (Xf_agr M6) ?_
  simp
  refine RLX_loose fun W8 h8 => ?_
  simp
  refine FN.mono (bounded_c x 4294967295 (by omega) (by omega) (hG7.ext h8)) ?_
  rintro e9 w9 ⟨hE9,hp9⟩
  rcases ho2 : bndP x 4294967295 with _ | n
  ·rw [ho2] at hp9
   obtain rfl : e9 = _ := hp9
   simp
   refine ⟨(hM7.trans (h8.trans hE9).mod).ext fun _ h => h,?_⟩
   rw [hendP]
   simp [endQ,ho,ho2]
  rw [ho2] at hp9
  obtain rfl : e9 = _ := hp9
  have hnle := bndP_le ho2
  have hw1 : IntKind.u32.wrap (n : Int) = n := wrap32u _ (by omega) (by omega)
  have l9 := (l7.ext h8).ext hE9
  simp
  refine KR_ext hE9 ?_
  simp [hw1]
  refine RLX_loose fun W10 h10 => ?_
  simp
  refine FN.mono (rest_c (l9.ext h10)) ?_
  rintro e11 w11 ⟨M11,rfl⟩
  simp
  refine KR_mk (Xf_agr M11) ?_
  simp
  refine RLX_loose fun W12 h12 => ?_
  have hM12 : Mod (fun k => w.heap.size ≤ k) w W12 := ((hM7.trans ((h8.trans hE9).trans h10).mod).trans (M11.weaken fun k hk => by omega)).trans h12.mod
  have hG12 := hG.mod hM12 fun k hk => by omega
  have o12 := ((o7.ext ((h8.trans hE9).trans h10)).mod M11 (by have := o1.lt; omega)).ext h12
  simp
  refine FN.mono (bounded_c y 4294967295 (by omega) (by omega) hG12) ?_
  rintro e13 w13 ⟨hE13,hp13⟩
  rcases ho3 : bndP y 4294967295 with _ | m
  ·rw [ho3] at hp13
   obtain rfl : e13 = _ := hp13
   simp
   refine ⟨(hM12.trans hE13.mod).ext fun _ h => h,?_⟩
   rw [hendP]
   simp [endQ,ho,ho2,ho3]
  rw [ho3] at hp13
  obtain rfl : e13 = _ := hp13
  have hmle := bndP_le ho3
  have hw2 : IntKind.u32.wrap (m : Int) = m := wrap32u _ (by omega) (by omega)
  simp
  refine KR_ext hE13 ?_
  simp [hw2]
  refine RLX_wait fun v14 W14 h14 ⟨j,hj,hlj,hjb⟩ => ?_
  subst hj
  have o14 := (o12.ext hE13).ext h14
  have hM14 : Mod (fun k => w.heap.size ≤ k) w W14 := hM12.trans (hE13.trans h14).mod
  have hM15 : Mod (fun k => k = j) W14 ((W14.setCell ⟨j,0,none⟩ (u32 n)).setCell ⟨j,1,none⟩ (u32 m)) := ((Mod.refl _ W14).setC 0 _).setC 1 _
  have j15 := (hjb.set 0 (u32 n)).set 1 (u32 m)
  simp only [List.set_cons_zero,List.set_cons_succ] at j15
  have o15 := o14.mod hM15 (by have := o1.lt; omega)
  have hM16 := hM14.trans (hM15.weaken fun k hk => by omega)
  simp [hjb.cell 0 _ rfl,hjb.cell 1 _ rfl,hjb.thaw,cell_setCell]
  generalize ((W14.setCell ⟨j,0,none⟩ (u32 n)).setCell ⟨j,1,none⟩ (u32 m)) = w16 at *
  have hE0 : endP s = if n = 0 then none else some (n, m) := by
   rw [hendP]
   simp [endQ,ho,ho2,ho3]
  by_cases h0 : n = 0
  ·have h0' : ¬ 0 < n := by omega
   simp [h0']
   refine FN.mono (nmust_f 130 w16) ?_
   rintro _ w17 ⟨rfl,rfl⟩
   simp
   refine ⟨hM16.ext fun _ h => h,?_⟩
   rw [hE0,if_pos h0]
   trivial
  ·have h0' : 0 < n := by omega
   simp [h0']
   refine FN.mono (nmust_t 130 w16) ?_
   rintro _ w17 ⟨⟨x',rfl⟩,rfl⟩
   simp [j15.cell 0 _ rfl,j15.cell 1 _ rfl,o15.cell 0 _ rfl,o15.cell 1 _ rfl,o15.thaw,cell_setCell]
   refine ⟨(hM16.trans ((((Mod.refl (fun k => k = w.heap.size) w17).setC 0 _).setC 1 _).weaken fun k hk => by omega)).ext fun _ h => h,?_⟩
   rw [hE0,if_neg h0]
   exact ⟨rfl,rfl⟩
 ·have hp' : Lib.hasPrefix s ipnT = false := by simpa using hp
  simp [hp']
  refine FN.mono (nmust_f 130 w2) ?_
  rintro _ w3 ⟨rfl,rfl⟩
  simp
  refine ⟨hE1,?_⟩
  simp [endP,hn,hp']
theorem ncaught_idle (a b : Value) (w : World) : CallsDIn (FR none) 0 Tryz.prog 185 #[a, b] .returning w fun e u' w' => (∃ v, e = .returned v) ∧ u' = .returning ∧ w' = w := by
 refine callsDIn_of_wpSIn Tryz.func185 rfl trivial fun c₀ cs hu => ?_
 apply wpSIn_seq
 apply wpSIn_region
 simp [wpOpsSIn,go_sem,recoverD,hu,Exit.thenS]
 apply wpSIn_seq
 apply wpSIn_region
 simp [wpOpsSIn,go_sem,Act.eval,Array.replicate,Exit.thenS]
 refine wpSIn_cond (t := false) (by simp [Act.eval]) ?_
 simp only [Bool.false_eq_true,if_false]
 refine wpSIn_of_wpIn rfl (wpIn_skip ?_)
 cases c₀
 simp_all [bodyPostS,results]
theorem nLV_caught {rs : Array ResultVar} {R : Ending → World → Prop} {ρ : Env} {ds : List Deferred} {w : World} {a b : Value} (h : LV Tryz.prog rs R ρ ds .returning w) :
  LV Tryz.prog rs R ρ ({ target := .fn (.func 185) #[],args := #[a,b] } :: ds) .returning w := by
 refine ⟨by simp, .inr ⟨.func 185, #[], 185, #[a, b], rfl, ?_, ?_⟩⟩
 ·have := callFunc_enter Tryz.func185 rfl rfl #[a,b] w
  simp [invoke]
 ·refine (ncaught_idle a b w).mono ?_
  rintro e u' w' ⟨⟨v,rfl⟩,rfl,rfl⟩
  exact h
theorem ncaught_panic {b : Nat} {e0 e : Int} {f : Value} {w : World} {R : World → Prop} (hb : Var w b (i64 e0)) (hf : CV Tryz.prog f [] (w.setCell ⟨b, 0, none⟩ (i64 e)) fun en w' => (∃ v, en = .returned v) ∧ R w') :
  CallsDIn (FR none) 0 Tryz.prog 185 #[ptr b,f] (.panicking [⟨.iface 48 (i64 e),false,false⟩]) w fun en u' w' => (∃ v,en = .returned v) ∧ settle u' = .returning ∧ R w' := by
 refine callsDIn_of_wpSIn Tryz.func185 rfl trivial fun c₀ cs hu => ?_
 apply wpSIn_seq
 apply wpSIn_region
 simp [wpOpsSIn,go_sem,recoverD,hu,Exit.thenS]
 refine wpSIn_of_wpIn rfl ?_
 obtain ⟨T,hT⟩ : ∃ T : Array Value,T = #[ptr b,f] ++ ((Array.replicate 12 undef).setIfInBounds 3 (.iface 48 (i64 e))).setIfInBounds 2 (.iface 48 (i64 e)) := ⟨_,rfl⟩
 rw [← hT]
 have hA : Ag 14 T (fun t => T.getD t undef) := ⟨by rw [hT]; simp,fun _ _ => rfl⟩
 have t0 : T.getD 0 undef = ptr b := by rw [hT]; rfl
 have t1 : T.getD 1 undef = f := by rw [hT]; rfl
 have t4 : T.getD 4 undef = .iface 48 (i64 e) := by rw [hT]; rfl
 generalize hρ : (fun t => T.getD t undef : Env) = ρ at hA
 have r0 : ρ 0 = ptr b := by rw [← hρ]; exact t0
 have r1 : ρ 1 = f := by rw [← hρ]; exact t1
 have r4 : ρ 4 = .iface 48 (i64 e) := by rw [← hρ]; exact t4
 refine wpIn_mono (vc_sound (r := none) _ (fun e _ ds w' => e = .normal ∧ ds = [] ∧ R w') ρ [] w ?_ (by kernel_rfl) _ hA) ?_
 ·have hn : ∀ W,(binOp .neq 20 (.iface 48 (i64 e)) .nilIface).run Tryz.prog W = .ok (.bool true) W := fun W => by simp [go_sem]
  have hta : ∀ W,(Instr.typeAssert (.iface 48 (i64 e)) 20 48 false).run Tryz.prog W = .ok (i64 e) W := fun W => by kernel_rfl
  simp [r0,r1,r4,hb.cell,hb.thaw,hn,hta]
  refine CV.mono hf ?_
  rintro _ w' ⟨⟨v,rfl⟩,hR⟩
  simp
  exact hR
 ·rintro _ a w' ⟨ρ',hA',rfl,hd,hR⟩
  exact ⟨hd,_,rfl,.tuple #[],by simp [results],⟨_,rfl⟩,rfl,hR⟩
theorem nLV_panic {rs : Array ResultVar} {R : Ending → World → Prop} {ρ : Env} {ds : List Deferred} {w : World} {b : Nat} {e0 e : Int} {f : Value} (hb : Var w b (i64 e0)) (hf : CV Tryz.prog f [] (w.setCell ⟨b, 0, none⟩ (i64 e)) fun en w' => (∃ v, en = .returned v) ∧ LV Tryz.prog rs R ρ ds .returning w') :
  LV Tryz.prog rs R ρ ({ target := .fn (.func 185) #[],args := #[ptr b,f] } :: ds) (.panicking [⟨.iface 48 (i64 e),false,false⟩]) w := by
 refine ⟨by simp, .inr ⟨.func 185, #[], 185, #[ptr b, f], rfl, ?_, ?_⟩⟩
 ·have := callFunc_enter Tryz.func185 rfl rfl #[ptr b,f] w
  simp [invoke]
 ·refine (ncaught_panic hb hf).mono ?_
  rintro en u' w' ⟨⟨v,rfl⟩,hu,hR⟩
  show LV _ _ _ _ _ (settle u') _
  rw [hu]
  exact hR
def parseP (s : Tx) : Option (Nat × Nat) := if s.length ≤ 100 then endP s else none
theorem parse1_c {w : World} {b : Nat} {x y : Value} (hb : Blk w b [x, y]) : FN Tryz.prog 186 [ptr b] w fun e w' => (∃ v, e = .returned v) ∧ w' = (w.setCell ⟨b, 0, none⟩ (u32 0)).setCell ⟨b, 1, none⟩ (u32 0) := by
 refine FN_enter Tryz.func186 rfl rfl (by kernel_rfl) ?_
 simp [hb.cell 0 _ rfl,hb.cell 1 _ rfl,hb.thaw,cell_setCell]
set_option maxHeartbeats 2000000 in
theorem parse_c (s : Tx) (hs : s.length ≤ 1000000) {w : World} (hG : Gl w) (h8 : 8 ≤ w.heap.size) : FN Tryz.prog 146 [tv s] w fun e w' => Ext w w' ∧ match parseP s with
  | none => ∃ c : Int,c ≠ 0 ∧ e = .returned (.tuple #[eptV 0 0,i64 c])
  | some (n,m) => e = .returned (.tuple #[eptV n m,i64 0]) := by
 refine FN_enter Tryz.func146 rfl rfl (by kernel_rfl) ?_
 have hE1 : Ext w ((w.alloc (.cells #[u32 0,u32 0] 26)).alloc (.cells #[i64 0] 48)) := ((Ext.refl w).alloc _).alloc _
 have o1 : Blk ((w.alloc (.cells #[u32 0,u32 0] 26)).alloc (.cells #[i64 0] 48)) w.heap.size [u32 0,u32 0] := (Blk.new w [u32 0,u32 0] 26).ext ((Ext.refl _).alloc _)
 have q1 : Var ((w.alloc (.cells #[u32 0, u32 0] 26)).alloc (.cells #[i64 0] 48)) (w.heap.size + 1) (i64 0) := by
  have := Var.new (w.alloc (.cells #[u32 0,u32 0] 26)) (i64 0) 48
  simpa using this
 simp
 obtain ⟨a,ha⟩ : ∃ a,w.heap.size = a := ⟨_,rfl⟩
 rw [ha] at o1 q1 ⊢
 generalize ((w.alloc (.cells #[u32 0,u32 0] 26)).alloc (.cells #[i64 0] 48)) = w1 at *
 have pan : ∀ (c : Int) (W : World) (ρ : Env) (R : Ending → World → Prop), ρ 2 = ptr a → ρ 3 = ptr (a + 1) → Ext w1 W → (∀ W', Ext w W' → R (.returned (.tuple #[eptV 0 0, i64 c])) W') → LV Tryz.prog #[ResultVar.cell 2 26, ResultVar.cell 3 48] R ρ [{ target := .fn (.func 185) #[], args := #[ptr (a + 1), .func (.func 186) #[] #[ptr a]] }] (.panicking (panE c)) W := by
  intro c W ρ R e2 e3 hE hR
  have cW := q1.ext hE
  have xW := o1.ext hE
  refine nLV_panic cW ?_
  rw [CV_func]
  have hM1 : Mod (fun k => k = a + 1) W (W.setCell ⟨a + 1,0,.none⟩ (i64 c)) := (Mod.refl _ _).setC _ _
  have xW1 := xW.mod hM1 (by omega)
  have cW1 := cW.set (i64 c)
  generalize (W.setCell ⟨a + 1,0,.none⟩ (i64 c)) = W1 at *
  refine FN.mono (parse1_c xW1) ?_
  rintro e3' W2 ⟨⟨u,rfl⟩,hW2⟩
  refine ⟨⟨u,rfl⟩,?_⟩
  have hM2 : Mod (fun k => k = a) W1 W2 := by rw [hW2]; exact ((Mod.refl (fun k => k = a) W1).setC 0 _).setC 1 _
  have x2 : Blk W2 a [u32 0, u32 0] := by
   have := (xW1.set 0 (u32 0)).set 1 (u32 0)
   simp only [List.set_cons_zero,List.set_cons_succ] at this
   rw [hW2]; exact this
  have c2 := cW1.mod hM2 (by omega)
  simp [e2,e3,x2.cell 0 _ rfl,x2.cell 1 _ rfl,c2.cell]
  exact hR _ (((((hE1.trans hE).mod (S := fun k => w.heap.size ≤ k)).trans (hM1.weaken fun k hk => by omega)).trans (hM2.weaken fun k hk => by omega)).ext fun _ h => h)
 by_cases hl : (s.length : Int) ≤ 100
 ·have hl' : s.length ≤ 100 := by omega
  simp [hl]
  refine FN.mono (nmust_t 3 w1) ?_
  rintro _ w2 ⟨⟨u,rfl⟩,rfl⟩
  simp
  refine FN.mono (endp_c s hs (hG.ext hE1) (by have := hE1.size; omega)) ?_
  rintro e3 w3 ⟨hE3,hp⟩
  have hP : parseP s = endP s := by unfold parseP; rw [if_pos hl']
  rcases ho : endP s with _ | ⟨n, m⟩
  ·rw [ho] at hp
   obtain rfl : e3 = _ := hp
   simp
   refine pan 130 w3 _ _ (by simp) (by simp) hE3 fun W' hE' => ⟨hE',?_⟩
   rw [hP,ho]
   exact ⟨130,by omega,rfl⟩
  ·rw [ho] at hp
   obtain rfl : e3 = _ := hp
   have o3 := o1.ext hE3
   have q3 := q1.ext hE3
   simp [o3.cell 0 _ rfl,o3.cell 1 _ rfl,o3.thaw,q3.cell,q3.thaw,cell_setCell]
   have hM4 : Mod (fun k => k = a ∨ k = a + 1) w3 (((w3.setCell ⟨a,0,none⟩ (u32 n)).setCell ⟨a,1,none⟩ (u32 m)).setCell ⟨a + 1,0,none⟩ (i64 0)) := ((((Mod.refl (fun k => k = a) w3).setC 0 _).setC 1 _).weaken fun k hk => Or.inl hk).trans (((Mod.refl (fun k => k = a + 1) _).setC 0 _).weaken fun k hk => Or.inr hk)
   have hMa : Mod (fun k => k = a) w3 ((w3.setCell ⟨a,0,none⟩ (u32 n)).setCell ⟨a,1,none⟩ (u32 m)) := ((Mod.refl (fun k => k = a) w3).setC 0 _).setC 1 _
   have q5 := (q3.mod hMa (by omega)).set (i64 0)
   have o5 := ((o3.set 0 (u32 n)).set 1 (u32 m)).mod ((Mod.refl (fun k => k = a + 1) ((w3.setCell ⟨a,0,none⟩ (u32 n)).setCell ⟨a,1,none⟩ (u32 m))).setC 0 (i64 0)) (by omega)
   simp only [List.set_cons_zero,List.set_cons_succ] at o5
   generalize (((w3.setCell ⟨a,0,none⟩ (u32 n)).setCell ⟨a,1,none⟩ (u32 m)).setCell ⟨a + 1,0,none⟩ (i64 0)) = w6 at *
   refine nLV_caught ?_
   simp [o5.cell 0 _ rfl,o5.cell 1 _ rfl,q5.cell]
   refine ⟨(((hE1.trans hE3).mod (S := fun k => w.heap.size ≤ k)).trans (hM4.weaken fun k hk => by rcases hk with hk | hk <;> omega)).ext fun _ h => h,?_⟩
   rw [hP,ho]
   exact ⟨rfl,rfl⟩
 ·have hl' : ¬ s.length ≤ 100 := by omega
  simp [hl]
  refine FN.mono (nmust_f 3 w1) ?_
  rintro _ w2 ⟨rfl,rfl⟩
  simp
  refine pan 3 w2 _ _ (by simp) (by simp) (Ext.refl _) fun W' hE' => ⟨hE',?_⟩
  unfold parseP
  rw [if_neg hl']
  exact ⟨3,by omega,rfl⟩
end Go.Proofs
namespace Go.Proofs
open Pk
set_option maxRecDepth 10000
attribute [local simp] beq_dec bne_dec
theorem rpoint_c {w : World} {rb b : Nat} {l : List Tx} (h : Rw w rb b l) (hr : rb < w.heap.size) (hl : l.length ≤ 1000000) (hls : ∀ s ∈ l, s.length ≤ 1000000) (hG : Gl w) (h8 : 8 ≤ b) (h9 : 8 ≤ w.heap.size) :
  FN Tryz.prog 118 [ptr b] w fun e w' => RdS (fun x : Nat × Nat => eptV x.1 x.2) w w' rb b (wordP parseP l) e := by
 refine FN_enter Tryz.func118 rfl rfl (by kernel_rfl) ?_
 have hE1 : Ext w (w.alloc (.cells #[u32 0,u32 0] 26)) := (Ext.refl w).alloc _
 have o1 : Blk (w.alloc (.cells #[u32 0,u32 0] 26)) w.heap.size [u32 0,u32 0] := Blk.new w _ _
 have z1 : (w.alloc (.cells #[u32 0,u32 0] 26)).heap.size = w.heap.size + 1 := by simp
 have hb := h.lt
 simp
 obtain ⟨a,ha⟩ : ∃ a,w.heap.size = a := ⟨_,rfl⟩
 rw [ha] at o1 z1 hb hr h9 ⊢
 generalize (w.alloc (.cells #[u32 0,u32 0] 26)) = w1 at *
 refine FN.mono (wnext_c (h.ext hE1) hl) ?_
 rintro _ w2 ⟨hM2,hp⟩
 cases l with
 | nil =>
  obtain rfl : _ = _ := hp
  simp
  exact ⟨hE1.mod.trans hM2,rfl⟩
 | cons s r =>
  obtain ⟨rfl,h2⟩ := hp
  have o2 := o1.mod hM2 (by omega)
  have hG2 := (hG.ext hE1).mod hM2 fun k hk => by omega
  have s2 := hM2.size
  simp
  refine FN.mono (parse_c s (hls s (by simp)) hG2 (by omega)) ?_
  rintro e3 w3 ⟨hE3,hp3⟩
  have o3 := o2.ext hE3
  have h3 := h2.ext hE3
  have hM3 : Mod (fun k => k = b) w w3 := (hE1.mod.trans hM2).trans hE3.mod
  rcases ho : parseP s with _ | ⟨n, m⟩
  ·rw [ho] at hp3
   obtain ⟨c,hc,rfl⟩ := hp3
   simp [hc]
   have hE4 : Ext w3 (w3.alloc (.cells #[u32 0,u32 0] 26)) := (Ext.refl _).alloc _
   refine FN.mono (smust_f ((w3.alloc (.cells #[u32 0,u32 0] 26)))) ?_
   rintro _ w4 ⟨rfl,rfl⟩
   simp
   exact ⟨hM3.trans hE4.mod,by simp [wordP,ho]⟩
  ·rw [ho] at hp3
   obtain rfl : e3 = _ := hp3
   simp
   have hE4 : Ext w3 (w3.alloc (.cells #[u32 n,u32 m] 26)) := (Ext.refl _).alloc _
   have j4 : Blk (w3.alloc (.cells #[u32 n,u32 m] 26)) w3.heap.size [u32 n,u32 m] := Blk.new w3 _ _
   have o4 := o3.ext hE4
   have h4 := h3.ext hE4
   have s3 := hE3.size
   generalize (w3.alloc (.cells #[u32 n,u32 m] 26)) = w4 at *
   refine FN.mono (smust_t w4) ?_
   rintro _ w5 ⟨⟨u,rfl⟩,rfl⟩
   simp [j4.cell 0 _ rfl,j4.cell 1 _ rfl,o4.cell 0 _ rfl,o4.cell 1 _ rfl,o4.thaw,cell_setCell]
   have hM5 : Mod (fun k => k = a) w5 ((w5.setCell ⟨a,0,none⟩ (u32 n)).setCell ⟨a,1,none⟩ (u32 m)) := ((Mod.refl _ w5).setC 0 _).setC 1 _
   refine ⟨(hM3.trans hE4.mod).trans' hM5 fun i hi => .inr (by omega),?_⟩
   simp only [wordP,ho]
   exact ⟨trivial,h4.mod hM5 (by omega) (by omega)⟩
def nodeQ : List Tx → Option (Nat × List Tx) := wordP fun s => numP s 4294967295
def longQ : List Tx → Option (Nat × List Tx) := wordP fun s => numP s 9223372036854775807
def smallQ : List Tx → Option (Nat × List Tx) := wordP fun s => numP s 255
theorem wordP_len {α : Type} {f : Tx → Option α} {l r : List Tx} {x : α} {k : Nat} (h : wordP f l = some (x, r)) (hl : l.length ≤ k) : r.length ≤ k := by
 cases l with
 | nil => simp [wordP] at h
 | cons s t =>
  simp only [wordP] at h
  split at h
  ·cases h
  ·simp at h
   obtain ⟨-,rfl⟩ := h
   simp at hl; omega
theorem wordP_sub {α : Type} {f : Tx → Option α} {l r : List Tx} {x : α} {k : Nat} (h : wordP f l = some (x, r)) (hl : ∀ s ∈ l, s.length ≤ k) : ∀ s ∈ r, s.length ≤ k := by
 cases l with
 | nil => simp [wordP] at h
 | cons s t =>
  simp only [wordP] at h
  split at h
  ·cases h
  ·simp at h
   obtain ⟨-,rfl⟩ := h
   exact fun u hu => hl u (by simp [hu])
theorem wordP_le {f : Tx → Option Nat} {l r : List Tx} {x k : Nat} (hf : ∀ s n, f s = some n → n ≤ k) (h : wordP f l = some (x, r)) : x ≤ k := by
 cases l with
 | nil => simp [wordP] at h
 | cons s t =>
  simp only [wordP] at h
  split at h
  ·cases h
  ·rename_i y hy
   simp at h
   obtain ⟨rfl,-⟩ := h
   exact hf s _ hy
theorem nodeQ_le {l r : List Tx} {x : Nat} (h : nodeQ l = some (x,r)) : x ≤ 4294967295 := wordP_le (fun _ _ h => numP_le h) h
theorem longQ_le {l r : List Tx} {x : Nat} (h : longQ l = some (x,r)) : x ≤ 9223372036854775807 := wordP_le (fun _ _ h => numP_le h) h
structure Ctc where
 fr : Int
 to' : Int
 sf : Int
 su : Int
 rate : Int
structure Stp where
 fr : Int
 to' : Int
 at' : Int
 tk : Int
def ctQ (l : List Tx) : Option (Ctc × List Tx) := (nodeQ l).bind fun x1 => (nodeQ x1.2).bind fun x2 => (longQ x2.2).bind fun x3 => (longQ x3.2).bind fun x4 => (longQ x4.2).bind fun x5 => some (⟨x1.1,x2.1,x3.1,x4.1,x5.1⟩,x5.2)
def stQ (l : List Tx) : Option (Stp × List Tx) := (nodeQ l).bind fun x1 => (nodeQ x1.2).bind fun x2 => (longQ x2.2).bind fun x3 => (longQ x3.2).bind fun x4 => some (⟨x1.1,x2.1,x3.1,x4.1⟩,x4.2)
set_option maxHeartbeats 2000000 in
theorem rcontact_c {w : World} {rb b : Nat} {l0 : List Tx} (H0 : Rw w rb b l0) (hr : rb < w.heap.size) (HL0 : l0.length ≤ 1000000) : FN Tryz.prog 58 [ptr b] w fun e w' => RdS (fun c : Ctc => .agg #[u32 c.fr, u32 c.to', u64 c.sf, u64 c.su, u64 c.rate]) w w' rb b (ctQ l0) e := by
 refine FN_enter Tryz.func58 rfl rfl (by kernel_rfl) ?_
 have hE1 : Ext w (w.alloc (.cells #[u32 0,u32 0,u64 0,u64 0,u64 0] 33)) := (Ext.refl w).alloc _
 have T0 : Blk (w.alloc (.cells #[u32 0,u32 0,u64 0,u64 0,u64 0] 33)) w.heap.size [u32 0,u32 0,u64 0,u64 0,u64 0] := Blk.new w _ _
 have hb := H0.lt
 have K0 := H0.ext hE1
 simp
 obtain ⟨a,ha⟩ : ∃ a,w.heap.size = a := ⟨_,rfl⟩
 rw [ha] at T0 hb hr ⊢
 have A0 : Mod (fun k => k = b) w (w.alloc (.cells #[u32 0,u32 0,u64 0,u64 0,u64 0] 33)) := hE1.mod
 generalize (w.alloc (.cells #[u32 0,u32 0,u64 0,u64 0,u64 0] 33)) = w0 at *
 refine FN.mono (wnode_c K0 HL0) ?_
 rintro e1 w1 ⟨M1,p1⟩
 rcases o1 : nodeQ l0 with _ | ⟨x1, l1⟩
 ·rw [show wordP _ l0 = none from o1] at p1
  obtain rfl : e1 = _ := p1
  simp
  exact ⟨A0.trans M1,by simp [ctQ,o1]⟩
 rw [show wordP _ l0 = some (x1,l1) from o1] at p1
 obtain ⟨rfl,K1⟩ := p1
 have HL1 := wordP_len o1 HL0
 have T1 := T0.mod M1 (by omega)
 have A1 := A0.trans M1
 simp
 refine FN.mono (wnode_c K1 HL1) ?_
 rintro e2 w2 ⟨M2,p2⟩
 rcases o2 : nodeQ l1 with _ | ⟨x2, l2⟩
 ·rw [show wordP _ l1 = none from o2] at p2
  obtain rfl : e2 = _ := p2
  simp
  exact ⟨A1.trans M2,by simp [ctQ,o1,o2]⟩
 rw [show wordP _ l1 = some (x2,l2) from o2] at p2
 obtain ⟨rfl,K2⟩ := p2
 have HL2 := wordP_len o2 HL1
 have T2 := T1.mod M2 (by omega)
 have A2 := A1.trans M2
 have S2 : Mod (fun k => k = a) w2 ((w2.setCell ⟨a,0,none⟩ (u32 x1)).setCell ⟨a,1,none⟩ (u32 x2)) := ((Mod.refl _ _).setC 0 _).setC 1 _
 have T2s : Blk ((w2.setCell ⟨a,0,none⟩ (u32 x1)).setCell ⟨a,1,none⟩ (u32 x2)) a [u32 x1,u32 x2,u64 0,u64 0,u64 0] := ((T2.set 0 (u32 x1)).set 1 (u32 x2))
 have K2s := K2.mod S2 (by omega) (by omega)
 have A2s := A2.trans' S2 fun i hi => .inr (by omega)
 simp [T2.cell 0 _ rfl,T2.cell 1 _ rfl,T2.thaw,cell_setCell]
 generalize ((w2.setCell ⟨a,0,none⟩ (u32 x1)).setCell ⟨a,1,none⟩ (u32 x2)) = w2s at *
 refine FN.mono (wlong_c K2s HL2) ?_
 rintro e3 w3 ⟨M3,p3⟩
 rcases o3 : longQ l2 with _ | ⟨x3, l3⟩
 ·rw [show wordP _ l2 = none from o3] at p3
  obtain rfl : e3 = _ := p3
  simp
  exact ⟨A2s.trans M3,by simp [ctQ,o1,o2,o3]⟩
 rw [show wordP _ l2 = some (x3,l3) from o3] at p3
 obtain ⟨rfl,K3⟩ := p3
 have HL3 := wordP_len o3 HL2
 have T3 := T2s.mod M3 (by omega)
 have A3 := A2s.trans M3
 simp
 refine FN.mono (wlong_c K3 HL3) ?_
 rintro e4 w4 ⟨M4,p4⟩
 rcases o4 : longQ l3 with _ | ⟨x4, l4⟩
 ·rw [show wordP _ l3 = none from o4] at p4
  obtain rfl : e4 = _ := p4
  simp
  exact ⟨A3.trans M4,by simp [ctQ,o1,o2,o3,o4]⟩
 rw [show wordP _ l3 = some (x4,l4) from o4] at p4
 obtain ⟨rfl,K4⟩ := p4
 have HL4 := wordP_len o4 HL3
 have T4 := T3.mod M4 (by omega)
 have A4 := A3.trans M4
 have S4 : Mod (fun k => k = a) w4 ((w4.setCell ⟨a,2,none⟩ (u64 x3)).setCell ⟨a,3,none⟩ (u64 x4)) := ((Mod.refl _ _).setC 2 _).setC 3 _
 have T4s : Blk ((w4.setCell ⟨a,2,none⟩ (u64 x3)).setCell ⟨a,3,none⟩ (u64 x4)) a [u32 x1,u32 x2,u64 x3,u64 x4,u64 0] := ((T4.set 2 (u64 x3)).set 3 (u64 x4))
 have K4s := K4.mod S4 (by omega) (by omega)
 have A4s := A4.trans' S4 fun i hi => .inr (by omega)
 simp [T4.cell 2 _ rfl,T4.cell 3 _ rfl,T4.thaw,cell_setCell]
 generalize ((w4.setCell ⟨a,2,none⟩ (u64 x3)).setCell ⟨a,3,none⟩ (u64 x4)) = w4s at *
 refine FN.mono (wlong_c K4s HL4) ?_
 rintro e5 w5 ⟨M5,p5⟩
 rcases o5 : longQ l4 with _ | ⟨x5, l5⟩
 ·rw [show wordP _ l4 = none from o5] at p5
  obtain rfl : e5 = _ := p5
  simp
  exact ⟨A4s.trans M5,by simp [ctQ,o1,o2,o3,o4,o5]⟩
 rw [show wordP _ l4 = some (x5,l5) from o5] at p5
 obtain ⟨rfl,K5⟩ := p5
 have HL5 := wordP_len o5 HL4
 have T5 := T4s.mod M5 (by omega)
 have A5 := A4s.trans M5
 have S5 : Mod (fun k => k = a) w5 ((((((w5.setCell ⟨a,4,none⟩ (u64 x5)).setCell ⟨a,0,none⟩ (u32 x1)).setCell ⟨a,1,none⟩ (u32 x2)).setCell ⟨a,2,none⟩ (u64 x3)).setCell ⟨a,3,none⟩ (u64 x4)).setCell ⟨a,4,none⟩ (u64 x5)) := ((((((Mod.refl _ _).setC 4 _).setC 0 _).setC 1 _).setC 2 _).setC 3 _).setC 4 _
 have K5s := K5.mod S5 (by omega) (by omega)
 have A5s := A5.trans' S5 fun i hi => .inr (by omega)
 simp [T5.cell 0 _ rfl,T5.cell 1 _ rfl,T5.cell 2 _ rfl,T5.cell 3 _ rfl,T5.cell 4 _ rfl,T5.thaw,cell_setCell]
 refine ⟨A5s,?_⟩
 rw [show ctQ l0 = some (⟨x1,x2,x3,x4,x5⟩,l5) by simp [ctQ,o1,o2,o3,o4,o5]]
 exact ⟨rfl,K5s⟩
set_option maxHeartbeats 2000000 in
theorem rstep_c {w : World} {rb b : Nat} {l0 : List Tx} (H0 : Rw w rb b l0) (hr : rb < w.heap.size) (HL0 : l0.length ≤ 1000000) : FN Tryz.prog 62 [ptr b] w fun e w' => RdS (fun s : Stp => .agg #[u32 s.fr, u32 s.to', u64 s.at', u64 s.tk]) w w' rb b (stQ l0) e := by
 refine FN_enter Tryz.func62 rfl rfl (by kernel_rfl) ?_
 have hE1 : Ext w (w.alloc (.cells #[u32 0,u32 0,u64 0,u64 0] 35)) := (Ext.refl w).alloc _
 have T0 : Blk (w.alloc (.cells #[u32 0,u32 0,u64 0,u64 0] 35)) w.heap.size [u32 0,u32 0,u64 0,u64 0] := Blk.new w _ _
 have hb := H0.lt
 have K0 := H0.ext hE1
 simp
 obtain ⟨a,ha⟩ : ∃ a,w.heap.size = a := ⟨_,rfl⟩
 rw [ha] at T0 hb hr ⊢
 have A0 : Mod (fun k => k = b) w (w.alloc (.cells #[u32 0,u32 0,u64 0,u64 0] 35)) := hE1.mod
 generalize (w.alloc (.cells #[u32 0,u32 0,u64 0,u64 0] 35)) = w0 at *
 refine FN.mono (wnode_c K0 HL0) ?_
 rintro e1 w1 ⟨M1,p1⟩
 rcases o1 : nodeQ l0 with _ | ⟨x1, l1⟩
 ·rw [show wordP _ l0 = none from o1] at p1
  obtain rfl : e1 = _ := p1
  simp
  exact ⟨A0.trans M1,by simp [stQ,o1]⟩
 rw [show wordP _ l0 = some (x1,l1) from o1] at p1
 obtain ⟨rfl,K1⟩ := p1
 have HL1 := wordP_len o1 HL0
 have T1 := T0.mod M1 (by omega)
 have A1 := A0.trans M1
 simp
 refine FN.mono (wnode_c K1 HL1) ?_
 rintro e2 w2 ⟨M2,p2⟩
 rcases o2 : nodeQ l1 with _ | ⟨x2, l2⟩
 ·rw [show wordP _ l1 = none from o2] at p2
  obtain rfl : e2 = _ := p2
  simp
  exact ⟨A1.trans M2,by simp [stQ,o1,o2]⟩
 rw [show wordP _ l1 = some (x2,l2) from o2] at p2
 obtain ⟨rfl,K2⟩ := p2
 have HL2 := wordP_len o2 HL1
 have T2 := T1.mod M2 (by omega)
 have A2 := A1.trans M2
 have S2 : Mod (fun k => k = a) w2 ((w2.setCell ⟨a,0,none⟩ (u32 x1)).setCell ⟨a,1,none⟩ (u32 x2)) := ((Mod.refl _ _).setC 0 _).setC 1 _
 have T2s : Blk ((w2.setCell ⟨a,0,none⟩ (u32 x1)).setCell ⟨a,1,none⟩ (u32 x2)) a [u32 x1,u32 x2,u64 0,u64 0] := ((T2.set 0 (u32 x1)).set 1 (u32 x2))
 have K2s := K2.mod S2 (by omega) (by omega)
 have A2s := A2.trans' S2 fun i hi => .inr (by omega)
 simp [T2.cell 0 _ rfl,T2.cell 1 _ rfl,T2.thaw,cell_setCell]
 generalize ((w2.setCell ⟨a,0,none⟩ (u32 x1)).setCell ⟨a,1,none⟩ (u32 x2)) = w2s at *
 refine FN.mono (wlong_c K2s HL2) ?_
 rintro e3 w3 ⟨M3,p3⟩
 rcases o3 : longQ l2 with _ | ⟨x3, l3⟩
 ·rw [show wordP _ l2 = none from o3] at p3
  obtain rfl : e3 = _ := p3
  simp
  exact ⟨A2s.trans M3,by simp [stQ,o1,o2,o3]⟩
 rw [show wordP _ l2 = some (x3,l3) from o3] at p3
 obtain ⟨rfl,K3⟩ := p3
 have HL3 := wordP_len o3 HL2
 have T3 := T2s.mod M3 (by omega)
 have A3 := A2s.trans M3
 simp
 refine FN.mono (wlong_c K3 HL3) ?_
 rintro e4 w4 ⟨M4,p4⟩
 rcases o4 : longQ l3 with _ | ⟨x4, l4⟩
 ·rw [show wordP _ l3 = none from o4] at p4
  obtain rfl : e4 = _ := p4
  simp
  exact ⟨A3.trans M4,by simp [stQ,o1,o2,o3,o4]⟩
 rw [show wordP _ l3 = some (x4,l4) from o4] at p4
 obtain ⟨rfl,K4⟩ := p4
 have HL4 := wordP_len o4 HL3
 have T4 := T3.mod M4 (by omega)
 have A4 := A3.trans M4
 have S4 : Mod (fun k => k = a) w4 ((((((w4.setCell ⟨a,2,none⟩ (u64 x3)).setCell ⟨a,3,none⟩ (u64 x4)).setCell ⟨a,0,none⟩ (u32 x1)).setCell ⟨a,1,none⟩ (u32 x2)).setCell ⟨a,2,none⟩ (u64 x3)).setCell ⟨a,3,none⟩ (u64 x4)) := ((((((Mod.refl _ _).setC 2 _).setC 3 _).setC 0 _).setC 1 _).setC 2 _).setC 3 _
 have K4s := K4.mod S4 (by omega) (by omega)
 have A4s := A4.trans' S4 fun i hi => .inr (by omega)
 simp [T4.cell 0 _ rfl,T4.cell 1 _ rfl,T4.cell 2 _ rfl,T4.cell 3 _ rfl,T4.thaw,cell_setCell]
 refine ⟨A4s,?_⟩
 rw [show stQ l0 = some (⟨x1,x2,x3,x4⟩,l4) by simp [stQ,o1,o2,o3,o4]]
 exact ⟨rfl,K4s⟩
end Go.Proofs
namespace Go.Proofs
open Pk
set_option maxRecDepth 10000
attribute [local simp] beq_dec bne_dec
abbrev hexL : Tx := [48,49,50,51,52,53,54,55,56,57,97,98,99,100,101,102]
def hexd (c : UInt8) : Option Nat := if 48 ≤ c.toNat ∧ c.toNat ≤ 57 then some (c.toNat - 48) else if 97 ≤ c.toNat ∧ c.toNat ≤ 102 then some (c.toNat - 87) else none
theorem hexd_lt {c : UInt8} {d : Nat} (h : hexd c = some d) : d < 16 := by
 unfold hexd at h
 split at h
 ·cases h; omega
 ·split at h
  ·cases h; omega
  ·cases h
def hexI (c : UInt8) : Int := match hexd c with
 | none => -1
 | some d => d
theorem ix_hexF : ∀ n : Fin 256,Lib.indexByte hexL (UInt8.ofNat n.val) = hexI (UInt8.ofNat n.val) := by decide +kernel
theorem ix_hex (c : UInt8) : Lib.indexByte hexL c = hexI c := by
 have := ix_hexF ⟨c.toNat,c.toNat_lt⟩
 simpa using this
def pairsP : Tx → Option (List UInt8)
 | [] => some []
 | [_] => none
 | a :: b :: r => match hexd a, hexd b, pairsP r with
  | some x,some y,some l => some (UInt8.ofNat (16 * x + y) :: l)
  | _,_,_ => none
def unhexP (s : Tx) : Option (List UInt8) := if s = [45] then some [] else if s ≠ [] ∧ s.length % 2 = 0 then pairsP s else none
def RdRw (w w' : World) (rb b : Nat) (o : Option (List Value × List Tx)) (e : Ending) : Prop :=
 Mod (fun k => k = b) w w' ∧ match o with
 | none => e = .panicked panS
 | some (cs,r) => Rw w' rb b r ∧ ∃ v,e = .returned v ∧ Sl w' 1 v cs.length cs ∧ (cs ≠ [] → w.heap.size ≤ slB v)
def octQ (l : List Tx) : Option (List UInt8 × List Tx) := wordP unhexP l
theorem ixb_c (c : UInt8) (w : World) : FN Tryz.prog 147 [.string ⟨#[48, 49, 50, 51, 52, 53, 54, 55, 56, 57, 97, 98, 99, 100, 101, 102]⟩, u8 c.toNat] w fun e w' => e = .returned (i64 (hexI c)) ∧ w' = w := by
 refine FN.mono (FN_of_calls Tryz.func147 rfl rfl (Tryz.strings_IndexByte ⟨#[48,49,50,51,52,53,54,55,56,57,97,98,99,100,101,102]⟩ c.toNat w)) ?_
 rintro e w' ⟨rfl,rfl⟩
 refine ⟨?_,rfl⟩
 have : (c.toNat : Int).toNat.toUInt8 = c := by simp
 rw [this,← ix_hex]
set_option maxHeartbeats 4000000 in
theorem roctets_c {w : World} {rb b : Nat} {l : List Tx} (h : Rw w rb b l) (hr : rb < w.heap.size) (hl : l.length ≤ 1000000) (hls : ∀ s ∈ l, s.length ≤ 1000000) :
  FN Tryz.prog 119 [ptr b] w fun e w' => RdRw w w' rb b ((octQ l).map fun x => (x.1.map encB,x.2)) e := by
 refine FN_enter Tryz.func119 rfl rfl (by kernel_rfl) ?_
 have hb := h.lt
 simp
 refine FN.mono (wnext_c h hl) ?_
 rintro _ w1 ⟨hM1,hp⟩
 cases l with
 | nil =>
  obtain rfl : _ = _ := hp
  simp
  exact ⟨hM1,by simp [octQ,wordP]⟩
 | cons s r =>
  obtain ⟨rfl,h1⟩ := hp
  have hsl := hls s (by simp)
  have s1 := hM1.size
  have hQ : octQ (s :: r) = match unhexP s with | none => none | some x => some (x, r) := by
   simp only [octQ,wordP]
   cases unhexP s <;> rfl
  by_cases hd : s = [45]
  ·have hq : (s == [45]) = true := by rw [hd]; rfl
   simp [hq]
   refine ⟨hM1,?_⟩
   rw [hQ,show unhexP s = some [] by simp [unhexP,hd]]
   exact ⟨h1,_,rfl,Sl.nil _ _ _,fun h => absurd rfl h⟩
  have hq : (s == [45]) = false := by simpa using hd
  by_cases he : s = []
  ·have hE : s.isEmpty = true := by rw [he]; rfl
   simp [hq,hE]
   refine FN.mono (smust_f w1) ?_
   rintro _ w2 ⟨rfl,rfl⟩
   simp
   refine ⟨hM1,?_⟩
   rw [hQ,show unhexP s = none by simp [unhexP,he]]
   trivial
  have hE : s.isEmpty = false := by
   cases s with
   | nil => exact absurd rfl he
   | cons _ _ => rfl
  by_cases h2 : s.length % 2 = 0
  ·obtain ⟨N,hN⟩ : ∃ N,s.length = 2 * N := ⟨s.length / 2,by omega⟩
   have h2' : ((2 : Int) * N).tmod 2 = 0 := by rw [Int.tmod_eq_emod_of_nonneg (by omega)]; omega
   have hU : unhexP s = pairsP s := by unfold unhexP; rw [if_neg hd,if_pos ⟨he,h2⟩]
   have hdv : ((2 : Int) * N).tdiv 2 = N := by rw [Int.tdiv_eq_ediv_of_nonneg (by omega)]; omega
   have hwN : IntKind.i64.wrap (N : Int) = N := wrap64 _ (by omega) (by omega)
   simp [hq,hE,hN,h2']
   refine FN.mono (smust_t w1) ?_
   rintro _ w2 ⟨⟨u,rfl⟩,rfl⟩
   simp [hN,hdv,hwN]
   refine WC_loop (fun m ρ ds w' => ∃ (i : Nat) (v : Value) (dn : List UInt8), m = N - i ∧ i ≤ N ∧ ρ 3 = tv s ∧ ρ 24 = i64 N ∧ ρ 25 = i64 i ∧ ρ 2 = v ∧ ds = [] ∧ Ext w2 w' ∧ w'.ownsRow w2.heap.size 5 1 v i (dn.map encB) ∧ dn.length = i ∧ pairsP s = (pairsP (s.drop (2 * i))).map (dn ++ ·)) (N)
    ⟨0,_,[],by simp,by simp,by simp,by simp,by simp,by simp,rfl,Ext.refl _,own_nothing _ _ _ _,rfl,by simp⟩ ?_
   rintro m ρ ds w3 ⟨i,v,dn,rfl,hi,e3,e24,e25,e2,rfl,hE3,ho3,hdl,hP⟩
   by_cases hlt : i < N
   ·have hlt' : (i : Int) < N := by omega
    have ix0 : ∀ W, (Instr.index 9 (tv s) (i64 (2 * (i : Int)))).run Tryz.prog W = .ok (u8 s[2 * i].toNat) W := fun W => by
     have := r_index_str (P := Tryz.prog) (w := W) (t := 9) ⟨s.toArray⟩ .i64 (2 * i) (by simp) (by simp; omega)
     rw [show ((2 * i : Nat) : Int) = 2 * (i : Int) by omega] at this
     exact this
    have ix1 : ∀ W, (Instr.index 9 (tv s) (i64 (2 * (i : Int) + 1))).run Tryz.prog W = .ok (u8 s[2 * i + 1].toNat) W := fun W => by
     have := r_index_str (P := Tryz.prog) (w := W) (t := 9) ⟨s.toArray⟩ .i64 (2 * i + 1) (by simp) (by simp; omega)
     rw [show ((2 * i + 1 : Nat) : Int) = 2 * (i : Int) + 1 by omega] at this
     exact this
    have hm1 : IntKind.i64.wrap (2 * (i : Int)) = 2 * i := wrap64 _ (by omega) (by omega)
    have hm2 : IntKind.i64.wrap (2 * (i : Int) + 1) = 2 * i + 1 := wrap64 _ (by omega) (by omega)
    have hdr : s.drop (2 * i) = s[2 * i] :: s[2 * i + 1] :: s.drop (2 * (i + 1)) := by
     rw [List.drop_eq_getElem_cons (by omega),List.drop_eq_getElem_cons (by omega)]
     rfl
    rw [hdr] at hP
    simp [e24,e25,hlt']
    refine WC_drawL 10 (.F 0 <| .F 1 <| .F 2 <| .F 5 <| .F 6 <| .F 7 <| .F 8 <| .D 9 <| .L 3 <| .L 4 <| .W 9 <| .Z) (fun _ => false) (fun _ => false) (fun _ u _ => u = u8 s[2 * i + 1].toNat) rfl (by kernel_rfl) (fun _ h => h) (fun _ _ _ _ h1 _ => h1) fun W hW => ?_
    have hWE : Ext w3 W := hW ▸ Ext.drew _
    simp [e3,hm1,hm2]
    refine RL_float (fun W' h' => ?_) ?_
    ·simp [ix1]
     exact Ext.refl _
    simp
    refine RL_loose fun W4 h4 => ?_
    simp [ix0]
    refine KR_same ?_
    simp
    refine RL_loose fun W5 h5 => ?_
    simp
    refine FN.mono (ixb_c s[2 * i] W5) ?_
    rintro _ w6 ⟨rfl,rfl⟩
    simp
    refine KR_same ?_
    simp
    refine RL_wait fun v7 W7 h7 hv7 => ?_
    subst hv7
    simp
    refine FN.mono (ixb_c s[2 * i + 1] W7) ?_
    rintro _ w8 ⟨rfl,rfl⟩
    have hE8 : Ext w3 w8 := hWE.trans (h4.trans (h5.trans h7))
    simp
    by_cases hok : 0 ≤ hexI s[2 * i] ∧ 0 ≤ hexI s[2 * i + 1]
    ·have hmin : 0 ≤ min (hexI s[2 * i]) (hexI s[2 * i + 1]) := by omega
     obtain ⟨x, hx⟩ : ∃ x, hexd s[2 * i] = some x := by
      cases hq : hexd s[2 * i] with
      | none => have := hok.1; unfold hexI at this; rw [hq] at this; simp at this
      | some x => exact ⟨x,rfl⟩
     obtain ⟨y, hy⟩ : ∃ y, hexd s[2 * i + 1] = some y := by
      cases hq : hexd s[2 * i + 1] with
      | none => have := hok.2; unfold hexI at this; rw [hq] at this; simp at this
      | some x => exact ⟨x,rfl⟩
     have hxi : hexI s[2 * i] = x := by unfold hexI; rw [hx]
     have hyi : hexI s[2 * i + 1] = y := by unfold hexI; rw [hy]
     have hx16 := hexd_lt hx
     have hy16 := hexd_lt hy
     rw [hxi,hyi] at hmin ⊢
     simp [hmin]
     refine FN.mono (smust_t w8) ?_
     rintro _ w9 ⟨⟨u9,rfl⟩,rfl⟩
     have k1 : IntKind.i64.wrap (16 * (x : Int)) = 16 * x := wrap64 _ (by omega) (by omega)
     have k2 : IntKind.i64.wrap (16 * (x : Int) + y) = 16 * x + y := wrap64 _ (by omega) (by omega)
     have k3 : IntKind.u8.wrap (16 * (x : Int) + y) = 16 * x + y := wrap8u _ (by omega) (by omega)
     have hE9 : Ext w9 (w9.alloc (.cells #[u8 (16 * (x : Int) + y)] 5)) := (Ext.refl _).alloc _
     have sl9 : Sl (w9.alloc (.cells #[u8 (16 * (x : Int) + y)] 5)) 1 (.slice (some ⟨w9.heap.size,0,none⟩) 1 1) 1 [u8 (16 * (x : Int) + y)] := Sl.made w9 [u8 (16 * (x : Int) + y)] 5 1 1 rfl
     have z3 := hE3.size
     have z8 := hE8.size
     have z9 := hE9.size
     obtain ⟨v',w10,hr,ho10,hM10,-⟩ := append_own (P := Tryz.prog) (t := 27) (ty := 27) (e := 5) (s := 1) (by simp) (by simp) (by kernel_rfl) (own_ext ho3 (hE8.trans hE9)) sl9 (fun u hu => by simp at hu; rw [hu]; rfl) (by omega) (by omega)
     have hE10 : Ext w2 w10 := ((((hE3.trans (hE8.trans hE9)).mod (S := fun k => w2.heap.size ≤ k)).trans (hM10.weaken fun k hk => by have := own_ge ho3 hk.1; omega))).ext fun _ h => h
     simp [e2,e3,e24,e25,k1,k2,k3,hr]
     have hwi : IntKind.i64.wrap ((i : Int) + 1) = i + 1 := wrap64 _ (by omega) (by omega)
     have hnat : (UInt8.ofNat (16 * x + y)).toNat = 16 * x + y := by
      rw [UInt8.toNat_ofNat']; omega
     have hpz : pairsP s = (pairsP (s.drop (2 * (i + 1)))).map ((dn ++ [UInt8.ofNat (16 * x + y)]) ++ ·) := by
      have hp2 : ∀ r, pairsP (s[2 * i] :: s[2 * i + 1] :: r) = match hexd s[2 * i], hexd s[2 * i + 1], pairsP r with
        | some x,some y,some l => some (UInt8.ofNat (16 * x + y) :: l)
        | _,_,_ => none := fun r => by rw [pairsP]
      rw [hP,hp2,hx,hy]
      cases pairsP (s.drop (2 * (i + 1))) with
      | none => rfl
      | some l =>
       show some (dn ++ (UInt8.ofNat (16 * x + y) :: l)) = some ((dn ++ [UInt8.ofNat (16 * x + y)]) ++ l)
       rw [List.append_assoc]; rfl
     generalize UInt8.ofNat (16 * x + y) = c at *
     rw [hwi]
     refine ⟨N - (i + 1), by omega, i + 1, rfl, by omega, by omega, hE10, dn ++ [c], ?_, by simp [hdl], hpz⟩
     ·rw [List.map_append]
      have : List.map encB [c] = [u8 (16 * (x : Int) + y)] := by
       simp only [List.map_cons,List.map_nil,encB,hnat]
       rw [show ((16 * x + y : Nat) : Int) = 16 * (x : Int) + y by omega]
      rw [this]; exact ho10
    ·have hmin : ¬ 0 ≤ min (hexI s[2 * i]) (hexI s[2 * i + 1]) := by omega
     have hnone : pairsP s = none := by
      rw [hP]
      unfold hexI at hok
      simp only [pairsP]
      cases hq1 : hexd s[2 * i] with
      | none => rfl
      | some x =>
       cases hq2 : hexd s[2 * i + 1] with
       | none => rfl
       | some y =>
        exfalso
        rw [hq1,hq2] at hok
        exact hok ⟨by simp,by simp⟩
     simp [hmin]
     refine FN.mono (smust_f w8) ?_
     rintro _ w9 ⟨rfl,rfl⟩
     simp
     refine ⟨hM1.trans (hE3.trans hE8).mod,?_⟩
     rw [hQ,hU,hnone]
     trivial
   ·have hi' : i = N := by omega
    have hlt' : ¬ (i : Int) < N := by omega
    have hdr : s.drop (2 * i) = [] := List.drop_eq_nil_of_le (by omega)
    rw [hdr] at hP
    obtain ⟨va,vc,hv⟩ := own_val ho3
    simp [e24,e25,e2,hlt']
    refine ⟨hM1.trans hE3.mod,?_⟩
    rw [hQ,hU,hP]
    simp [pairsP]
    refine ⟨h1.ext hE3,by rw [hdl]; exact sl_of_own ho3,fun hne => ?_⟩
    have := own_ge ho3 (own_nil ho3 (by have := List.length_pos_iff.2 hne; omega))
    omega
  ·have h2' : ¬ (s.length : Int).tmod 2 = 0 := by rw [Int.tmod_eq_emod_of_nonneg (by omega)]; omega
   simp [hq,hE,h2']
   refine FN.mono (smust_f w1) ?_
   rintro _ w2 ⟨rfl,rfl⟩
   simp
   refine ⟨hM1,?_⟩
   rw [hQ,show unhexP s = none by simp [unhexP,hd,h2]]
   trivial
def bitsP : Tx → Option (List Bool)
 | [] => some []
 | c :: r => if c = 48 ∨ c = 49 then match bitsP r with
  | none => none
  | some l => some (decide (c = 49) :: l)
 else none
def truthsP (s : Tx) : Option (List Bool) := if s = [45] then some [] else if s = [] then none else bitsP s
def truQ (l : List Tx) : Option (List Bool × List Tx) := wordP truthsP l
set_option maxHeartbeats 4000000 in
theorem rtruths_c {w : World} {rb b : Nat} {l : List Tx} (h : Rw w rb b l) (hr : rb < w.heap.size) (hl : l.length ≤ 1000000) (hls : ∀ s ∈ l, s.length ≤ 1000000) :
  FN Tryz.prog 81 [ptr b] w fun e w' => RdRw w w' rb b ((truQ l).map fun x => (x.1.map Value.bool,x.2)) e := by
 refine FN_enter Tryz.func81 rfl rfl (by kernel_rfl) ?_
 have hb := h.lt
 simp
 refine FN.mono (wnext_c h hl) ?_
 rintro _ w1 ⟨hM1,hp⟩
 cases l with
 | nil =>
  obtain rfl : _ = _ := hp
  simp
  exact ⟨hM1,by simp [truQ,wordP]⟩
 | cons s r =>
  obtain ⟨rfl,h1⟩ := hp
  have hsl := hls s (by simp)
  have s1 := hM1.size
  have hQ : truQ (s :: r) = match truthsP s with | none => none | some x => some (x, r) := by
   simp only [truQ,wordP]
   cases truthsP s <;> rfl
  by_cases hd : s = [45]
  ·have hq : (s == [45]) = true := by rw [hd]; rfl
   simp [hq]
   refine ⟨hM1,?_⟩
   rw [hQ,show truthsP s = some [] by simp [truthsP,hd]]
   exact ⟨h1,_,rfl,Sl.nil _ _ _,fun h => absurd rfl h⟩
  have hq : (s == [45]) = false := by simpa using hd
  by_cases he : s = []
  ·have hE : s.isEmpty = true := by rw [he]; rfl
   simp [hq,hE]
   refine FN.mono (smust_f w1) ?_
   rintro _ w2 ⟨rfl,rfl⟩
   simp
   refine ⟨hM1,?_⟩
   rw [hQ,show truthsP s = none by simp [truthsP,he]]
   trivial
  have hE : s.isEmpty = false := by
   cases s with
   | nil => exact absurd rfl he
   | cons _ _ => rfl
  have hU : truthsP s = bitsP s := by unfold truthsP; rw [if_neg hd,if_neg he]
  simp [hq,hE]
  refine FN.mono (smust_t w1) ?_
  rintro _ w2 ⟨⟨u,rfl⟩,rfl⟩
  have hcv := Lib.run_convert_string_bytes (P := Tryz.prog) (u := .string) w2 9 27 5 ⟨s.toArray⟩ (by simp) (by simp) (by simp)
  have hEv : Ext w2 (Lib.bytesWorld w2 5 ⟨s.toArray⟩) := ext_below (Lib.bytesWorld_below _ _ _)
  have hcl : ∀ j (hj : j < s.length), (Lib.bytesWorld w2 5 ⟨s.toArray⟩).cell? ⟨w2.heap.size, j, none⟩ = some (u8 s[j].toNat) := fun j hj => by
   have := Lib.bytesWorld_cell w2 5 ⟨s.toArray⟩ j (by simpa using hj)
   rw [this]
   simp [hj]
  simp [hcv]
  obtain ⟨cp,hcp⟩ : ∃ cp,grownCap w2 s.length 0 5 = cp := ⟨_,rfl⟩
  obtain ⟨B,hB⟩ : ∃ B,w2.heap.size = B := ⟨_,rfl⟩
  rw [hB] at hcl ⊢
  generalize Lib.bytesWorld w2 5 ⟨s.toArray⟩ = wv at *
  rw [hcp]
  have svz := hEv.size
  refine WC_loop (fun m ρ ds w' => ∃ (i : Nat) (v : Value) (dn : List Bool), m = s.length - i ∧ i ≤ s.length ∧ ρ 16 = .slice (some ⟨B, 0, none⟩) s.length cp ∧ ρ 17 = i64 s.length ∧ ρ 18 = i64 i ∧ ρ 2 = v ∧ ds = [] ∧ Ext wv w' ∧ w'.ownsRow wv.heap.size 4 1 v i (dn.map Value.bool) ∧ dn.length = i ∧ bitsP s = (bitsP (s.drop i)).map (dn ++ ·)) s.length
   ⟨0,_,[],by simp,by simp,by simp,by simp,by simp,by simp,rfl,Ext.refl _,own_nothing _ _ _ _,rfl,by simp⟩ ?_
  rintro m ρ ds w3 ⟨i,v,dn,rfl,hi,e16,e17,e18,e2,rfl,hE3,ho3,hdl,hP⟩
  by_cases hlt : i < s.length
  ·have hlt' : (i : Int) < s.length := by omega
   have d := hE3.cell_eq (hcl i hlt)
   have hdr : s.drop i = s[i] :: s.drop (i + 1) := List.drop_eq_getElem_cons hlt
   rw [hdr] at hP
   have hbp : ∀ (c : UInt8) r,bitsP (c :: r) = if c = 48 ∨ c = 49 then match bitsP r with | none => none | some l => some (decide (c = 49) :: l) else none := fun c r => by rw [bitsP]
   rw [hbp] at hP
   have mid : ∀ (bv : Bool), (s[i] = 48 ∨ s[i] = 49) → bv = decide (s[i] = 49) → ∀ (w4 : World), Ext wv w4 → w4.ownsRow wv.heap.size 4 1 v i (dn.map Value.bool) → ∃ v' w10, (Builtin.append_ #[43, 43] 43 #[v, .slice (some ⟨w4.heap.size, 0, none⟩) 1 1]).run Tryz.prog (w4.alloc (.cells #[.bool bv] 4)) = .ok v' w10 ∧ w10.ownsRow wv.heap.size 4 1 v' (i + 1) ((dn ++ [bv]).map Value.bool) ∧ Ext wv w10 ∧ bitsP s = (bitsP (s.drop (i + 1))).map ((dn ++ [bv]) ++ ·) := by
    intro bv hc hbv w4 hE4 ho4
    have hE9 : Ext w4 (w4.alloc (.cells #[.bool bv] 4)) := (Ext.refl _).alloc _
    have sl9 : Sl (w4.alloc (.cells #[.bool bv] 4)) 1 (.slice (some ⟨w4.heap.size,0,none⟩) 1 1) 1 [.bool bv] := Sl.made w4 [.bool bv] 4 1 1 rfl
    have z4 := hE4.size
    have z9 := hE9.size
    obtain ⟨v',w10,hr,ho10,hM10,-⟩ := append_own (P := Tryz.prog) (t := 43) (ty := 43) (e := 4) (s := 1) (by simp) (by simp) (by kernel_rfl) (own_ext ho4 hE9) sl9 (fun u hu => by simp at hu; rw [hu]; rfl) (by omega) (by omega)
    refine ⟨v',w10,hr,by rw [List.map_append]; exact ho10,((((hE4.trans hE9).mod (S := fun k => wv.heap.size ≤ k)).trans (hM10.weaken fun k hk => by have := own_ge ho4 hk.1; omega))).ext fun _ h => h,?_⟩
    rw [hP,if_pos hc,hbv]
    cases bitsP (s.drop (i + 1)) with
    | none => rfl
    | some l =>
     show some (dn ++ (decide (s[i] = 49) :: l)) = some ((dn ++ [decide (s[i] = 49)]) ++ l)
     rw [List.append_assoc]; rfl
   have hwi : IntKind.i64.wrap ((i : Int) + 1) = i + 1 := wrap64 _ (by omega) (by omega)
   by_cases c0 : s[i] = 48
   ·have n0 : (s[i].toNat : Int) = 48 := by rw [c0]; rfl
    simp [e16,e17,e18,hlt',d,n0]
    refine FN.mono (smust_t w3) ?_
    rintro _ w4 ⟨⟨u4,rfl⟩,rfl⟩
    obtain ⟨v',w10,hr,ho10,hE10,hP10⟩ := mid false (.inl c0) (by rw [c0]; rfl) w4 hE3 ho3
    simp [e2,e16,e17,e18,hr]
    exact ⟨s.length - (i + 1),by omega,i + 1,rfl,by omega,by rw [hwi]; omega,hE10,dn ++ [false],ho10,by simp [hdl],hP10⟩
   ·have n0 : ¬ (s[i].toNat : Int) = 48 := u8ne c0
    by_cases c1 : s[i] = 49
    ·have n1 : (s[i].toNat : Int) = 49 := by rw [c1]; rfl
     simp [e16,e17,e18,hlt',d,n1]
     refine FN.mono (smust_t w3) ?_
     rintro _ w4 ⟨⟨u4,rfl⟩,rfl⟩
     obtain ⟨v',w10,hr,ho10,hE10,hP10⟩ := mid true (.inr c1) (by rw [c1]; rfl) w4 hE3 ho3
     simp [e2,e16,e17,e18,hr]
     exact ⟨s.length - (i + 1),by omega,i + 1,rfl,by omega,by rw [hwi]; omega,hE10,dn ++ [true],ho10,by simp [hdl],hP10⟩
    ·have n1 : ¬ (s[i].toNat : Int) = 49 := u8ne c1
     simp [e16,e17,e18,hlt',d,n0,n1]
     refine FN.mono (smust_f w3) ?_
     rintro _ w4 ⟨rfl,rfl⟩
     simp
     refine ⟨hM1.trans (hEv.trans hE3).mod,?_⟩
     rw [hQ,hU,hP,if_neg (by simp [c0,c1])]
     trivial
  ·have hi' : i = s.length := by omega
   have hlt' : ¬ (i : Int) < s.length := by omega
   rw [show s.drop i = [] from List.drop_eq_nil_of_le (by omega)] at hP
   obtain ⟨va,vc,hv⟩ := own_val ho3
   simp [e17,e18,e2,hlt']
   refine ⟨hM1.trans (hEv.trans hE3).mod,?_⟩
   rw [hQ,hU,hP]
   simp [bitsP]
   refine ⟨h1.ext (hEv.trans hE3),by rw [hdl]; exact sl_of_own ho3,fun hne => ?_⟩
   have := own_ge ho3 (own_nil ho3 (by have := List.length_pos_iff.2 hne; omega))
   omega
end Go.Proofs