/-
  Contracts of the functions that the law reaches,step by step.
-/
import Derived.Test.YtmmneeomcefgbaaGreatDoorScC
import Derived.Test.YtmmneeomcefgbaaGreatDoorEngAH
namespace Go.Proofs
open Pk
set_option maxRecDepth 10000
attribute [local simp] beq_dec bne_dec
abbrev ipnT : Tx := [105,112,110,58]
abbrev nobT : Tx := [100,116,110,58,110,111,110,101]
def endQ (r : Tx) : Option (Nat × Nat) := match cutAt 46 r with
  | none => none
  | some (x, y) => match bndP x 4294967295 with
    | none => none
    | some n => match bndP y 4294967295 with
      | none => none
      | some m => some (n,m)
def endP (s : Tx) : Option (Nat × Nat) :=
  if s = nobT then some (0, 0) else if Lib.hasPrefix s ipnT then match endQ (Lib.trimPrefix s ipnT) with
    | none => none
    | some (n,m) => if n = 0 then none else some (n,m)
  else none
theorem bndP_le {s : Tx} {b u : Nat} (h : bndP s b = some u) : u ≤ b := by
  unfold bndP at h
  split at h
  · split at h
    · rename_i hh; cases h; exact hh.1
    · cases h
  · cases h
theorem cutAt_len {c : UInt8} : ∀ {s x y : Tx}, cutAt c s = some (x, y) → x.length + y.length + 1 = s.length
  | [],_,_,h => by simp [cutAt] at h
  | b :: r, x, y, h => by
    unfold cutAt at h
    split at h
    · simp at h; obtain ⟨rfl,rfl⟩ := h; simp
    · split at h
      · cases h
      · rename_i x' y' h'
        simp at h
        obtain ⟨rfl,rfl⟩ := h
        have := cutAt_len h'
        simp; omega
set_option maxHeartbeats 4000000 in
theorem endp_c (s : Tx) (hs : s.length ≤ 1000000) {w : World} (hG : Gl w) (h8 : 8 ≤ w.heap.size) : FN Tryz.prog 188 [tv s] w fun e w' => Ext w w' ∧ match endP s with
    | none => e = .panicked (panE 130)
    | some (n,m) => e = .returned (eptV n m) := by
  refine FN_enter Tryz.func188 rfl rfl (by kernel_rfl) ?_
  have hE1 : Ext w (w.alloc (.cells #[u32 0,u32 0] 26)) := (Ext.refl w).alloc _
  have o1 : Blk (w.alloc (.cells #[u32 0,u32 0] 26)) w.heap.size [u32 0,u32 0] := Blk.new w _ _
  have z1 : (w.alloc (.cells #[u32 0,u32 0] 26)).heap.size = w.heap.size + 1 := by simp
  simp
  generalize (w.alloc (.cells #[u32 0,u32 0] 26)) = w1 at *
  by_cases hn : s = nobT
  · subst hn
    simp [o1.cell 0 _ rfl,o1.cell 1 _ rfl,o1.thaw,cell_setCell]
    refine ⟨(((hE1.mod (S := fun k => w.heap.size ≤ k)).trans ((((Mod.refl (fun k => k = w.heap.size) w1).setC 0 _).setC 1 _).weaken fun k hk => by omega))).ext fun _ h => h,?_⟩
    simp [endP]
  have hq : (s == nobT) = false := by simpa using hn
  simp [hq]
  refine FN.mono (FN_of_calls Tryz.func240 rfl rfl (Tryz.strings_CutPrefix ⟨s.toArray⟩ ⟨#[105,112,110,58]⟩ w1)) ?_
  rintro _ w2 ⟨rfl,rfl⟩
  by_cases hp : Lib.hasPrefix s ipnT = true
  · simp [hp]
    refine FN.mono (nmust_t 130 w2) ?_
    rintro _ w3 ⟨⟨u,rfl⟩,rfl⟩
    simp
    have hrl : (Lib.trimPrefix s ipnT).length ≤ s.length := by
      unfold Lib.trimPrefix
      split
      all_goals simp
    have hendP : endP s = match endQ (Lib.trimPrefix s ipnT) with
        | none => none
        | some (n,m) => if n = 0 then none else some (n,m) := by
      unfold endP
      rw [if_neg hn,if_pos hp]
    generalize Lib.trimPrefix s ipnT = r at *
    have hE4 : Ext w3 (w3.alloc (.cells #[tv r] 283)) := (Ext.refl _).alloc _
    have l4 : Blk (w3.alloc (.cells #[tv r] 283)) w3.heap.size [tv r] := Blk.new w3 _ _
    have z4 : (w3.alloc (.cells #[tv r] 283)).heap.size = w3.heap.size + 1 := by simp
    obtain ⟨lb,hlb⟩ : ∃ lb,w3.heap.size = lb := ⟨_,rfl⟩
    rw [hlb] at l4 z4 ⊢
    generalize (w3.alloc (.cells #[tv r] 283)) = w4 at *
    have hG4 := hG.ext (hE1.trans hE4)
    have o4 := o1.ext hE4
    refine WC_drawZ 14 (.F 0 <| .F 1 <| .F 2 <| .F 6 <| .F 7 <| .F 8 <| .D 13 <| .L 3 <| .L 4 <| .F 5 <| .L 9 <| .L 10 <| .F 11 <| .F 12 <| .W 13 <| .Z) (Xf fun k => k = lb) (Xf fun k => k = lb) (fun _ u W => ∃ j, u = ptr j ∧ lb < j ∧ Blk W j [u32 0, u32 0]) (fun ch w' => Ext w w' ∧ ch = panE 130 ∧ endP s = none) rfl (by kernel_rfl) (fun _ h => h) (fun _ _ _ _ ⟨j, h1, h2, h3⟩ hA => ⟨j, h1, h2, h3.agr hA (Xf_f (by omega))⟩) ?_ fun W hW => ?_
    · rintro ch ρ' w' ⟨h1,rfl,h2⟩
      simp
      rw [h2]
      exact ⟨h1,trivial⟩
    have hWE : Ext w4 W := hW ▸ Ext.drew _
    have l5 := l4.ext hWE
    simp
    refine RLX_float (fun W' h' => ?_) ?_
    · simp
      have := hWE.size
      have := h'.size
      exact ⟨(Ext.refl _).alloc _,by omega,Blk.new W' [u32 0,u32 0] 26⟩
    simp
    refine RLX_loose fun W5 h5 => ?_
    have l6 := l5.ext h5
    have hG6 := hG4.ext (hWE.trans h5)
    simp
    refine FN.mono (upto_c l6 (by omega)) ?_
    rintro e6 w6 ⟨M6,hp6⟩
    rcases ho : cutAt 46 r with _ | ⟨x, y⟩
    · rw [ho] at hp6
      obtain rfl : e6 = _ := hp6
      simp
      refine ⟨((((hE1.trans hE4).trans (hWE.trans h5)).mod (S := fun k => w.heap.size ≤ k)).trans (M6.weaken fun k hk => by have := hE1.size; omega)).ext fun _ h => h,?_⟩
      rw [hendP]
      simp [endQ,ho]
    rw [ho] at hp6
    obtain ⟨rfl,l7⟩ := hp6
    have hxy := cutAt_len ho
    have hsz := hE1.size
    have hG7 := hG6.mod M6 fun k hk => by omega
    have hM7 : Mod (fun k => w.heap.size ≤ k) w w6 := ((((hE1.trans hE4).trans (hWE.trans h5)).mod (S := fun k => w.heap.size ≤ k)).trans (M6.weaken fun k hk => by omega))
    have o7 := (o4.ext (hWE.trans h5)).mod M6 (by have := o1.lt; omega)
    simp
    refine KR_mk (Xf_agr M6) ?_
    simp
    refine RLX_loose fun W8 h8 => ?_
    simp
    refine FN.mono (bounded_c x 4294967295 (by omega) (by omega) (hG7.ext h8)) ?_
    rintro e9 w9 ⟨hE9,hp9⟩
    rcases ho2 : bndP x 4294967295 with _ | n
    · rw [ho2] at hp9
      obtain rfl : e9 = _ := hp9
      simp
      refine ⟨(hM7.trans (h8.trans hE9).mod).ext fun _ h => h,?_⟩
      rw [hendP]
      simp [endQ,ho,ho2]
    rw [ho2] at hp9
    obtain rfl : e9 = _ := hp9
    have hnle := bndP_le ho2
    have hw1 : IntKind.u32.wrap (n : Int) = n := wrap32u _ (by omega) (by omega)
    have l9 := (l7.ext h8).ext hE9
    simp
    refine KR_ext hE9 ?_
    simp [hw1]
    refine RLX_loose fun W10 h10 => ?_
    simp
    refine FN.mono (rest_c (l9.ext h10)) ?_
    rintro e11 w11 ⟨M11,rfl⟩
    simp
    refine KR_mk (Xf_agr M11) ?_
    simp
    refine RLX_loose fun W12 h12 => ?_
    have hM12 : Mod (fun k => w.heap.size ≤ k) w W12 := ((hM7.trans ((h8.trans hE9).trans h10).mod).trans (M11.weaken fun k hk => by omega)).trans h12.mod
    have hG12 := hG.mod hM12 fun k hk => by omega
    have o12 := ((o7.ext ((h8.trans hE9).trans h10)).mod M11 (by have := o1.lt; omega)).ext h12
    simp
    refine FN.mono (bounded_c y 4294967295 (by omega) (by omega) hG12) ?_
    rintro e13 w13 ⟨hE13,hp13⟩
    rcases ho3 : bndP y 4294967295 with _ | m
    · rw [ho3] at hp13
      obtain rfl : e13 = _ := hp13
      simp
      refine ⟨(hM12.trans hE13.mod).ext fun _ h => h,?_⟩
      rw [hendP]
      simp [endQ,ho,ho2,ho3]
    rw [ho3] at hp13
    obtain rfl : e13 = _ := hp13
    have hmle := bndP_le ho3
    have hw2 : IntKind.u32.wrap (m : Int) = m := wrap32u _ (by omega) (by omega)
    simp
    refine KR_ext hE13 ?_
    simp [hw2]
    refine RLX_wait fun v14 W14 h14 ⟨j,hj,hlj,hjb⟩ => ?_
    subst hj
    have o14 := (o12.ext hE13).ext h14
    have hM14 : Mod (fun k => w.heap.size ≤ k) w W14 := hM12.trans (hE13.trans h14).mod
    have hM15 : Mod (fun k => k = j) W14 ((W14.setCell ⟨j,0,none⟩ (u32 n)).setCell ⟨j,1,none⟩ (u32 m)) := ((Mod.refl _ W14).setC 0 _).setC 1 _
    have j15 := (hjb.set 0 (u32 n)).set 1 (u32 m)
    simp only [List.set_cons_zero,List.set_cons_succ] at j15
    have o15 := o14.mod hM15 (by have := o1.lt; omega)
    have hM16 := hM14.trans (hM15.weaken fun k hk => by omega)
    simp [hjb.cell 0 _ rfl,hjb.cell 1 _ rfl,hjb.thaw,cell_setCell]
    generalize ((W14.setCell ⟨j,0,none⟩ (u32 n)).setCell ⟨j,1,none⟩ (u32 m)) = w16 at *
    have hE0 : endP s = if n = 0 then none else some (n, m) := by
      rw [hendP]
      simp [endQ,ho,ho2,ho3]
    by_cases h0 : n = 0
    · have h0' : ¬ 0 < n := by omega
      simp [h0']
      refine FN.mono (nmust_f 130 w16) ?_
      rintro _ w17 ⟨rfl,rfl⟩
      simp
      refine ⟨hM16.ext fun _ h => h,?_⟩
      rw [hE0,if_pos h0]
      trivial
    · have h0' : 0 < n := by omega
      simp [h0']
      refine FN.mono (nmust_t 130 w16) ?_
      rintro _ w17 ⟨⟨x',rfl⟩,rfl⟩
      simp [j15.cell 0 _ rfl,j15.cell 1 _ rfl,o15.cell 0 _ rfl,o15.cell 1 _ rfl,o15.thaw,cell_setCell]
      refine ⟨(hM16.trans ((((Mod.refl (fun k => k = w.heap.size) w17).setC 0 _).setC 1 _).weaken fun k hk => by omega)).ext fun _ h => h,?_⟩
      rw [hE0,if_neg h0]
      exact ⟨rfl,rfl⟩
  · have hp' : Lib.hasPrefix s ipnT = false := by simpa using hp
    simp [hp']
    refine FN.mono (nmust_f 130 w2) ?_
    rintro _ w3 ⟨rfl,rfl⟩
    simp
    refine ⟨hE1,?_⟩
    simp [endP,hn,hp']
/-! ### Parse -/
/-- Behind a function that has not given up. -/
theorem ncaught_idle (a b : Value) (w : World) : CallsDIn (FR none) 0 Tryz.prog 185 #[a, b] .returning w fun e u' w' => (∃ v, e = .returned v) ∧ u' = .returning ∧ w' = w := by
  refine callsDIn_of_wpSIn Tryz.func185 rfl trivial fun c₀ cs hu => ?_
  apply wpSIn_seq
  apply wpSIn_region
  simp [wpOpsSIn,go_sem,recoverD,hu,Exit.thenS]
  apply wpSIn_seq
  apply wpSIn_region
  simp [wpOpsSIn,go_sem,Act.eval,Array.replicate,Exit.thenS]
  refine wpSIn_cond (t := false) (by simp [Act.eval]) ?_
  simp only [Bool.false_eq_true,if_false]
  refine wpSIn_of_wpIn rfl (wpIn_skip ?_)
  cases c₀
  simp_all [bodyPostS,results]
theorem nLV_caught {rs : Array ResultVar} {R : Ending → World → Prop} {ρ : Env} {ds : List Deferred} {w : World} {a b : Value} (h : LV Tryz.prog rs R ρ ds .returning w) :
    LV Tryz.prog rs R ρ ({ target := .fn (.func 185) #[],args := #[a,b] } :: ds) .returning w := by
  refine ⟨by simp, .inr ⟨.func 185, #[], 185, #[a, b], rfl, ?_, ?_⟩⟩
  · have := callFunc_enter Tryz.func185 rfl rfl #[a,b] w
    simp [invoke]
  · refine (ncaught_idle a b w).mono ?_
    rintro e u' w' ⟨⟨v,rfl⟩,rfl,rfl⟩
    exact h
/-- Behind a function that has given up: its error is kept,and what it told is cleared. -/
theorem ncaught_panic {b : Nat} {e0 e : Int} {f : Value} {w : World} {R : World → Prop} (hb : Var w b (i64 e0)) (hf : CV Tryz.prog f [] (w.setCell ⟨b, 0, none⟩ (i64 e)) fun en w' => (∃ v, en = .returned v) ∧ R w') :
    CallsDIn (FR none) 0 Tryz.prog 185 #[ptr b,f] (.panicking [⟨.iface 48 (i64 e),false,false⟩]) w fun en u' w' => (∃ v,en = .returned v) ∧ settle u' = .returning ∧ R w' := by
  refine callsDIn_of_wpSIn Tryz.func185 rfl trivial fun c₀ cs hu => ?_
  apply wpSIn_seq
  apply wpSIn_region
  simp [wpOpsSIn,go_sem,recoverD,hu,Exit.thenS]
  refine wpSIn_of_wpIn rfl ?_
  obtain ⟨T,hT⟩ : ∃ T : Array Value,T = #[ptr b,f] ++ ((Array.replicate 12 undef).setIfInBounds 3 (.iface 48 (i64 e))).setIfInBounds 2 (.iface 48 (i64 e)) := ⟨_,rfl⟩
  rw [← hT]
  have hA : Ag 14 T (fun t => T.getD t undef) := ⟨by rw [hT]; simp,fun _ _ => rfl⟩
  have t0 : T.getD 0 undef = ptr b := by rw [hT]; rfl
  have t1 : T.getD 1 undef = f := by rw [hT]; rfl
  have t4 : T.getD 4 undef = .iface 48 (i64 e) := by rw [hT]; rfl
  generalize hρ : (fun t => T.getD t undef : Env) = ρ at hA
  have r0 : ρ 0 = ptr b := by rw [← hρ]; exact t0
  have r1 : ρ 1 = f := by rw [← hρ]; exact t1
  have r4 : ρ 4 = .iface 48 (i64 e) := by rw [← hρ]; exact t4
  refine wpIn_mono (vc_sound (r := none) _ (fun e _ ds w' => e = .normal ∧ ds = [] ∧ R w') ρ [] w ?_ (by kernel_rfl) _ hA) ?_
  · have hn : ∀ W,(binOp .neq 20 (.iface 48 (i64 e)) .nilIface).run Tryz.prog W = .ok (.bool true) W := fun W => by simp [go_sem]
    have hta : ∀ W,(Instr.typeAssert (.iface 48 (i64 e)) 20 48 false).run Tryz.prog W = .ok (i64 e) W := fun W => by kernel_rfl
    simp [r0,r1,r4,hb.cell,hb.thaw,hn,hta]
    refine CV.mono hf ?_
    rintro _ w' ⟨⟨v,rfl⟩,hR⟩
    simp
    exact hR
  · rintro _ a w' ⟨ρ',hA',rfl,hd,hR⟩
    exact ⟨hd,_,rfl,.tuple #[],by simp [results],⟨_,rfl⟩,rfl,hR⟩
theorem nLV_panic {rs : Array ResultVar} {R : Ending → World → Prop} {ρ : Env} {ds : List Deferred} {w : World} {b : Nat} {e0 e : Int} {f : Value} (hb : Var w b (i64 e0)) (hf : CV Tryz.prog f [] (w.setCell ⟨b, 0, none⟩ (i64 e)) fun en w' => (∃ v, en = .returned v) ∧ LV Tryz.prog rs R ρ ds .returning w') :
    LV Tryz.prog rs R ρ ({ target := .fn (.func 185) #[],args := #[ptr b,f] } :: ds) (.panicking [⟨.iface 48 (i64 e),false,false⟩]) w := by
  refine ⟨by simp, .inr ⟨.func 185, #[], 185, #[ptr b, f], rfl, ?_, ?_⟩⟩
  · have := callFunc_enter Tryz.func185 rfl rfl #[ptr b,f] w
    simp [invoke]
  · refine (ncaught_panic hb hf).mono ?_
    rintro en u' w' ⟨⟨v,rfl⟩,hu,hR⟩
    show LV _ _ _ _ _ (settle u') _
    rw [hu]
    exact hR
def parseP (s : Tx) : Option (Nat × Nat) := if s.length ≤ 100 then endP s else none
theorem parse1_c {w : World} {b : Nat} {x y : Value} (hb : Blk w b [x, y]) : FN Tryz.prog 186 [ptr b] w fun e w' => (∃ v, e = .returned v) ∧ w' = (w.setCell ⟨b, 0, none⟩ (u32 0)).setCell ⟨b, 1, none⟩ (u32 0) := by
  refine FN_enter Tryz.func186 rfl rfl (by kernel_rfl) ?_
  simp [hb.cell 0 _ rfl,hb.cell 1 _ rfl,hb.thaw,cell_setCell]
set_option maxHeartbeats 2000000 in
theorem parse_c (s : Tx) (hs : s.length ≤ 1000000) {w : World} (hG : Gl w) (h8 : 8 ≤ w.heap.size) : FN Tryz.prog 146 [tv s] w fun e w' => Ext w w' ∧ match parseP s with
    | none => ∃ c : Int,c ≠ 0 ∧ e = .returned (.tuple #[eptV 0 0,i64 c])
    | some (n,m) => e = .returned (.tuple #[eptV n m,i64 0]) := by
  refine FN_enter Tryz.func146 rfl rfl (by kernel_rfl) ?_
  have hE1 : Ext w ((w.alloc (.cells #[u32 0,u32 0] 26)).alloc (.cells #[i64 0] 48)) := ((Ext.refl w).alloc _).alloc _
  have o1 : Blk ((w.alloc (.cells #[u32 0,u32 0] 26)).alloc (.cells #[i64 0] 48)) w.heap.size [u32 0,u32 0] := (Blk.new w [u32 0,u32 0] 26).ext ((Ext.refl _).alloc _)
  have q1 : Var ((w.alloc (.cells #[u32 0, u32 0] 26)).alloc (.cells #[i64 0] 48)) (w.heap.size + 1) (i64 0) := by
    have := Var.new (w.alloc (.cells #[u32 0,u32 0] 26)) (i64 0) 48
    simpa using this
  simp
  obtain ⟨a,ha⟩ : ∃ a,w.heap.size = a := ⟨_,rfl⟩
  rw [ha] at o1 q1 ⊢
  generalize ((w.alloc (.cells #[u32 0,u32 0] 26)).alloc (.cells #[i64 0] 48)) = w1 at *
  have pan : ∀ (c : Int) (W : World) (ρ : Env) (R : Ending → World → Prop), ρ 2 = ptr a → ρ 3 = ptr (a + 1) → Ext w1 W → (∀ W', Ext w W' → R (.returned (.tuple #[eptV 0 0, i64 c])) W') → LV Tryz.prog #[ResultVar.cell 2 26, ResultVar.cell 3 48] R ρ [{ target := .fn (.func 185) #[], args := #[ptr (a + 1), .func (.func 186) #[] #[ptr a]] }] (.panicking (panE c)) W := by
    intro c W ρ R e2 e3 hE hR
    have cW := q1.ext hE
    have xW := o1.ext hE
    refine nLV_panic cW ?_
    rw [CV_func]
    have hM1 : Mod (fun k => k = a + 1) W (W.setCell ⟨a + 1,0,.none⟩ (i64 c)) := (Mod.refl _ _).setC _ _
    have xW1 := xW.mod hM1 (by omega)
    have cW1 := cW.set (i64 c)
    generalize (W.setCell ⟨a + 1,0,.none⟩ (i64 c)) = W1 at *
    refine FN.mono (parse1_c xW1) ?_
    rintro e3' W2 ⟨⟨u,rfl⟩,hW2⟩
    refine ⟨⟨u,rfl⟩,?_⟩
    have hM2 : Mod (fun k => k = a) W1 W2 := by rw [hW2]; exact ((Mod.refl (fun k => k = a) W1).setC 0 _).setC 1 _
    have x2 : Blk W2 a [u32 0, u32 0] := by
      have := (xW1.set 0 (u32 0)).set 1 (u32 0)
      simp only [List.set_cons_zero,List.set_cons_succ] at this
      rw [hW2]; exact this
    have c2 := cW1.mod hM2 (by omega)
    simp [e2,e3,x2.cell 0 _ rfl,x2.cell 1 _ rfl,c2.cell]
    exact hR _ (((((hE1.trans hE).mod (S := fun k => w.heap.size ≤ k)).trans (hM1.weaken fun k hk => by omega)).trans (hM2.weaken fun k hk => by omega)).ext fun _ h => h)
  by_cases hl : (s.length : Int) ≤ 100
  · have hl' : s.length ≤ 100 := by omega
    simp [hl]
    refine FN.mono (nmust_t 3 w1) ?_
    rintro _ w2 ⟨⟨u,rfl⟩,rfl⟩
    simp
    refine FN.mono (endp_c s hs (hG.ext hE1) (by have := hE1.size; omega)) ?_
    rintro e3 w3 ⟨hE3,hp⟩
    have hP : parseP s = endP s := by unfold parseP; rw [if_pos hl']
    rcases ho : endP s with _ | ⟨n, m⟩
    · rw [ho] at hp
      obtain rfl : e3 = _ := hp
      simp
      refine pan 130 w3 _ _ (by simp) (by simp) hE3 fun W' hE' => ⟨hE',?_⟩
      rw [hP,ho]
      exact ⟨130,by omega,rfl⟩
    · rw [ho] at hp
      obtain rfl : e3 = _ := hp
      have o3 := o1.ext hE3
      have q3 := q1.ext hE3
      simp [o3.cell 0 _ rfl,o3.cell 1 _ rfl,o3.thaw,q3.cell,q3.thaw,cell_setCell]
      have hM4 : Mod (fun k => k = a ∨ k = a + 1) w3 (((w3.setCell ⟨a,0,none⟩ (u32 n)).setCell ⟨a,1,none⟩ (u32 m)).setCell ⟨a + 1,0,none⟩ (i64 0)) := ((((Mod.refl (fun k => k = a) w3).setC 0 _).setC 1 _).weaken fun k hk => Or.inl hk).trans (((Mod.refl (fun k => k = a + 1) _).setC 0 _).weaken fun k hk => Or.inr hk)
      have hMa : Mod (fun k => k = a) w3 ((w3.setCell ⟨a,0,none⟩ (u32 n)).setCell ⟨a,1,none⟩ (u32 m)) := ((Mod.refl (fun k => k = a) w3).setC 0 _).setC 1 _
      have q5 := (q3.mod hMa (by omega)).set (i64 0)
      have o5 := ((o3.set 0 (u32 n)).set 1 (u32 m)).mod ((Mod.refl (fun k => k = a + 1) ((w3.setCell ⟨a,0,none⟩ (u32 n)).setCell ⟨a,1,none⟩ (u32 m))).setC 0 (i64 0)) (by omega)
      simp only [List.set_cons_zero,List.set_cons_succ] at o5
      generalize (((w3.setCell ⟨a,0,none⟩ (u32 n)).setCell ⟨a,1,none⟩ (u32 m)).setCell ⟨a + 1,0,none⟩ (i64 0)) = w6 at *
      refine nLV_caught ?_
      simp [o5.cell 0 _ rfl,o5.cell 1 _ rfl,q5.cell]
      refine ⟨(((hE1.trans hE3).mod (S := fun k => w.heap.size ≤ k)).trans (hM4.weaken fun k hk => by rcases hk with hk | hk <;> omega)).ext fun _ h => h,?_⟩
      rw [hP,ho]
      exact ⟨rfl,rfl⟩
  · have hl' : ¬ s.length ≤ 100 := by omega
    simp [hl]
    refine FN.mono (nmust_f 3 w1) ?_
    rintro _ w2 ⟨rfl,rfl⟩
    simp
    refine pan 3 w2 _ _ (by simp) (by simp) (Ext.refl _) fun W' hE' => ⟨hE',?_⟩
    unfold parseP
    rw [if_neg hl']
    exact ⟨3,by omega,rfl⟩
end Go.Proofs
