/-
  Contracts of the functions that the law reaches,step by step.
-/
import Derived.Test.YtmmneeomcefgbaaGreatDoorTxA
import Derived.Test.YtmmneeomcefgbaaGreatDoorScC
namespace Go.Proofs
open Pk
set_option maxRecDepth 100000
attribute [local simp] beq_dec bne_dec
/-! ### The document's Split -/
def cutO (c : UInt8) (s : Tx) : Tx × Tx × Bool := match cutAt c s with
  | none => (s,[],false)
  | some (x,y) => (x,y,true)
theorem dcut_c (c : UInt8) (s : Tx) (hs : s.length ≤ 1000000) (w : World) : FN Tryz.prog 39 [tv s, .int .u8 c.toNat] w fun e w' => e = .returned (.tuple #[tv (cutO c s).1, tv (cutO c s).2.1, .bool (cutO c s).2.2]) ∧ Ext w w' := by
  refine FN_enter Tryz.func39 rfl rfl (by kernel_rfl) ?_
  simp
  refine WC_loop (fun k ρ ds w' => ∃ i : Nat,k = s.length - i ∧ i ≤ s.length ∧ ρ 0 = tv s ∧ ρ 1 = .int .u8 c.toNat ∧ ρ 7 = i64 i ∧ ds = [] ∧ w' = w ∧ ∀ j (h : j < s.length),j < i → s[j] ≠ c) s.length ⟨0,by simp,by simp,by simp,by simp,by simp,rfl,rfl,fun j _ h => by omega⟩ ?_
  rintro k ρ ds w1 ⟨i,rfl,hi,e0,e1,e7,rfl,rfl,hno⟩
  by_cases hlt : i < s.length
  · have hlt' : (i : Int) < s.length := by omega
    have wi : IntKind.i64.wrap ((i : Int) + 1) = i + 1 := wrap64 _ (by omega) (by omega)
    have hq : ((s[i].toNat : Int) = (c.toNat : Int)) ↔ s[i] = c := by
      rw [Int.natCast_inj,UInt8.toNat_inj]
    have td := tx_drop 9 (by simp) s (i + 1) (by omega)
    have tt := tx_take 9 (by simp) s i hi
    have td' : ∀ W,(Instr.sliceAt 9 (tv s) (some (i64 ((i : Int) + 1))) none none).run Tryz.prog W = .ok (tv (s.drop (i + 1))) W := fun W => by simpa using td W
    by_cases hc : s[i] = c
    · have hn := cutAt_some hlt hc fun j h => hno j (by omega) h
      simp [e0,e1,e7,hlt,hc]
      refine WC_drawC 8 (.F 0 <| .F 1 <| .F 2 <| .F 3 <| .F 4 <| .F 5 <| .F 6 <| .F 7 <| .Z) (fun _ => false) rfl (by kernel_rfl) fun W1 hW1 => ?_
      have WE : Ext w1 W1 := hW1 ▸ Ext.drew _
      simp [e0,e7,wi,td',tt]
      simp [cutO,hn,WE]
    · simp [e0,e1,e7,hlt,hq,hc,wi]
      refine ⟨s.length - (i + 1),by omega,i + 1,rfl,by omega,by omega,fun j hj h => ?_⟩
      rcases Nat.lt_or_ge j i with h' | h'
      · exact hno j hj h'
      · have : j = i := by omega
        subst this
        exact hc
  · have hi' : i = s.length := by omega
    have hn : cutAt c s = none := cutAt_none fun j h => hno j h (by omega)
    simp [e0,e7,hlt]
    simp [cutO,hn,Ext.refl]
theorem wdn_cut (s : Tx) : wdn s = match cutAt 10 s with
    | none => [s]
    | some (x,y) => x :: wdn y := by
  induction s with
  | nil => rfl
  | cons b r ih =>
    rw [wdn,cutAt]
    by_cases hb : b = 10
    · rw [if_pos hb,if_pos hb]
    · rw [if_neg hb,if_neg hb,ih]
      cases cutAt 10 r with
      | none => rfl
      | some p => rfl
theorem dsplit_c (s : Tx) (hs : s.length ≤ 1000000) (w : World) : FN Tryz.prog 17 [tv s, .int .u8 10] w fun e w' => ∃ v, e = .returned v ∧ w'.ownsRow w.heap.size 9 1 v (wdn s).length ((wdn s).map tv) ∧ Ext w w' := by
  refine FN_enter Tryz.func17 rfl rfl (by kernel_rfl) ?_
  simp
  refine WC_loop (fun k ρ ds w' => ∃ (r : Tx) (v : Value) (xs : List Tx), k = r.length ∧ r.length ≤ s.length ∧ xs.length + r.length ≤ s.length ∧ ρ 0 = tv r ∧ ρ 1 = .int .u8 10 ∧ ρ 5 = v ∧ ds = [] ∧ w'.ownsRow w.heap.size 9 1 v xs.length (xs.map tv) ∧ Ext w w' ∧ xs ++ wdn r = wdn s)
    s.length ⟨s,.slice none 0 0,[],by simp,by simp,by simp,by simp,by simp,by simp,rfl,World.ownsRow_nil _ _ _ _,Ext.refl w,rfl⟩ ?_
  rintro k ρ ds w1 ⟨r,v,xs,rfl,hr,hxr,e0,e1,e5,rfl,ho,hE,hw⟩
  simp [e0,e1]
  have hd := dcut_c 10 r (by omega) w1
  refine FN.mono (hd) ?_
  rintro _ w2 ⟨rfl,hE2⟩
  replace ho := own_ext ho hE2
  replace hE := hE.trans hE2
  simp
  have e1' := (Ext.refl w2).alloc (.cells #[tv (cutO 10 r).1] 9)
  have ho' := own_ext ho e1'
  obtain ⟨v',w3,hrun,ho3,hm,hnew⟩ := append_own (P := Tryz.prog) (t := 60) (ty := 60) (e := 9) (s := 1) (by simp) (by simp) (by kernel_rfl) ho' (Sl.one w2 (tv (cutO 10 r).1) 9) (by intro u hu; rw [List.mem_singleton] at hu; subst hu; rfl) (by omega) (by have := hE.size; have := e1'.size; omega)
  simp [e5,hrun]
  have hE3 : Ext w w3 := (((hE.trans e1').mod (S := fun k => w.heap.size ≤ k)).trans (hm.weaken fun i hi => by have := own_ge ho' hi.1; omega)).ext fun _ h => h
  have hcut := wdn_cut r
  have hco : cutO 10 r = match cutAt 10 r with
    | none => (r,[],false)
    | some (x,y) => (x,y,true) := rfl
  cases hq : cutAt 10 r with
  | none =>
    rw [hq] at hco hcut
    rw [hcut] at hw
    rw [hco] at ho3 ⊢
    simp
    rw [← hw]
    simpa using ⟨ho3,hE3⟩
  | some p =>
    obtain ⟨x,y⟩ := p
    rw [hq] at hco hcut
    rw [hcut] at hw
    rw [hco] at ho3 ⊢
    have hl := cutAt_len hq
    simp [e1]
    refine ⟨y.length,by omega,y,rfl,by omega,v',xs ++ [x],by simp; omega,rfl,rfl,?_,hE3,by simpa using hw⟩
    simpa using ho3
end Go.Proofs
