/-
  Contracts of the functions that the law reaches,step by step.
-/
import Derived.Test.YtmmneeomcefgbaaGreatDoorScH
namespace Go.Proofs
open Pk
set_option maxRecDepth 10000
attribute [local simp] beq_dec bne_dec
def openR (is : Bool) (t : Trn) (l : List Tx) : Option (Trn × List Tx) := (nodeQ l).bind fun x1 => (nodeQ x1.2).bind fun x2 => some ({ t with node := ((x1.1 : Nat) : Int),n := ((x2.1 : Nat) : Int),yes := is },x2.2)
set_option maxHeartbeats 4000000 in
theorem rdopen_c {w : World} {rb b tb : Nat} {t : Trn} {l0 : List Tx} (K0 : Rw w rb b l0) (hr : rb < w.heap.size) (T0 : Blk w tb (trC t nilS nilS)) (hp : t.pay = []) (hk : t.keep = []) (hne : tb ≠ b) (hnr : tb ≠ rb) (HL0 : l0.length ≤ 1000000) (HS0 : ∀ s ∈ l0, s.length ≤ 1000000) (hG : Gl w) (h8 : 8 ≤ b) (h9 : 8 ≤ tb) {fb : Nat} {is : Bool} (V0 : Var w fb (.bool is)) (hfb : fb ≠ b) (hft : fb ≠ tb) : FN Tryz.prog 113 [ptr b, ptr tb, ptr fb] w fun e w' => RdT w w' rb b tb (openR is t l0) e := by
  refine FN_enter Tryz.func113 rfl rfl (by kernel_rfl) ?_
  have A0 : Mod (fun k => k = b ∨ k = tb) w w := Mod.refl _ _
  have hb := K0.lt
  have htb := T0.lt
  simp
  refine FN.mono (wnode_c K0 HL0) ?_
  rintro e1 w1 ⟨M1,p1⟩
  have A1 := A0.trans (M1.weaken fun k hk => Or.inl hk)
  rcases o1 : nodeQ l0 with _ | ⟨x1, l1⟩
  · rw [show wordP _ l0 = none from o1] at p1
    obtain rfl : e1 = _ := p1
    simp
    exact ⟨A1,by simp [openR,o1]; exact ⟨_,_,_,T0.mod M1 hne⟩⟩
  rw [show wordP _ l0 = some (x1,l1) from o1] at p1
  obtain ⟨rfl,K1⟩ := p1
  have HL1 := wordP_len o1 HL0
  have HS1 := wordP_sub o1 HS0
  have T1 := T0.mod M1 hne
  simp
  refine FN.mono (wnode_c K1 HL1) ?_
  rintro e2 w2 ⟨M2,p2⟩
  have A2 := A1.trans (M2.weaken fun k hk => Or.inl hk)
  rcases o2 : nodeQ l1 with _ | ⟨x2, l2⟩
  · rw [show wordP _ l1 = none from o2] at p2
    obtain rfl : e2 = _ := p2
    simp
    exact ⟨A2,by simp [openR,o1,o2]; exact ⟨_,_,_,T1.mod M2 hne⟩⟩
  rw [show wordP _ l1 = some (x2,l2) from o2] at p2
  obtain ⟨rfl,K2⟩ := p2
  have T2 := T1.mod M2 hne
  have hx2 := nodeQ_le o2
  have hw2 : IntKind.u64.wrap (x2 : Int) = x2 := wrap64u _ (by omega) (by omega)
  have S2_1 : Mod (fun k => k = tb) w2 ((w2.setCell ⟨tb,1,none⟩ (u32 x1)).setCell ⟨tb,3,none⟩ (u64 x2)) := ((Mod.refl _ _).setC 1 _).setC 3 _
  have T2s1 : Blk ((w2.setCell ⟨tb,1,none⟩ (u32 x1)).setCell ⟨tb,3,none⟩ (u64 x2)) tb (trC { t with node := (x1 : Int),n := (x2 : Int) } nilS nilS) := ((T2.set 1 (u32 x1)).set 3 (u64 x2))
  have K2s1 := K2.mod S2_1 (fun h => hne h.symm) (fun h => hnr h.symm)
  have A2s1 := A2.trans (S2_1.weaken fun k hk => Or.inr hk)
  have V2 := V0.mod A2 (fun h => h.elim hfb hft)
  have hft' : ¬ tb = fb := fun h => hft h.symm
  have S3 : Mod (fun k => k = tb) ((w2.setCell ⟨tb,1,none⟩ (u32 x1)).setCell ⟨tb,3,none⟩ (u64 x2)) (((w2.setCell ⟨tb,1,none⟩ (u32 x1)).setCell ⟨tb,3,none⟩ (u64 x2)).setCell ⟨tb,4,none⟩ (.bool is)) := (Mod.refl _ _).setC 4 _
  have T3 : Blk (((w2.setCell ⟨tb,1,none⟩ (u32 x1)).setCell ⟨tb,3,none⟩ (u64 x2)).setCell ⟨tb,4,none⟩ (.bool is)) tb (trC { t with node := (x1 : Int),n := (x2 : Int),yes := is } nilS nilS) := T2s1.set 4 (.bool is)
  have K3 := K2s1.mod S3 (fun h => hne h.symm) (fun h => hnr h.symm)
  have A3 := A2s1.trans (S3.weaken fun k hk => Or.inr hk)
  simp [T2.cell 1 _ rfl,T2.cell 3 _ rfl,T2.cell 4 _ rfl,T2.thaw,cell_setCell,hw2,hft,V2.cell]
  refine ⟨A3,?_⟩
  rw [show openR is t l0 = some ({ t with node := (x1 : Int),n := (x2 : Int),yes := is },l2) by simp [openR,o1,o2]]
  exact ⟨⟨_,rfl⟩,K3,⟨⟨_,_,T3,by rw [hp]; exact Sl.nil _ _ _,fun h => absurd hp h,by rw [hk]; exact Sl.nil _ _ _,fun h => absurd hk h⟩⟩⟩
/-! ### Which word reads how -/
/-- A value that reads turns: f1,f2 hold true and false. -/
def Rds (f1 f2 : Nat) (fr : Value) (R : Trn → List Tx → Option (Trn × List Tx)) : Prop :=
  ∀ {w : World} {rb b tb : Nat} {t : Trn} {l0 : List Tx}, Rw w rb b l0 → rb < w.heap.size → Blk w tb (trC t nilS nilS) → t.pay = [] → t.keep = [] → tb ≠ b → tb ≠ rb → l0.length ≤ 1000000 → (∀ s ∈ l0, s.length ≤ 1000000) → Gl w → 8 ≤ b → 8 ≤ tb →
    Var w f1 (.bool true) → Var w f2 (.bool false) → f1 ≠ b → f1 ≠ tb → f2 ≠ b → f2 ≠ tb → CV Tryz.prog fr [ptr b,ptr tb] w fun e w' => RdT w w' rb b tb (R t l0) e
/-- What stands behind a line's first word. -/
def rdW (s : Tx) : Option (Int × (Trn → List Tx → Option (Trn × List Tx))) :=
  if s = [110,111,100,101] then some (1,nodeR) else if s = [111,112,101,110] then some (2,openR true) else if s = [99,108,111,115,101] then some (2,openR false)
  else if s = [115,101,110,100] then some (3,sendR) else if s = [109,101,109,98,101,114] then some (8,memberR) else if s = [97,105,114] then some (4,airR) else if s = [108,105,103,104,116] then some (5,lightR)
  else if s = [112,108,97,110] then some (6,planR) else if s = [115,116,101,112] then some (7,stepR) else if s = [116,114,101,101] then some (9,treeR) else if s = [115,101,114,118,101] then some (10,serveR)
  else if s = [108,97,110,100] then some (11,landR) else if s = [116,105,99,107] then some (12,tickR) else if s = [99,114,97,115,104] then some (13,crashR) else if s = [97,114,109] then some (14,armR)
  else if s = [97,115,107] then some (15,askR) else none
abbrev tellT : Tx := [116,101,108,108]
/-- How a word is found. -/
def LookOk (rd : Tx → Option (Int × (Trn → List Tx → Option (Trn × List Tx)))) (f1 f2 : Nat) (s : Tx) : Prop := match rd s with
    | none => mget (lnL f1 f2) s = none
    | some (k,R) => ∃ fl fr,mget (lnL f1 f2) s = some [i64 k,fl,fr] ∧ oneV fl = true ∧ oneV fr = true ∧ Rds f1 f2 fr R
theorem rdW_look (f1 f2 : Nat) (s : Tx) (ht : s ≠ tellT) : LookOk rdW f1 f2 s := by
  unfold LookOk rdW
  by_cases c0 : s = [110, 111, 100, 101]
  · subst c0
    refine ⟨_,_,rfl,rfl,rfl,fun K hr T hp hk hn hn2 HL HS hG h8 h9 _ _ _ _ _ _ => ?_⟩
    rw [CV_func]
    exact rdnode_c K hr T hp hk hn hn2 HL HS hG h8 h9
  rw [if_neg c0]
  by_cases c1 : s = [111, 112, 101, 110]
  · subst c1
    refine ⟨_,_,rfl,rfl,rfl,fun K hr T hp hk hn hn2 HL HS hG h8 h9 hv1 hv2 hb1 ht1 hb2 ht2 => ?_⟩
    rw [CV_func]
    exact rdopen_c K hr T hp hk hn hn2 HL HS hG h8 h9 hv1 hb1 ht1
  rw [if_neg c1]
  by_cases c2 : s = [99, 108, 111, 115, 101]
  · subst c2
    refine ⟨_,_,rfl,rfl,rfl,fun K hr T hp hk hn hn2 HL HS hG h8 h9 hv1 hv2 hb1 ht1 hb2 ht2 => ?_⟩
    rw [CV_func]
    exact rdopen_c K hr T hp hk hn hn2 HL HS hG h8 h9 hv2 hb2 ht2
  rw [if_neg c2]
  by_cases c3 : s = [115, 101, 110, 100]
  · subst c3
    refine ⟨_,_,rfl,rfl,rfl,fun K hr T hp hk hn hn2 HL HS hG h8 h9 _ _ _ _ _ _ => ?_⟩
    rw [CV_func]
    exact rdsend_c K hr T hp hk hn hn2 HL HS hG h8 h9
  rw [if_neg c3]
  by_cases c4 : s = [109, 101, 109, 98, 101, 114]
  · subst c4
    refine ⟨_,_,rfl,rfl,rfl,fun K hr T hp hk hn hn2 HL HS hG h8 h9 _ _ _ _ _ _ => ?_⟩
    rw [CV_func]
    exact rdmember_c K hr T hp hk hn hn2 HL HS hG h8 h9
  rw [if_neg c4]
  by_cases c5 : s = [97, 105, 114]
  · subst c5
    refine ⟨_,_,rfl,rfl,rfl,fun K hr T hp hk hn hn2 HL HS hG h8 h9 _ _ _ _ _ _ => ?_⟩
    rw [CV_func]
    exact rdair_c K hr T hp hk hn hn2 HL HS hG h8 h9
  rw [if_neg c5]
  by_cases c6 : s = [108, 105, 103, 104, 116]
  · subst c6
    refine ⟨_,_,rfl,rfl,rfl,fun K hr T hp hk hn hn2 HL HS hG h8 h9 _ _ _ _ _ _ => ?_⟩
    rw [CV_func]
    exact rdlight_c K hr T hp hk hn hn2 HL HS hG h8 h9
  rw [if_neg c6]
  by_cases c7 : s = [112, 108, 97, 110]
  · subst c7
    refine ⟨_,_,rfl,rfl,rfl,fun K hr T hp hk hn hn2 HL HS hG h8 h9 _ _ _ _ _ _ => ?_⟩
    rw [CV_func]
    exact rdplan_c K hr T hp hk hn hn2 HL HS hG h8 h9
  rw [if_neg c7]
  by_cases c8 : s = [115, 116, 101, 112]
  · subst c8
    refine ⟨_,_,rfl,rfl,rfl,fun K hr T hp hk hn hn2 HL HS hG h8 h9 _ _ _ _ _ _ => ?_⟩
    rw [CV_func]
    exact rdstep_c K hr T hp hk hn hn2 HL HS hG h8 h9
  rw [if_neg c8]
  by_cases c9 : s = [116, 114, 101, 101]
  · subst c9
    refine ⟨_,_,rfl,rfl,rfl,fun K hr T hp hk hn hn2 HL HS hG h8 h9 _ _ _ _ _ _ => ?_⟩
    rw [CV_func]
    exact rdtree_c K hr T hp hk hn hn2 HL HS hG h8 h9
  rw [if_neg c9]
  by_cases c10 : s = [115, 101, 114, 118, 101]
  · subst c10
    refine ⟨_,_,rfl,rfl,rfl,fun K hr T hp hk hn hn2 HL HS hG h8 h9 _ _ _ _ _ _ => ?_⟩
    rw [CV_func]
    exact rdserve_c K hr T hp hk hn hn2 HL HS hG h8 h9
  rw [if_neg c10]
  by_cases c11 : s = [108, 97, 110, 100]
  · subst c11
    refine ⟨_,_,rfl,rfl,rfl,fun K hr T hp hk hn hn2 HL HS hG h8 h9 _ _ _ _ _ _ => ?_⟩
    rw [CV_func]
    exact rdland_c K hr T hp hk hn hn2 HL HS hG h8 h9
  rw [if_neg c11]
  by_cases c12 : s = [116, 105, 99, 107]
  · subst c12
    refine ⟨_,_,rfl,rfl,rfl,fun K hr T hp hk hn hn2 HL HS hG h8 h9 _ _ _ _ _ _ => ?_⟩
    rw [CV_func]
    exact rdtick_c K hr T hp hk hn hn2 HL HS hG h8 h9
  rw [if_neg c12]
  by_cases c13 : s = [99, 114, 97, 115, 104]
  · subst c13
    refine ⟨_,_,rfl,rfl,rfl,fun K hr T hp hk hn hn2 HL HS hG h8 h9 _ _ _ _ _ _ => ?_⟩
    rw [CV_func]
    exact rdcrash_c K hr T hp hk hn hn2 HL HS hG h8 h9
  rw [if_neg c13]
  by_cases c14 : s = [97, 114, 109]
  · subst c14
    refine ⟨_,_,rfl,rfl,rfl,fun K hr T hp hk hn hn2 HL HS hG h8 h9 _ _ _ _ _ _ => ?_⟩
    rw [CV_func]
    exact rdarm_c K hr T hp hk hn hn2 HL HS hG h8 h9
  rw [if_neg c14]
  by_cases c15 : s = [97, 115, 107]
  · subst c15
    refine ⟨_,_,rfl,rfl,rfl,fun K hr T hp hk hn hn2 HL HS hG h8 h9 _ _ _ _ _ _ => ?_⟩
    rw [CV_func]
    exact rdask_c K hr T hp hk hn hn2 HL HS hG h8 h9
  rw [if_neg c15]
  show mget _ _ = none
  have ne : ∀ x : Tx,s ≠ x → ¬ x = s := fun x h e => h e.symm
  simp [mget,lnL,ne _ c0,ne _ c1,ne _ c2,ne _ c3,ne _ c4,ne _ c5,ne _ c6,ne _ c7,ne _ c8,ne _ c9,ne _ c10,ne _ c11,ne _ c12,ne _ c13,ne _ c14,ne _ c15,ne _ ht]
end Go.Proofs
