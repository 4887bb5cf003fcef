/-
 Contracts of the functions that the law reaches,step by step.
-/
import Derived.Test.YtmmneeomcefgbaaGreatDoorScG
namespace Go.Proofs
open Pk
set_option maxRecDepth 10000
attribute [local simp] beq_dec bne_dec
theorem bbeq (a b : Tx) : ((⟨a.toArray⟩ : ByteArray) == ⟨b.toArray⟩) = decide (a = b) := by
 have : ((⟨a.toArray⟩ : ByteArray) == ⟨b.toArray⟩) = (a.toArray == b.toArray) := rfl
 rw [this]
 by_cases h : a = b
 ·subst h; simp
 ·simp [h]
theorem keyEq_str {K : TypeId} (hK : Tryz.prog.underlying K = some .string) : KeyEq Tryz.prog K tv where
 find := by
  intro k es m w he
  have hu := run_und hK w
  have key : ∀ (es : List MapEntry) (m : List Tx) (i : Nat), es.map (·.key) = m.map tv →
    Instr.findNow .string (tv k) es i = some ((m.findIdx? (fun x => decide (x = k))).bind fun j => (es[j]?).map fun e => (i + j,e.val)) := by
   intro es
   induction es with
   | nil => intro m i h; cases m with
    | nil => rfl
    | cons => simp at h
   | cons e es ih =>
    intro m i h
    cases m with
    | nil => simp at h
    | cons x m =>
     simp only [List.map_cons,List.cons.injEq] at h
     simp only [Instr.findNow,h.1,Instr.sameNow,List.findIdx?_cons]
     by_cases hx : x = k
     ·subst hx; simp [bbeq]
     ·have h1 : ((⟨k.toArray⟩ : ByteArray) == ⟨x.toArray⟩) = false := by
       rw [bbeq]; simpa using Ne.symm hx
      simp only [h1,ih m (i + 1) h.2,hx,decide_false]
      cases m.findIdx? (fun x => decide (x = k)) with
      | none => rfl
      | some j => simp only [Option.map_some,Option.bind_some]; congr 2; funext e; congr 1; omega
  unfold Instr.findKey
  simp only [Sem.run_bind,hu,Result.andThen_ok,key es m 0 he,Sem.run_pure]
  simp
 check := by
  intro b k w
  have hu := run_und hK w
  have e : ∀ d, (Instr.checkKey b (d + 1) K (tv k)).run Tryz.prog w = .ok () w := fun d => by
   simp only [Instr.checkKey,Sem.run_bind,hu,Result.andThen_ok,Sem.run_pure]
  exact e 9999
 same := by
  intro k w
  have e : Instr.sameBits 10000 (tv k) (tv k) = true := by
   have h : ((⟨k.toArray⟩ : ByteArray) == ⟨k.toArray⟩) = true := by rw [bbeq]; simp
   exact h
  unfold Instr.keyThatStays
  rw [if_pos e]
  rfl
abbrev agL (l : List Value) : Value := .agg l.toArray
abbrev fnT (f : Nat) : Value := .func (.func f) #[] #[]
abbrev fnP (f b : Nat) : Value := .func (.func f) #[] #[ptr b]
def lnL (f1 f2 : Nat) : List (Tx × List Value) :=
 [([110, 111, 100, 101], [i64 1, fnT 45, fnT 48]), ([111, 112, 101, 110], [i64 2, fnT 112, fnP 113 f1]), ([99, 108, 111, 115, 101], [i64 2, fnT 112, fnP 113 f2]),
  ([115,101,110,100],[i64 3,fnT 114,fnT 117]),([109,101,109,98,101,114],[i64 8,fnT 120,fnT 121]),([116,101,108,108],[i64 16,fnT 122,fnT 124]),
  ([97,105,114],[i64 4,fnT 55,fnT 57]),([108,105,103,104,116],[i64 5,fnT 59,fnT 61]),([112,108,97,110],[i64 6,fnT 63,fnT 65]),([115,116,101,112],[i64 7,fnT 66,fnT 67]),
  ([116,114,101,101],[i64 9,fnT 68,fnT 69]),([115,101,114,118,101],[i64 10,fnT 70,fnT 72]),([108,97,110,100],[i64 11,fnT 74,fnT 75]),([116,105,99,107],[i64 12,fnT 76,fnT 77]),
  ([99,114,97,115,104],[i64 13,fnT 78,fnT 80]),([97,114,109],[i64 14,fnT 82,fnT 83]),([97,115,107],[i64 15,fnT 84,fnT 85])]
theorem kst : KeyEq Tryz.prog 9 tv := keyEq_str (by simp)
theorem tln : Tryz.prog.underlying 73 = some (.map 9 78) := by simp
theorem zln (w : World) : (zeroValue 78).run Tryz.prog w = .ok (agL [i64 0,.nilFunc,.nilFunc]) w := by simp
theorem sopens_c (is : Bool) (w : World) : FN Tryz.prog 51 [.bool is] w fun e w' => ∃ f, e = .returned (agL [i64 2, fnT 112, fnP 113 f]) ∧ Var w' f (.bool is) ∧ w.heap.size ≤ f ∧ Ext w w' := by
 refine FN_enter Tryz.func51 rfl rfl (by kernel_rfl) ?_
 simp
 have hE1 : Ext w (w.alloc (.cells #[.bool is] 4)) := (Ext.refl w).alloc _
 have v1 : Var (w.alloc (.cells #[.bool is] 4)) w.heap.size (.bool is) := Var.new w _ _
 exact ⟨v1.ext ((Ext.refl _).alloc _),hE1.alloc _⟩
theorem sletters_c (w : World) : FN Tryz.prog 52 [] w fun e w' => e = .returned (agL [i64 3, fnT 114, fnT 117]) ∧ Ext w w' := by
 refine FN_enter Tryz.func52 rfl rfl (by kernel_rfl) ?_
 simp
 exact (Ext.refl w).alloc _
theorem smembers_c (w : World) : FN Tryz.prog 53 [] w fun e w' => e = .returned (agL [i64 8, fnT 120, fnT 121]) ∧ Ext w w' := by
 refine FN_enter Tryz.func53 rfl rfl (by kernel_rfl) ?_
 simp
 exact (Ext.refl w).alloc _
theorem stells_c (w : World) : FN Tryz.prog 54 [] w fun e w' => e = .returned (agL [i64 16, fnT 122, fnT 124]) ∧ Ext w w' := by
 refine FN_enter Tryz.func54 rfl rfl (by kernel_rfl) ?_
 simp
 exact (Ext.refl w).alloc _
set_option maxHeartbeats 4000000 in
theorem slines_c (w : World) : FN Tryz.prog 23 [] w fun e w' => ∃ r f1 f2, e = .returned (.map (some r)) ∧ MapAt tv agL w' r (lnL f1 f2) ∧ Var w' f1 (.bool true) ∧ Var w' f2 (.bool false) ∧ w.heap.size ≤ r ∧ w.heap.size ≤ f1 ∧ w.heap.size ≤ f2 ∧ Ext w w' := by
 refine FN_enter Tryz.func23 rfl rfl (by kernel_rfl) ?_
 have m0 := MapAt.alloc0 tv agL w
 have h0 : Mod (fun k => w.heap.size ≤ k) w (w.alloc (.map #[] 0)) := ((Ext.refl w).alloc _).mod
 simp
 obtain ⟨r,hr⟩ : ∃ r,r = w.heap.size := ⟨_,rfl⟩
 rw [← hr] at m0 ⊢
 generalize (w.alloc (.map #[] 0)) = w0 at *
 obtain ⟨w1,u1,m1,H1,-⟩ := m0.update (P := Tryz.prog) kst tln [110,111,100,101] [i64 1,fnT 45,fnT 48]
 have h1 := h0.trans (H1.weaken fun k hk => by omega)
 simp [u1]
 refine FN.mono (sopens_c true w1) ?_
 rintro _ w1c ⟨f1,rfl,vf1,gf1,E1⟩
 have zf1 := h1.size
 have M1 := m1.ext E1
 have hc1 := h1.trans E1.mod
 have L1 := m1.lt
 obtain ⟨w2,u2,m2,H2,-⟩ := M1.update (P := Tryz.prog) kst tln [111,112,101,110] [i64 2,fnT 112,fnP 113 f1]
 have h2 := hc1.trans (H2.weaken fun k hk => by omega)
 have vf1 := vf1.mod H2 (by omega)
 simp [u2]
 refine FN.mono (sopens_c false w2) ?_
 rintro _ w2c ⟨f2,rfl,vf2,gf2,E2⟩
 have zf2 := h2.size
 have vf1 := vf1.ext E2
 have M2 := m2.ext E2
 have hc2 := h2.trans E2.mod
 have L2 := m2.lt
 obtain ⟨w3,u3,m3,H3,-⟩ := M2.update (P := Tryz.prog) kst tln [99,108,111,115,101] [i64 2,fnT 112,fnP 113 f2]
 have h3 := hc2.trans (H3.weaken fun k hk => by omega)
 have vf1 := vf1.mod H3 (by omega)
 have vf2 := vf2.mod H3 (by omega)
 simp [u3]
 refine FN.mono (sletters_c w3) ?_
 rintro _ w3c ⟨rfl,E3⟩
 have M3 := m3.ext E3
 have hc3 := h3.trans E3.mod
 obtain ⟨w4,u4,m4,H4,-⟩ := M3.update (P := Tryz.prog) kst tln [115,101,110,100] [i64 3,fnT 114,fnT 117]
 have h4 := hc3.trans (H4.weaken fun k hk => by omega)
 have vf1 := (vf1.ext E3).mod H4 (by omega)
 have vf2 := (vf2.ext E3).mod H4 (by omega)
 simp [u4]
 refine FN.mono (smembers_c w4) ?_
 rintro _ w4c ⟨rfl,E4⟩
 have M4 := m4.ext E4
 have hc4 := h4.trans E4.mod
 obtain ⟨w5,u5,m5,H5,-⟩ := M4.update (P := Tryz.prog) kst tln [109,101,109,98,101,114] [i64 8,fnT 120,fnT 121]
 have h5 := hc4.trans (H5.weaken fun k hk => by omega)
 have vf1 := (vf1.ext E4).mod H5 (by omega)
 have vf2 := (vf2.ext E4).mod H5 (by omega)
 simp [u5]
 refine FN.mono (stells_c w5) ?_
 rintro _ w5c ⟨rfl,E5⟩
 have M5 := m5.ext E5
 have hc5 := h5.trans E5.mod
 obtain ⟨w6,u6,m6,H6,-⟩ := M5.update (P := Tryz.prog) kst tln [116,101,108,108] [i64 16,fnT 122,fnT 124]
 have h6 := hc5.trans (H6.weaken fun k hk => by omega)
 have vf1 := (vf1.ext E5).mod H6 (by omega)
 have vf2 := (vf2.ext E5).mod H6 (by omega)
 obtain ⟨w7,u7,m7,H7,-⟩ := m6.update (P := Tryz.prog) kst tln [97,105,114] [i64 4,fnT 55,fnT 57]
 have h7 := h6.trans (H7.weaken fun k hk => by omega)
 have vf1 := vf1.mod H7 (by omega)
 have vf2 := vf2.mod H7 (by omega)
 obtain ⟨w8,u8,m8,H8,-⟩ := m7.update (P := Tryz.prog) kst tln [108,105,103,104,116] [i64 5,fnT 59,fnT 61]
 have h8 := h7.trans (H8.weaken fun k hk => by omega)
 have vf1 := vf1.mod H8 (by omega)
 have vf2 := vf2.mod H8 (by omega)
 obtain ⟨w9,u9,m9,H9,-⟩ := m8.update (P := Tryz.prog) kst tln [112,108,97,110] [i64 6,fnT 63,fnT 65]
 have h9 := h8.trans (H9.weaken fun k hk => by omega)
 have vf1 := vf1.mod H9 (by omega)
 have vf2 := vf2.mod H9 (by omega)
 obtain ⟨w10,u10,m10,H10,-⟩ := m9.update (P := Tryz.prog) kst tln [115,116,101,112] [i64 7,fnT 66,fnT 67]
 have h10 := h9.trans (H10.weaken fun k hk => by omega)
 have vf1 := vf1.mod H10 (by omega)
 have vf2 := vf2.mod H10 (by omega)
 obtain ⟨w11,u11,m11,H11,-⟩ := m10.update (P := Tryz.prog) kst tln [116,114,101,101] [i64 9,fnT 68,fnT 69]
 have h11 := h10.trans (H11.weaken fun k hk => by omega)
 have vf1 := vf1.mod H11 (by omega)
 have vf2 := vf2.mod H11 (by omega)
 obtain ⟨w12,u12,m12,H12,-⟩ := m11.update (P := Tryz.prog) kst tln [115,101,114,118,101] [i64 10,fnT 70,fnT 72]
 have h12 := h11.trans (H12.weaken fun k hk => by omega)
 have vf1 := vf1.mod H12 (by omega)
 have vf2 := vf2.mod H12 (by omega)
 obtain ⟨w13,u13,m13,H13,-⟩ := m12.update (P := Tryz.prog) kst tln [108,97,110,100] [i64 11,fnT 74,fnT 75]
 have h13 := h12.trans (H13.weaken fun k hk => by omega)
 have vf1 := vf1.mod H13 (by omega)
 have vf2 := vf2.mod H13 (by omega)
 obtain ⟨w14,u14,m14,H14,-⟩ := m13.update (P := Tryz.prog) kst tln [116,105,99,107] [i64 12,fnT 76,fnT 77]
 have h14 := h13.trans (H14.weaken fun k hk => by omega)
 have vf1 := vf1.mod H14 (by omega)
 have vf2 := vf2.mod H14 (by omega)
 obtain ⟨w15,u15,m15,H15,-⟩ := m14.update (P := Tryz.prog) kst tln [99,114,97,115,104] [i64 13,fnT 78,fnT 80]
 have h15 := h14.trans (H15.weaken fun k hk => by omega)
 have vf1 := vf1.mod H15 (by omega)
 have vf2 := vf2.mod H15 (by omega)
 obtain ⟨w16,u16,m16,H16,-⟩ := m15.update (P := Tryz.prog) kst tln [97,114,109] [i64 14,fnT 82,fnT 83]
 have h16 := h15.trans (H16.weaken fun k hk => by omega)
 have vf1 := vf1.mod H16 (by omega)
 have vf2 := vf2.mod H16 (by omega)
 obtain ⟨w17,u17,m17,H17,-⟩ := m16.update (P := Tryz.prog) kst tln [97,115,107] [i64 15,fnT 84,fnT 85]
 have h17 := h16.trans (H17.weaken fun k hk => by omega)
 have vf1 := vf1.mod H17 (by omega)
 have vf2 := vf2.mod H17 (by omega)
 simp [u6,u7,u8,u9,u10,u11,u12,u13,u14,u15,u16,u17]
 refine ⟨f1,f2,?_,vf1,vf2,by have := h1.size; omega,by have := h2.size; omega,h17.ext fun _ h => hr ▸ h⟩
 exact (show _ = lnL f1 f2 from by kernel_rfl) ▸ m17
end Go.Proofs
namespace Go.Proofs
open Pk
set_option maxRecDepth 10000
attribute [local simp] beq_dec bne_dec
def openR (is : Bool) (t : Trn) (l : List Tx) : Option (Trn × List Tx) := (nodeQ l).bind fun x1 => (nodeQ x1.2).bind fun x2 => some ({ t with node := ((x1.1 : Nat) : Int),n := ((x2.1 : Nat) : Int),yes := is },x2.2)
set_option maxHeartbeats 4000000 in
theorem rdopen_c {w : World} {rb b tb : Nat} {t : Trn} {l0 : List Tx} (K0 : Rw w rb b l0) (hr : rb < w.heap.size) (T0 : Blk w tb (trC t nilS nilS)) (hp : t.pay = []) (hk : t.keep = []) (hne : tb ≠ b) (hnr : tb ≠ rb) (HL0 : l0.length ≤ 1000000) (HS0 : ∀ s ∈ l0, s.length ≤ 1000000) (hG : Gl w) (h8 : 8 ≤ b) (h9 : 8 ≤ tb) {fb : Nat} {is : Bool} (V0 : Var w fb (.bool is)) (hfb : fb ≠ b) (hft : fb ≠ tb) : FN Tryz.prog 113 [ptr b, ptr tb, ptr fb] w fun e w' => RdT w w' rb b tb (openR is t l0) e := by
 refine FN_enter Tryz.func113 rfl rfl (by kernel_rfl) ?_
 have A0 : Mod (fun k => k = b ∨ k = tb) w w := Mod.refl _ _
 have hb := K0.lt
 have htb := T0.lt
 simp
 refine FN.mono (wnode_c K0 HL0) ?_
 rintro e1 w1 ⟨M1,p1⟩
 have A1 := A0.trans (M1.weaken fun k hk => Or.inl hk)
 rcases o1 : nodeQ l0 with _ | ⟨x1, l1⟩
 ·rw [show wordP _ l0 = none from o1] at p1
  obtain rfl : e1 = _ := p1
  simp
  exact ⟨A1,by simp [openR,o1]; exact ⟨_,_,_,T0.mod M1 hne⟩⟩
 rw [show wordP _ l0 = some (x1,l1) from o1] at p1
 obtain ⟨rfl,K1⟩ := p1
 have HL1 := wordP_len o1 HL0
 have HS1 := wordP_sub o1 HS0
 have T1 := T0.mod M1 hne
 simp
 refine FN.mono (wnode_c K1 HL1) ?_
 rintro e2 w2 ⟨M2,p2⟩
 have A2 := A1.trans (M2.weaken fun k hk => Or.inl hk)
 rcases o2 : nodeQ l1 with _ | ⟨x2, l2⟩
 ·rw [show wordP _ l1 = none from o2] at p2
  obtain rfl : e2 = _ := p2
  simp
  exact ⟨A2,by simp [openR,o1,o2]; exact ⟨_,_,_,T1.mod M2 hne⟩⟩
 rw [show wordP _ l1 = some (x2,l2) from o2] at p2
 obtain ⟨rfl,K2⟩ := p2
 have T2 := T1.mod M2 hne
 have hx2 := nodeQ_le o2
 have hw2 : IntKind.u64.wrap (x2 : Int) = x2 := wrap64u _ (by omega) (by omega)
 have S2_1 : Mod (fun k => k = tb) w2 ((w2.setCell ⟨tb,1,none⟩ (u32 x1)).setCell ⟨tb,3,none⟩ (u64 x2)) := ((Mod.refl _ _).setC 1 _).setC 3 _
 have T2s1 : Blk ((w2.setCell ⟨tb,1,none⟩ (u32 x1)).setCell ⟨tb,3,none⟩ (u64 x2)) tb (trC { t with node := (x1 : Int),n := (x2 : Int) } nilS nilS) := ((T2.set 1 (u32 x1)).set 3 (u64 x2))
 have K2s1 := K2.mod S2_1 (fun h => hne h.symm) (fun h => hnr h.symm)
 have A2s1 := A2.trans (S2_1.weaken fun k hk => Or.inr hk)
 have V2 := V0.mod A2 (fun h => h.elim hfb hft)
 have hft' : ¬ tb = fb := fun h => hft h.symm
 have S3 : Mod (fun k => k = tb) ((w2.setCell ⟨tb,1,none⟩ (u32 x1)).setCell ⟨tb,3,none⟩ (u64 x2)) (((w2.setCell ⟨tb,1,none⟩ (u32 x1)).setCell ⟨tb,3,none⟩ (u64 x2)).setCell ⟨tb,4,none⟩ (.bool is)) := (Mod.refl _ _).setC 4 _
 have T3 : Blk (((w2.setCell ⟨tb,1,none⟩ (u32 x1)).setCell ⟨tb,3,none⟩ (u64 x2)).setCell ⟨tb,4,none⟩ (.bool is)) tb (trC { t with node := (x1 : Int),n := (x2 : Int),yes := is } nilS nilS) := T2s1.set 4 (.bool is)
 have K3 := K2s1.mod S3 (fun h => hne h.symm) (fun h => hnr h.symm)
 have A3 := A2s1.trans (S3.weaken fun k hk => Or.inr hk)
 simp [T2.cell 1 _ rfl,T2.cell 3 _ rfl,T2.cell 4 _ rfl,T2.thaw,cell_setCell,hw2,hft,V2.cell]
 refine ⟨A3,?_⟩
 rw [show openR is t l0 = some ({ t with node := (x1 : Int),n := (x2 : Int),yes := is },l2) by simp [openR,o1,o2]]
 exact ⟨⟨_,rfl⟩,K3,⟨⟨_,_,T3,by rw [hp]; exact Sl.nil _ _ _,fun h => absurd hp h,by rw [hk]; exact Sl.nil _ _ _,fun h => absurd hk h⟩⟩⟩
def Rds (f1 f2 : Nat) (fr : Value) (R : Trn → List Tx → Option (Trn × List Tx)) : Prop :=
 ∀ {w : World} {rb b tb : Nat} {t : Trn} {l0 : List Tx}, Rw w rb b l0 → rb < w.heap.size → Blk w tb (trC t nilS nilS) → t.pay = [] → t.keep = [] → tb ≠ b → tb ≠ rb → l0.length ≤ 1000000 → (∀ s ∈ l0, s.length ≤ 1000000) → Gl w → 8 ≤ b → 8 ≤ tb →
  Var w f1 (.bool true) → Var w f2 (.bool false) → f1 ≠ b → f1 ≠ tb → f2 ≠ b → f2 ≠ tb → CV Tryz.prog fr [ptr b,ptr tb] w fun e w' => RdT w w' rb b tb (R t l0) e
def rdW (s : Tx) : Option (Int × (Trn → List Tx → Option (Trn × List Tx))) :=
 if s = [110,111,100,101] then some (1,nodeR) else if s = [111,112,101,110] then some (2,openR true) else if s = [99,108,111,115,101] then some (2,openR false)
 else if s = [115,101,110,100] then some (3,sendR) else if s = [109,101,109,98,101,114] then some (8,memberR) else if s = [97,105,114] then some (4,airR) else if s = [108,105,103,104,116] then some (5,lightR)
 else if s = [112,108,97,110] then some (6,planR) else if s = [115,116,101,112] then some (7,stepR) else if s = [116,114,101,101] then some (9,treeR) else if s = [115,101,114,118,101] then some (10,serveR)
 else if s = [108,97,110,100] then some (11,landR) else if s = [116,105,99,107] then some (12,tickR) else if s = [99,114,97,115,104] then some (13,crashR) else if s = [97,114,109] then some (14,armR)
 else if s = [97,115,107] then some (15,askR) else none
abbrev tellT : Tx := [116,101,108,108]
def LookOk (rd : Tx → Option (Int × (Trn → List Tx → Option (Trn × List Tx)))) (f1 f2 : Nat) (s : Tx) : Prop := match rd s with
  | none => mget (lnL f1 f2) s = none
  | some (k,R) => ∃ fl fr,mget (lnL f1 f2) s = some [i64 k,fl,fr] ∧ oneV fl = true ∧ oneV fr = true ∧ Rds f1 f2 fr R
theorem rdW_look (f1 f2 : Nat) (s : Tx) (ht : s ≠ tellT) : LookOk rdW f1 f2 s := by
 unfold LookOk rdW
 by_cases c0 : s = [110, 111, 100, 101]
 ·subst c0
  refine ⟨_,_,rfl,rfl,rfl,fun K hr T hp hk hn hn2 HL HS hG h8 h9 _ _ _ _ _ _ => ?_⟩
  rw [CV_func]
  exact rdnode_c K hr T hp hk hn hn2 HL HS hG h8 h9
 rw [if_neg c0]
 by_cases c1 : s = [111, 112, 101, 110]
 ·subst c1
  refine ⟨_,_,rfl,rfl,rfl,fun K hr T hp hk hn hn2 HL HS hG h8 h9 hv1 hv2 hb1 ht1 hb2 ht2 => ?_⟩
  rw [CV_func]
  exact rdopen_c K hr T hp hk hn hn2 HL HS hG h8 h9 hv1 hb1 ht1
 rw [if_neg c1]
 by_cases c2 : s = [99, 108, 111, 115, 101]
 ·subst c2
  refine ⟨_,_,rfl,rfl,rfl,fun K hr T hp hk hn hn2 HL HS hG h8 h9 hv1 hv2 hb1 ht1 hb2 ht2 => ?_⟩
  rw [CV_func]
  exact rdopen_c K hr T hp hk hn hn2 HL HS hG h8 h9 hv2 hb2 ht2
 rw [if_neg c2]
 by_cases c3 : s = [115, 101, 110, 100]
 ·subst c3
  refine ⟨_,_,rfl,rfl,rfl,fun K hr T hp hk hn hn2 HL HS hG h8 h9 _ _ _ _ _ _ => ?_⟩
  rw [CV_func]
  exact rdsend_c K hr T hp hk hn hn2 HL HS hG h8 h9
 rw [if_neg c3]
 by_cases c4 : s = [109, 101, 109, 98, 101, 114]
 ·subst c4
  refine ⟨_,_,rfl,rfl,rfl,fun K hr T hp hk hn hn2 HL HS hG h8 h9 _ _ _ _ _ _ => ?_⟩
  rw [CV_func]
  exact rdmember_c K hr T hp hk hn hn2 HL HS hG h8 h9
 rw [if_neg c4]
 by_cases c5 : s = [97, 105, 114]
 ·subst c5
  refine ⟨_,_,rfl,rfl,rfl,fun K hr T hp hk hn hn2 HL HS hG h8 h9 _ _ _ _ _ _ => ?_⟩
  rw [CV_func]
  exact rdair_c K hr T hp hk hn hn2 HL HS hG h8 h9
 rw [if_neg c5]
 by_cases c6 : s = [108, 105, 103, 104, 116]
 ·subst c6
  refine ⟨_,_,rfl,rfl,rfl,fun K hr T hp hk hn hn2 HL HS hG h8 h9 _ _ _ _ _ _ => ?_⟩
  rw [CV_func]
  exact rdlight_c K hr T hp hk hn hn2 HL HS hG h8 h9
 rw [if_neg c6]
 by_cases c7 : s = [112, 108, 97, 110]
 ·subst c7
  refine ⟨_,_,rfl,rfl,rfl,fun K hr T hp hk hn hn2 HL HS hG h8 h9 _ _ _ _ _ _ => ?_⟩
  rw [CV_func]
  exact rdplan_c K hr T hp hk hn hn2 HL HS hG h8 h9
 rw [if_neg c7]
 by_cases c8 : s = [115, 116, 101, 112]
 ·subst c8
  refine ⟨_,_,rfl,rfl,rfl,fun K hr T hp hk hn hn2 HL HS hG h8 h9 _ _ _ _ _ _ => ?_⟩
  rw [CV_func]
  exact rdstep_c K hr T hp hk hn hn2 HL HS hG h8 h9
 rw [if_neg c8]
 by_cases c9 : s = [116, 114, 101, 101]
 ·subst c9
  refine ⟨_,_,rfl,rfl,rfl,fun K hr T hp hk hn hn2 HL HS hG h8 h9 _ _ _ _ _ _ => ?_⟩
  rw [CV_func]
  exact rdtree_c K hr T hp hk hn hn2 HL HS hG h8 h9
 rw [if_neg c9]
 by_cases c10 : s = [115, 101, 114, 118, 101]
 ·subst c10
  refine ⟨_,_,rfl,rfl,rfl,fun K hr T hp hk hn hn2 HL HS hG h8 h9 _ _ _ _ _ _ => ?_⟩
  rw [CV_func]
  exact rdserve_c K hr T hp hk hn hn2 HL HS hG h8 h9
 rw [if_neg c10]
 by_cases c11 : s = [108, 97, 110, 100]
 ·subst c11
  refine ⟨_,_,rfl,rfl,rfl,fun K hr T hp hk hn hn2 HL HS hG h8 h9 _ _ _ _ _ _ => ?_⟩
  rw [CV_func]
  exact rdland_c K hr T hp hk hn hn2 HL HS hG h8 h9
 rw [if_neg c11]
 by_cases c12 : s = [116, 105, 99, 107]
 ·subst c12
  refine ⟨_,_,rfl,rfl,rfl,fun K hr T hp hk hn hn2 HL HS hG h8 h9 _ _ _ _ _ _ => ?_⟩
  rw [CV_func]
  exact rdtick_c K hr T hp hk hn hn2 HL HS hG h8 h9
 rw [if_neg c12]
 by_cases c13 : s = [99, 114, 97, 115, 104]
 ·subst c13
  refine ⟨_,_,rfl,rfl,rfl,fun K hr T hp hk hn hn2 HL HS hG h8 h9 _ _ _ _ _ _ => ?_⟩
  rw [CV_func]
  exact rdcrash_c K hr T hp hk hn hn2 HL HS hG h8 h9
 rw [if_neg c13]
 by_cases c14 : s = [97, 114, 109]
 ·subst c14
  refine ⟨_,_,rfl,rfl,rfl,fun K hr T hp hk hn hn2 HL HS hG h8 h9 _ _ _ _ _ _ => ?_⟩
  rw [CV_func]
  exact rdarm_c K hr T hp hk hn hn2 HL HS hG h8 h9
 rw [if_neg c14]
 by_cases c15 : s = [97, 115, 107]
 ·subst c15
  refine ⟨_,_,rfl,rfl,rfl,fun K hr T hp hk hn hn2 HL HS hG h8 h9 _ _ _ _ _ _ => ?_⟩
  rw [CV_func]
  exact rdask_c K hr T hp hk hn hn2 HL HS hG h8 h9
 rw [if_neg c15]
 show mget _ _ = none
 have ne : ∀ x : Tx,s ≠ x → ¬ x = s := fun x h e => h e.symm
 simp [mget,lnL,ne _ c0,ne _ c1,ne _ c2,ne _ c3,ne _ c4,ne _ c5,ne _ c6,ne _ c7,ne _ c8,ne _ c9,ne _ c10,ne _ c11,ne _ c12,ne _ c13,ne _ c14,ne _ c15,ne _ ht]
end Go.Proofs