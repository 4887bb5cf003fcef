/-
 Contracts of the functions that the law reaches,step by step.
-/
import Derived.Test.YtmmneeomcefgbaaGreatDoorScD
import Derived.Test.YtmmneeomcefgbaaGreatDoorAmA
namespace Go.Proofs
open Pk
set_option maxRecDepth 10000
attribute [local simp] beq_dec bne_dec
structure Trn where
 kind : Int
 node : Int
 to' : Int
 n : Int
 yes : Bool
 fate : Int
 lton : Int
 ltos : Int
 lsvc : Int
 lflg : Int
 lren : Int
 lres : Int
 life : Int
 lim : Int
 pay : List UInt8
 c : Ctc
 s : Stp
 mn : Int
 mr : Int
 me : Int
 mi : Bool
 r : Rec
 keep : List Bool
def trn0 : Trn := ⟨0,0,0,0,false,0,0,0,0,0,0,0,0,0,[],⟨0,0,0,0,0⟩,⟨0,0,0,0⟩,0,0,0,false,rec0,[]⟩
abbrev trC (t : Trn) (vp vk : Value) : List Value := [i64 t.kind, u32 t.node, u32 t.to', u64 t.n, .bool t.yes, u8 t.fate, u32 t.lton, u32 t.ltos, u32 t.lsvc, u32 t.lflg, u32 t.lren, u32 t.lres, u64 t.life, u8 t.lim, vp,
 u32 t.c.fr,u32 t.c.to',u64 t.c.sf,u64 t.c.su,u64 t.c.rate,u32 t.s.fr,u32 t.s.to',u64 t.s.at',u64 t.s.tk,u32 t.mn,u32 t.mr,u32 t.me,.bool t.mi,
 i64 t.r.kind,u32 t.r.nn,u32 t.r.ns,u64 t.r.nt,u32 t.r.nq,i64 t.r.what,i64 t.r.why,u64 t.r.at',u64 t.r.num,u32 t.r.node,u32 t.r.reg,.bool t.r.yes,u64 t.r.fro,u64 t.r.til,u8 t.r.lev,vk]
abbrev nilS : Value := .slice none 0 0
structure TAt (w : World) (n tb : Nat) (t : Trn) : Prop where
 row : ∃ vp vk,Blk w tb (trC t vp vk) ∧ Sl w 1 vp t.pay.length (t.pay.map encB) ∧ (t.pay ≠ [] → n ≤ slB vp) ∧ Sl w 1 vk t.keep.length (t.keep.map Value.bool) ∧ (t.keep ≠ [] → n ≤ slB vk)
def TB (w : World) (tb : Nat) : Prop := ∃ t vp vk,Blk w tb (trC t vp vk)
def RdT (w w' : World) (rb b tb : Nat) (o : Option (Trn × List Tx)) (e : Ending) : Prop :=
 Mod (fun k => k = b ∨ k = tb) w w' ∧ match o with
 | none => e = .panicked panS ∧ TB w' tb
 | some (t,r) => (∃ u,e = .returned u) ∧ Rw w' rb b r ∧ TAt w' w.heap.size tb t
theorem smallQ_le {l r : List Tx} {x : Nat} (h : smallQ l = some (x,r)) : x ≤ 255 := wordP_le (fun _ _ h => numP_le h) h
def pointQ (l : List Tx) : Option ((Nat × Nat) × List Tx) := wordP parseP l
def ioP (s : Tx) : Option Bool := if s = [105,110] then some true else if s = [111,117,116] then some false else none
def ioQ (l : List Tx) : Option (Bool × List Tx) := wordP ioP l
theorem slKeep {w w' : World} {tb : Nat} {v : Value} {n : Nat} {cs : List Value} (h : Sl w 1 v n cs) (hM : Mod (fun k => k = tb) w w') (hg : cs ≠ [] → slB v ≠ tb) : Sl w' 1 v n cs := by
 refine ⟨h.len,h.val,fun j u hj => ?_⟩
 refine hM.cell (h.at_ j u hj) ?_
 exact hg (fun e => by rw [e] at hj; simp at hj)
def nodeR (t : Trn) (l : List Tx) : Option (Trn × List Tx) := (nodeQ l).bind fun x1 => (longQ x1.2).bind fun x2 => some ({ t with node := ((x1.1 : Nat) : Int),n := ((x2.1 : Nat) : Int) },x2.2)
set_option maxHeartbeats 4000000 in
theorem rdnode_c {w : World} {rb b tb : Nat} {t : Trn} {l0 : List Tx} (K0 : Rw w rb b l0) (hr : rb < w.heap.size) (T0 : Blk w tb (trC t nilS nilS)) (hp : t.pay = []) (hk : t.keep = []) (hne : tb ≠ b) (hnr : tb ≠ rb) (HL0 : l0.length ≤ 1000000) (HS0 : ∀ s ∈ l0, s.length ≤ 1000000) (hG : Gl w) (h8 : 8 ≤ b) (h9 : 8 ≤ tb) : FN Tryz.prog 48 [ptr b, ptr tb] w fun e w' => RdT w w' rb b tb (nodeR t l0) e := by
 refine FN_enter Tryz.func48 rfl rfl (by kernel_rfl) ?_
 have A0 : Mod (fun k => k = b ∨ k = tb) w w := Mod.refl _ _
 have hb := K0.lt
 have htb := T0.lt
 simp
 refine FN.mono (wnode_c K0 HL0) ?_
 rintro e1 w1 ⟨M1,p1⟩
 have A1 := A0.trans (M1.weaken fun k hk => Or.inl hk)
 rcases o1 : nodeQ l0 with _ | ⟨x1, l1⟩
 ·rw [show wordP _ l0 = none from o1] at p1
  obtain rfl : e1 = _ := p1
  simp
  exact ⟨A1,by simp [nodeR,o1]; exact ⟨_,_,_,T0.mod M1 hne⟩⟩
 rw [show wordP _ l0 = some (x1,l1) from o1] at p1
 obtain ⟨rfl,K1⟩ := p1
 have HL1 := wordP_len o1 HL0
 have HS1 := wordP_sub o1 HS0
 have T1 := T0.mod M1 hne
 simp
 refine FN.mono (wlong_c K1 HL1) ?_
 rintro e2 w2 ⟨M2,p2⟩
 have A2 := A1.trans (M2.weaken fun k hk => Or.inl hk)
 rcases o2 : longQ l1 with _ | ⟨x2, l2⟩
 ·rw [show wordP _ l1 = none from o2] at p2
  obtain rfl : e2 = _ := p2
  simp
  exact ⟨A2,by simp [nodeR,o1,o2]; exact ⟨_,_,_,T1.mod M2 hne⟩⟩
 rw [show wordP _ l1 = some (x2,l2) from o2] at p2
 obtain ⟨rfl,K2⟩ := p2
 have T2 := T1.mod M2 hne
 have S2_1 : Mod (fun k => k = tb) w2 ((w2.setCell ⟨tb,1,none⟩ (u32 x1)).setCell ⟨tb,3,none⟩ (u64 x2)) := ((Mod.refl _ _).setC 1 _).setC 3 _
 have T2s1 : Blk ((w2.setCell ⟨tb,1,none⟩ (u32 x1)).setCell ⟨tb,3,none⟩ (u64 x2)) tb (trC { t with node := (x1 : Int),n := (x2 : Int) } nilS nilS) := ((T2.set 1 (u32 x1)).set 3 (u64 x2))
 have K2s1 := K2.mod S2_1 (fun h => hne h.symm) (fun h => hnr h.symm)
 have A2s1 := A2.trans (S2_1.weaken fun k hk => Or.inr hk)
 simp [T2.cell 1 _ rfl,T2.cell 3 _ rfl,T2.thaw,cell_setCell]
 refine ⟨A2s1,?_⟩
 rw [show nodeR t l0 = some ({ t with node := (x1 : Int),n := (x2 : Int) },l2) by simp [nodeR,o1,o2]]
 exact ⟨⟨_,rfl⟩,K2s1,⟨⟨_,_,T2s1,by rw [hp]; exact Sl.nil _ _ _,fun h => absurd hp h,by rw [hk]; exact Sl.nil _ _ _,fun h => absurd hk h⟩⟩⟩
def airR (t : Trn) (l : List Tx) : Option (Trn × List Tx) := (ctQ l).bind fun x1 => some ({ t with c := x1.1 },x1.2)
set_option maxHeartbeats 4000000 in
theorem rdair_c {w : World} {rb b tb : Nat} {t : Trn} {l0 : List Tx} (K0 : Rw w rb b l0) (hr : rb < w.heap.size) (T0 : Blk w tb (trC t nilS nilS)) (hp : t.pay = []) (hk : t.keep = []) (hne : tb ≠ b) (hnr : tb ≠ rb) (HL0 : l0.length ≤ 1000000) (HS0 : ∀ s ∈ l0, s.length ≤ 1000000) (hG : Gl w) (h8 : 8 ≤ b) (h9 : 8 ≤ tb) : FN Tryz.prog 57 [ptr b, ptr tb] w fun e w' => RdT w w' rb b tb (airR t l0) e := by
 refine FN_enter Tryz.func57 rfl rfl (by kernel_rfl) ?_
 have A0 : Mod (fun k => k = b ∨ k = tb) w w := Mod.refl _ _
 have hb := K0.lt
 have htb := T0.lt
 simp
 refine FN.mono (rcontact_c K0 (Nat.lt_of_lt_of_le hr A0.size) HL0) ?_
 rintro e1 w1 ⟨M1,p1⟩
 have A1 := A0.trans (M1.weaken fun k hk => Or.inl hk)
 rcases o1 : ctQ l0 with _ | ⟨x1, l1⟩
 ·rw [show ctQ l0 = none from o1] at p1
  obtain rfl : e1 = _ := p1
  simp
  exact ⟨A1,by simp [airR,o1]; exact ⟨_,_,_,T0.mod M1 hne⟩⟩
 rw [show ctQ l0 = some (x1,l1) from o1] at p1
 obtain ⟨rfl,K1⟩ := p1
 have T1 := T0.mod M1 hne
 have S1_1 : Mod (fun k => k = tb) w1 (((((w1.setCell ⟨tb,15,none⟩ (u32 x1.fr)).setCell ⟨tb,16,none⟩ (u32 x1.to')).setCell ⟨tb,17,none⟩ (u64 x1.sf)).setCell ⟨tb,18,none⟩ (u64 x1.su)).setCell ⟨tb,19,none⟩ (u64 x1.rate)) := (((((Mod.refl _ _).setC 15 _).setC 16 _).setC 17 _).setC 18 _).setC 19 _
 have T1s1 : Blk (((((w1.setCell ⟨tb,15,none⟩ (u32 x1.fr)).setCell ⟨tb,16,none⟩ (u32 x1.to')).setCell ⟨tb,17,none⟩ (u64 x1.sf)).setCell ⟨tb,18,none⟩ (u64 x1.su)).setCell ⟨tb,19,none⟩ (u64 x1.rate)) tb (trC { t with c := x1 } nilS nilS) := (((((T1.set 15 (u32 x1.fr)).set 16 (u32 x1.to')).set 17 (u64 x1.sf)).set 18 (u64 x1.su)).set 19 (u64 x1.rate))
 have K1s1 := K1.mod S1_1 (fun h => hne h.symm) (fun h => hnr h.symm)
 have A1s1 := A1.trans (S1_1.weaken fun k hk => Or.inr hk)
 simp [T1.cell 15 _ rfl,T1.cell 16 _ rfl,T1.cell 17 _ rfl,T1.cell 18 _ rfl,T1.cell 19 _ rfl,T1.thaw,cell_setCell]
 refine ⟨A1s1,?_⟩
 rw [show airR t l0 = some ({ t with c := x1 },l1) by simp [airR,o1]]
 exact ⟨⟨_,rfl⟩,K1s1,⟨⟨_,_,T1s1,by rw [hp]; exact Sl.nil _ _ _,fun h => absurd hp h,by rw [hk]; exact Sl.nil _ _ _,fun h => absurd hk h⟩⟩⟩
def lightR (t : Trn) (l : List Tx) : Option (Trn × List Tx) := (stQ l).bind fun x1 => some ({ t with s := x1.1 },x1.2)
set_option maxHeartbeats 4000000 in
theorem rdlight_c {w : World} {rb b tb : Nat} {t : Trn} {l0 : List Tx} (K0 : Rw w rb b l0) (hr : rb < w.heap.size) (T0 : Blk w tb (trC t nilS nilS)) (hp : t.pay = []) (hk : t.keep = []) (hne : tb ≠ b) (hnr : tb ≠ rb) (HL0 : l0.length ≤ 1000000) (HS0 : ∀ s ∈ l0, s.length ≤ 1000000) (hG : Gl w) (h8 : 8 ≤ b) (h9 : 8 ≤ tb) : FN Tryz.prog 61 [ptr b, ptr tb] w fun e w' => RdT w w' rb b tb (lightR t l0) e := by
 refine FN_enter Tryz.func61 rfl rfl (by kernel_rfl) ?_
 have A0 : Mod (fun k => k = b ∨ k = tb) w w := Mod.refl _ _
 have hb := K0.lt
 have htb := T0.lt
 simp
 refine FN.mono (rstep_c K0 (Nat.lt_of_lt_of_le hr A0.size) HL0) ?_
 rintro e1 w1 ⟨M1,p1⟩
 have A1 := A0.trans (M1.weaken fun k hk => Or.inl hk)
 rcases o1 : stQ l0 with _ | ⟨x1, l1⟩
 ·rw [show stQ l0 = none from o1] at p1
  obtain rfl : e1 = _ := p1
  simp
  exact ⟨A1,by simp [lightR,o1]; exact ⟨_,_,_,T0.mod M1 hne⟩⟩
 rw [show stQ l0 = some (x1,l1) from o1] at p1
 obtain ⟨rfl,K1⟩ := p1
 have T1 := T0.mod M1 hne
 have S1_1 : Mod (fun k => k = tb) w1 ((((w1.setCell ⟨tb,20,none⟩ (u32 x1.fr)).setCell ⟨tb,21,none⟩ (u32 x1.to')).setCell ⟨tb,22,none⟩ (u64 x1.at')).setCell ⟨tb,23,none⟩ (u64 x1.tk)) := ((((Mod.refl _ _).setC 20 _).setC 21 _).setC 22 _).setC 23 _
 have T1s1 : Blk ((((w1.setCell ⟨tb,20,none⟩ (u32 x1.fr)).setCell ⟨tb,21,none⟩ (u32 x1.to')).setCell ⟨tb,22,none⟩ (u64 x1.at')).setCell ⟨tb,23,none⟩ (u64 x1.tk)) tb (trC { t with s := x1 } nilS nilS) := ((((T1.set 20 (u32 x1.fr)).set 21 (u32 x1.to')).set 22 (u64 x1.at')).set 23 (u64 x1.tk))
 have K1s1 := K1.mod S1_1 (fun h => hne h.symm) (fun h => hnr h.symm)
 have A1s1 := A1.trans (S1_1.weaken fun k hk => Or.inr hk)
 simp [T1.cell 20 _ rfl,T1.cell 21 _ rfl,T1.cell 22 _ rfl,T1.cell 23 _ rfl,T1.thaw,cell_setCell]
 refine ⟨A1s1,?_⟩
 rw [show lightR t l0 = some ({ t with s := x1 },l1) by simp [lightR,o1]]
 exact ⟨⟨_,rfl⟩,K1s1,⟨⟨_,_,T1s1,by rw [hp]; exact Sl.nil _ _ _,fun h => absurd hp h,by rw [hk]; exact Sl.nil _ _ _,fun h => absurd hk h⟩⟩⟩
def planR (t : Trn) (l : List Tx) : Option (Trn × List Tx) := (nodeQ l).bind fun x1 => (nodeQ x1.2).bind fun x2 => (ctQ x2.2).bind fun x3 => some ({ t with node := ((x1.1 : Nat) : Int),n := ((x2.1 : Nat) : Int),c := x3.1 },x3.2)
set_option maxHeartbeats 4000000 in
theorem rdplan_c {w : World} {rb b tb : Nat} {t : Trn} {l0 : List Tx} (K0 : Rw w rb b l0) (hr : rb < w.heap.size) (T0 : Blk w tb (trC t nilS nilS)) (hp : t.pay = []) (hk : t.keep = []) (hne : tb ≠ b) (hnr : tb ≠ rb) (HL0 : l0.length ≤ 1000000) (HS0 : ∀ s ∈ l0, s.length ≤ 1000000) (hG : Gl w) (h8 : 8 ≤ b) (h9 : 8 ≤ tb) : FN Tryz.prog 65 [ptr b, ptr tb] w fun e w' => RdT w w' rb b tb (planR t l0) e := by
 refine FN_enter Tryz.func65 rfl rfl (by kernel_rfl) ?_
 have A0 : Mod (fun k => k = b ∨ k = tb) w w := Mod.refl _ _
 have hb := K0.lt
 have htb := T0.lt
 simp
 refine FN.mono (wnode_c K0 HL0) ?_
 rintro e1 w1 ⟨M1,p1⟩
 have A1 := A0.trans (M1.weaken fun k hk => Or.inl hk)
 rcases o1 : nodeQ l0 with _ | ⟨x1, l1⟩
 ·rw [show wordP _ l0 = none from o1] at p1
  obtain rfl : e1 = _ := p1
  simp
  exact ⟨A1,by simp [planR,o1]; exact ⟨_,_,_,T0.mod M1 hne⟩⟩
 rw [show wordP _ l0 = some (x1,l1) from o1] at p1
 obtain ⟨rfl,K1⟩ := p1
 have HL1 := wordP_len o1 HL0
 have HS1 := wordP_sub o1 HS0
 have T1 := T0.mod M1 hne
 simp
 refine FN.mono (wnode_c K1 HL1) ?_
 rintro e2 w2 ⟨M2,p2⟩
 have A2 := A1.trans (M2.weaken fun k hk => Or.inl hk)
 rcases o2 : nodeQ l1 with _ | ⟨x2, l2⟩
 ·rw [show wordP _ l1 = none from o2] at p2
  obtain rfl : e2 = _ := p2
  simp
  exact ⟨A2,by simp [planR,o1,o2]; exact ⟨_,_,_,T1.mod M2 hne⟩⟩
 rw [show wordP _ l1 = some (x2,l2) from o2] at p2
 obtain ⟨rfl,K2⟩ := p2
 have HL2 := wordP_len o2 HL1
 have HS2 := wordP_sub o2 HS1
 have T2 := T1.mod M2 hne
 have hx2 := nodeQ_le o2
 have hw2 : IntKind.u64.wrap (x2 : Int) = x2 := wrap64u _ (by omega) (by omega)
 have S2_1 : Mod (fun k => k = tb) w2 ((w2.setCell ⟨tb,1,none⟩ (u32 x1)).setCell ⟨tb,3,none⟩ (u64 x2)) := ((Mod.refl _ _).setC 1 _).setC 3 _
 have T2s1 : Blk ((w2.setCell ⟨tb,1,none⟩ (u32 x1)).setCell ⟨tb,3,none⟩ (u64 x2)) tb (trC { t with node := (x1 : Int),n := (x2 : Int) } nilS nilS) := ((T2.set 1 (u32 x1)).set 3 (u64 x2))
 have K2s1 := K2.mod S2_1 (fun h => hne h.symm) (fun h => hnr h.symm)
 have A2s1 := A2.trans (S2_1.weaken fun k hk => Or.inr hk)
 simp [T2.cell 1 _ rfl,T2.cell 3 _ rfl,hw2,T2.thaw,cell_setCell]
 generalize ((w2.setCell ⟨tb,1,none⟩ (u32 x1)).setCell ⟨tb,3,none⟩ (u64 x2)) = w2s1 at *
 refine FN.mono (rcontact_c K2s1 (Nat.lt_of_lt_of_le hr A2s1.size) HL2) ?_
 rintro e3 w3 ⟨M3,p3⟩
 have A3 := A2s1.trans (M3.weaken fun k hk => Or.inl hk)
 rcases o3 : ctQ l2 with _ | ⟨x3, l3⟩
 ·rw [show ctQ l2 = none from o3] at p3
  obtain rfl : e3 = _ := p3
  simp
  exact ⟨A3,by simp [planR,o1,o2,o3]; exact ⟨_,_,_,T2s1.mod M3 hne⟩⟩
 rw [show ctQ l2 = some (x3,l3) from o3] at p3
 obtain ⟨rfl,K3⟩ := p3
 have T3 := T2s1.mod M3 hne
 have S3_2 : Mod (fun k => k = tb) w3 (((((w3.setCell ⟨tb,15,none⟩ (u32 x3.fr)).setCell ⟨tb,16,none⟩ (u32 x3.to')).setCell ⟨tb,17,none⟩ (u64 x3.sf)).setCell ⟨tb,18,none⟩ (u64 x3.su)).setCell ⟨tb,19,none⟩ (u64 x3.rate)) := (((((Mod.refl _ _).setC 15 _).setC 16 _).setC 17 _).setC 18 _).setC 19 _
 have T3s2 : Blk (((((w3.setCell ⟨tb,15,none⟩ (u32 x3.fr)).setCell ⟨tb,16,none⟩ (u32 x3.to')).setCell ⟨tb,17,none⟩ (u64 x3.sf)).setCell ⟨tb,18,none⟩ (u64 x3.su)).setCell ⟨tb,19,none⟩ (u64 x3.rate)) tb (trC { t with node := (x1 : Int),n := (x2 : Int),c := x3 } nilS nilS) := (((((T3.set 15 (u32 x3.fr)).set 16 (u32 x3.to')).set 17 (u64 x3.sf)).set 18 (u64 x3.su)).set 19 (u64 x3.rate))
 have K3s2 := K3.mod S3_2 (fun h => hne h.symm) (fun h => hnr h.symm)
 have A3s2 := A3.trans (S3_2.weaken fun k hk => Or.inr hk)
 simp [T3.cell 15 _ rfl,T3.cell 16 _ rfl,T3.cell 17 _ rfl,T3.cell 18 _ rfl,T3.cell 19 _ rfl,T3.thaw,cell_setCell]
 refine ⟨A3s2,?_⟩
 rw [show planR t l0 = some ({ t with node := (x1 : Int),n := (x2 : Int),c := x3 },l3) by simp [planR,o1,o2,o3]]
 exact ⟨⟨_,rfl⟩,K3s2,⟨⟨_,_,T3s2,by rw [hp]; exact Sl.nil _ _ _,fun h => absurd hp h,by rw [hk]; exact Sl.nil _ _ _,fun h => absurd hk h⟩⟩⟩
def stepR (t : Trn) (l : List Tx) : Option (Trn × List Tx) := (nodeQ l).bind fun x1 => (stQ x1.2).bind fun x2 => some ({ t with node := ((x1.1 : Nat) : Int),s := x2.1 },x2.2)
set_option maxHeartbeats 4000000 in
theorem rdstep_c {w : World} {rb b tb : Nat} {t : Trn} {l0 : List Tx} (K0 : Rw w rb b l0) (hr : rb < w.heap.size) (T0 : Blk w tb (trC t nilS nilS)) (hp : t.pay = []) (hk : t.keep = []) (hne : tb ≠ b) (hnr : tb ≠ rb) (HL0 : l0.length ≤ 1000000) (HS0 : ∀ s ∈ l0, s.length ≤ 1000000) (hG : Gl w) (h8 : 8 ≤ b) (h9 : 8 ≤ tb) : FN Tryz.prog 67 [ptr b, ptr tb] w fun e w' => RdT w w' rb b tb (stepR t l0) e := by
 refine FN_enter Tryz.func67 rfl rfl (by kernel_rfl) ?_
 have A0 : Mod (fun k => k = b ∨ k = tb) w w := Mod.refl _ _
 have hb := K0.lt
 have htb := T0.lt
 simp
 refine FN.mono (wnode_c K0 HL0) ?_
 rintro e1 w1 ⟨M1,p1⟩
 have A1 := A0.trans (M1.weaken fun k hk => Or.inl hk)
 rcases o1 : nodeQ l0 with _ | ⟨x1, l1⟩
 ·rw [show wordP _ l0 = none from o1] at p1
  obtain rfl : e1 = _ := p1
  simp
  exact ⟨A1,by simp [stepR,o1]; exact ⟨_,_,_,T0.mod M1 hne⟩⟩
 rw [show wordP _ l0 = some (x1,l1) from o1] at p1
 obtain ⟨rfl,K1⟩ := p1
 have HL1 := wordP_len o1 HL0
 have HS1 := wordP_sub o1 HS0
 have T1 := T0.mod M1 hne
 have S1_1 : Mod (fun k => k = tb) w1 (w1.setCell ⟨tb,1,none⟩ (u32 x1)) := (Mod.refl _ _).setC 1 _
 have T1s1 : Blk (w1.setCell ⟨tb,1,none⟩ (u32 x1)) tb (trC { t with node := (x1 : Int) } nilS nilS) := (T1.set 1 (u32 x1))
 have K1s1 := K1.mod S1_1 (fun h => hne h.symm) (fun h => hnr h.symm)
 have A1s1 := A1.trans (S1_1.weaken fun k hk => Or.inr hk)
 simp [T1.cell 1 _ rfl,T1.thaw]
 generalize (w1.setCell ⟨tb,1,none⟩ (u32 x1)) = w1s1 at *
 refine FN.mono (rstep_c K1s1 (Nat.lt_of_lt_of_le hr A1s1.size) HL1) ?_
 rintro e2 w2 ⟨M2,p2⟩
 have A2 := A1s1.trans (M2.weaken fun k hk => Or.inl hk)
 rcases o2 : stQ l1 with _ | ⟨x2, l2⟩
 ·rw [show stQ l1 = none from o2] at p2
  obtain rfl : e2 = _ := p2
  simp
  exact ⟨A2,by simp [stepR,o1,o2]; exact ⟨_,_,_,T1s1.mod M2 hne⟩⟩
 rw [show stQ l1 = some (x2,l2) from o2] at p2
 obtain ⟨rfl,K2⟩ := p2
 have T2 := T1s1.mod M2 hne
 have S2_2 : Mod (fun k => k = tb) w2 ((((w2.setCell ⟨tb,20,none⟩ (u32 x2.fr)).setCell ⟨tb,21,none⟩ (u32 x2.to')).setCell ⟨tb,22,none⟩ (u64 x2.at')).setCell ⟨tb,23,none⟩ (u64 x2.tk)) := ((((Mod.refl _ _).setC 20 _).setC 21 _).setC 22 _).setC 23 _
 have T2s2 : Blk ((((w2.setCell ⟨tb,20,none⟩ (u32 x2.fr)).setCell ⟨tb,21,none⟩ (u32 x2.to')).setCell ⟨tb,22,none⟩ (u64 x2.at')).setCell ⟨tb,23,none⟩ (u64 x2.tk)) tb (trC { t with node := (x1 : Int),s := x2 } nilS nilS) := ((((T2.set 20 (u32 x2.fr)).set 21 (u32 x2.to')).set 22 (u64 x2.at')).set 23 (u64 x2.tk))
 have K2s2 := K2.mod S2_2 (fun h => hne h.symm) (fun h => hnr h.symm)
 have A2s2 := A2.trans (S2_2.weaken fun k hk => Or.inr hk)
 simp [T2.cell 20 _ rfl,T2.cell 21 _ rfl,T2.cell 22 _ rfl,T2.cell 23 _ rfl,T2.thaw,cell_setCell]
 refine ⟨A2s2,?_⟩
 rw [show stepR t l0 = some ({ t with node := (x1 : Int),s := x2 },l2) by simp [stepR,o1,o2]]
 exact ⟨⟨_,rfl⟩,K2s2,⟨⟨_,_,T2s2,by rw [hp]; exact Sl.nil _ _ _,fun h => absurd hp h,by rw [hk]; exact Sl.nil _ _ _,fun h => absurd hk h⟩⟩⟩
def treeR (t : Trn) (l : List Tx) : Option (Trn × List Tx) := (nodeQ l).bind fun x1 => (nodeQ x1.2).bind fun x2 => (nodeQ x2.2).bind fun x3 => some ({ t with node := ((x1.1 : Nat) : Int),n := ((x2.1 : Nat) : Int),to' := ((x3.1 : Nat) : Int) },x3.2)
set_option maxHeartbeats 4000000 in
theorem rdtree_c {w : World} {rb b tb : Nat} {t : Trn} {l0 : List Tx} (K0 : Rw w rb b l0) (hr : rb < w.heap.size) (T0 : Blk w tb (trC t nilS nilS)) (hp : t.pay = []) (hk : t.keep = []) (hne : tb ≠ b) (hnr : tb ≠ rb) (HL0 : l0.length ≤ 1000000) (HS0 : ∀ s ∈ l0, s.length ≤ 1000000) (hG : Gl w) (h8 : 8 ≤ b) (h9 : 8 ≤ tb) : FN Tryz.prog 69 [ptr b, ptr tb] w fun e w' => RdT w w' rb b tb (treeR t l0) e := by
 refine FN_enter Tryz.func69 rfl rfl (by kernel_rfl) ?_
 have A0 : Mod (fun k => k = b ∨ k = tb) w w := Mod.refl _ _
 have hb := K0.lt
 have htb := T0.lt
 simp
 refine FN.mono (wnode_c K0 HL0) ?_
 rintro e1 w1 ⟨M1,p1⟩
 have A1 := A0.trans (M1.weaken fun k hk => Or.inl hk)
 rcases o1 : nodeQ l0 with _ | ⟨x1, l1⟩
 ·rw [show wordP _ l0 = none from o1] at p1
  obtain rfl : e1 = _ := p1
  simp
  exact ⟨A1,by simp [treeR,o1]; exact ⟨_,_,_,T0.mod M1 hne⟩⟩
 rw [show wordP _ l0 = some (x1,l1) from o1] at p1
 obtain ⟨rfl,K1⟩ := p1
 have HL1 := wordP_len o1 HL0
 have HS1 := wordP_sub o1 HS0
 have T1 := T0.mod M1 hne
 simp
 refine FN.mono (wnode_c K1 HL1) ?_
 rintro e2 w2 ⟨M2,p2⟩
 have A2 := A1.trans (M2.weaken fun k hk => Or.inl hk)
 rcases o2 : nodeQ l1 with _ | ⟨x2, l2⟩
 ·rw [show wordP _ l1 = none from o2] at p2
  obtain rfl : e2 = _ := p2
  simp
  exact ⟨A2,by simp [treeR,o1,o2]; exact ⟨_,_,_,T1.mod M2 hne⟩⟩
 rw [show wordP _ l1 = some (x2,l2) from o2] at p2
 obtain ⟨rfl,K2⟩ := p2
 have HL2 := wordP_len o2 HL1
 have HS2 := wordP_sub o2 HS1
 have T2 := T1.mod M2 hne
 have hx2 := nodeQ_le o2
 have hw2 : IntKind.u64.wrap (x2 : Int) = x2 := wrap64u _ (by omega) (by omega)
 simp [hw2]
 refine FN.mono (wnode_c K2 HL2) ?_
 rintro e3 w3 ⟨M3,p3⟩
 have A3 := A2.trans (M3.weaken fun k hk => Or.inl hk)
 rcases o3 : nodeQ l2 with _ | ⟨x3, l3⟩
 ·rw [show wordP _ l2 = none from o3] at p3
  obtain rfl : e3 = _ := p3
  simp
  exact ⟨A3,by simp [treeR,o1,o2,o3]; exact ⟨_,_,_,T2.mod M3 hne⟩⟩
 rw [show wordP _ l2 = some (x3,l3) from o3] at p3
 obtain ⟨rfl,K3⟩ := p3
 have T3 := T2.mod M3 hne
 have S3_1 : Mod (fun k => k = tb) w3 (((w3.setCell ⟨tb,1,none⟩ (u32 x1)).setCell ⟨tb,3,none⟩ (u64 x2)).setCell ⟨tb,2,none⟩ (u32 x3)) := (((Mod.refl _ _).setC 1 _).setC 3 _).setC 2 _
 have T3s1 : Blk (((w3.setCell ⟨tb,1,none⟩ (u32 x1)).setCell ⟨tb,3,none⟩ (u64 x2)).setCell ⟨tb,2,none⟩ (u32 x3)) tb (trC { t with node := (x1 : Int),n := (x2 : Int),to' := (x3 : Int) } nilS nilS) := (((T3.set 1 (u32 x1)).set 3 (u64 x2)).set 2 (u32 x3))
 have K3s1 := K3.mod S3_1 (fun h => hne h.symm) (fun h => hnr h.symm)
 have A3s1 := A3.trans (S3_1.weaken fun k hk => Or.inr hk)
 simp [T3.cell 1 _ rfl,T3.cell 3 _ rfl,T3.cell 2 _ rfl,T3.thaw,cell_setCell]
 refine ⟨A3s1,?_⟩
 rw [show treeR t l0 = some ({ t with node := (x1 : Int),n := (x2 : Int),to' := (x3 : Int) },l3) by simp [treeR,o1,o2,o3]]
 exact ⟨⟨_,rfl⟩,K3s1,⟨⟨_,_,T3s1,by rw [hp]; exact Sl.nil _ _ _,fun h => absurd hp h,by rw [hk]; exact Sl.nil _ _ _,fun h => absurd hk h⟩⟩⟩
def serveR (t : Trn) (l : List Tx) : Option (Trn × List Tx) := (nodeQ l).bind fun x1 => (nodeQ x1.2).bind fun x2 => (smallQ x2.2).bind fun x3 => some ({ t with node := ((x1.1 : Nat) : Int),to' := ((x2.1 : Nat) : Int),fate := ((x3.1 : Nat) : Int) },x3.2)
set_option maxHeartbeats 4000000 in
theorem rdserve_c {w : World} {rb b tb : Nat} {t : Trn} {l0 : List Tx} (K0 : Rw w rb b l0) (hr : rb < w.heap.size) (T0 : Blk w tb (trC t nilS nilS)) (hp : t.pay = []) (hk : t.keep = []) (hne : tb ≠ b) (hnr : tb ≠ rb) (HL0 : l0.length ≤ 1000000) (HS0 : ∀ s ∈ l0, s.length ≤ 1000000) (hG : Gl w) (h8 : 8 ≤ b) (h9 : 8 ≤ tb) : FN Tryz.prog 72 [ptr b, ptr tb] w fun e w' => RdT w w' rb b tb (serveR t l0) e := by
 refine FN_enter Tryz.func72 rfl rfl (by kernel_rfl) ?_
 have A0 : Mod (fun k => k = b ∨ k = tb) w w := Mod.refl _ _
 have hb := K0.lt
 have htb := T0.lt
 simp
 refine FN.mono (wnode_c K0 HL0) ?_
 rintro e1 w1 ⟨M1,p1⟩
 have A1 := A0.trans (M1.weaken fun k hk => Or.inl hk)
 rcases o1 : nodeQ l0 with _ | ⟨x1, l1⟩
 ·rw [show wordP _ l0 = none from o1] at p1
  obtain rfl : e1 = _ := p1
  simp
  exact ⟨A1,by simp [serveR,o1]; exact ⟨_,_,_,T0.mod M1 hne⟩⟩
 rw [show wordP _ l0 = some (x1,l1) from o1] at p1
 obtain ⟨rfl,K1⟩ := p1
 have HL1 := wordP_len o1 HL0
 have HS1 := wordP_sub o1 HS0
 have T1 := T0.mod M1 hne
 simp
 refine FN.mono (wnode_c K1 HL1) ?_
 rintro e2 w2 ⟨M2,p2⟩
 have A2 := A1.trans (M2.weaken fun k hk => Or.inl hk)
 rcases o2 : nodeQ l1 with _ | ⟨x2, l2⟩
 ·rw [show wordP _ l1 = none from o2] at p2
  obtain rfl : e2 = _ := p2
  simp
  exact ⟨A2,by simp [serveR,o1,o2]; exact ⟨_,_,_,T1.mod M2 hne⟩⟩
 rw [show wordP _ l1 = some (x2,l2) from o2] at p2
 obtain ⟨rfl,K2⟩ := p2
 have HL2 := wordP_len o2 HL1
 have HS2 := wordP_sub o2 HS1
 have T2 := T1.mod M2 hne
 simp
 refine FN.mono (wsmall_c K2 HL2) ?_
 rintro e3 w3 ⟨M3,p3⟩
 have A3 := A2.trans (M3.weaken fun k hk => Or.inl hk)
 rcases o3 : smallQ l2 with _ | ⟨x3, l3⟩
 ·rw [show wordP _ l2 = none from o3] at p3
  obtain rfl : e3 = _ := p3
  simp
  exact ⟨A3,by simp [serveR,o1,o2,o3]; exact ⟨_,_,_,T2.mod M3 hne⟩⟩
 rw [show wordP _ l2 = some (x3,l3) from o3] at p3
 obtain ⟨rfl,K3⟩ := p3
 have T3 := T2.mod M3 hne
 have S3_1 : Mod (fun k => k = tb) w3 (((w3.setCell ⟨tb,1,none⟩ (u32 x1)).setCell ⟨tb,2,none⟩ (u32 x2)).setCell ⟨tb,5,none⟩ (u8 x3)) := (((Mod.refl _ _).setC 1 _).setC 2 _).setC 5 _
 have T3s1 : Blk (((w3.setCell ⟨tb,1,none⟩ (u32 x1)).setCell ⟨tb,2,none⟩ (u32 x2)).setCell ⟨tb,5,none⟩ (u8 x3)) tb (trC { t with node := (x1 : Int),to' := (x2 : Int),fate := (x3 : Int) } nilS nilS) := (((T3.set 1 (u32 x1)).set 2 (u32 x2)).set 5 (u8 x3))
 have K3s1 := K3.mod S3_1 (fun h => hne h.symm) (fun h => hnr h.symm)
 have A3s1 := A3.trans (S3_1.weaken fun k hk => Or.inr hk)
 simp [T3.cell 1 _ rfl,T3.cell 2 _ rfl,T3.cell 5 _ rfl,T3.thaw,cell_setCell]
 refine ⟨A3s1,?_⟩
 rw [show serveR t l0 = some ({ t with node := (x1 : Int),to' := (x2 : Int),fate := (x3 : Int) },l3) by simp [serveR,o1,o2,o3]]
 exact ⟨⟨_,rfl⟩,K3s1,⟨⟨_,_,T3s1,by rw [hp]; exact Sl.nil _ _ _,fun h => absurd hp h,by rw [hk]; exact Sl.nil _ _ _,fun h => absurd hk h⟩⟩⟩
def landR (t : Trn) (l : List Tx) : Option (Trn × List Tx) := (longQ l).bind fun x1 => some ({ t with n := ((x1.1 : Nat) : Int) },x1.2)
set_option maxHeartbeats 4000000 in
theorem rdland_c {w : World} {rb b tb : Nat} {t : Trn} {l0 : List Tx} (K0 : Rw w rb b l0) (hr : rb < w.heap.size) (T0 : Blk w tb (trC t nilS nilS)) (hp : t.pay = []) (hk : t.keep = []) (hne : tb ≠ b) (hnr : tb ≠ rb) (HL0 : l0.length ≤ 1000000) (HS0 : ∀ s ∈ l0, s.length ≤ 1000000) (hG : Gl w) (h8 : 8 ≤ b) (h9 : 8 ≤ tb) : FN Tryz.prog 75 [ptr b, ptr tb] w fun e w' => RdT w w' rb b tb (landR t l0) e := by
 refine FN_enter Tryz.func75 rfl rfl (by kernel_rfl) ?_
 have A0 : Mod (fun k => k = b ∨ k = tb) w w := Mod.refl _ _
 have hb := K0.lt
 have htb := T0.lt
 simp
 refine FN.mono (wlong_c K0 HL0) ?_
 rintro e1 w1 ⟨M1,p1⟩
 have A1 := A0.trans (M1.weaken fun k hk => Or.inl hk)
 rcases o1 : longQ l0 with _ | ⟨x1, l1⟩
 ·rw [show wordP _ l0 = none from o1] at p1
  obtain rfl : e1 = _ := p1
  simp
  exact ⟨A1,by simp [landR,o1]; exact ⟨_,_,_,T0.mod M1 hne⟩⟩
 rw [show wordP _ l0 = some (x1,l1) from o1] at p1
 obtain ⟨rfl,K1⟩ := p1
 have T1 := T0.mod M1 hne
 have S1_1 : Mod (fun k => k = tb) w1 (w1.setCell ⟨tb,3,none⟩ (u64 x1)) := (Mod.refl _ _).setC 3 _
 have T1s1 : Blk (w1.setCell ⟨tb,3,none⟩ (u64 x1)) tb (trC { t with n := (x1 : Int) } nilS nilS) := (T1.set 3 (u64 x1))
 have K1s1 := K1.mod S1_1 (fun h => hne h.symm) (fun h => hnr h.symm)
 have A1s1 := A1.trans (S1_1.weaken fun k hk => Or.inr hk)
 simp [T1.cell 3 _ rfl,T1.thaw]
 refine ⟨A1s1,?_⟩
 rw [show landR t l0 = some ({ t with n := (x1 : Int) },l1) by simp [landR,o1]]
 exact ⟨⟨_,rfl⟩,K1s1,⟨⟨_,_,T1s1,by rw [hp]; exact Sl.nil _ _ _,fun h => absurd hp h,by rw [hk]; exact Sl.nil _ _ _,fun h => absurd hk h⟩⟩⟩
def tickR (t : Trn) (l : List Tx) : Option (Trn × List Tx) := (longQ l).bind fun x1 => some ({ t with n := ((x1.1 : Nat) : Int) },x1.2)
set_option maxHeartbeats 4000000 in
theorem rdtick_c {w : World} {rb b tb : Nat} {t : Trn} {l0 : List Tx} (K0 : Rw w rb b l0) (hr : rb < w.heap.size) (T0 : Blk w tb (trC t nilS nilS)) (hp : t.pay = []) (hk : t.keep = []) (hne : tb ≠ b) (hnr : tb ≠ rb) (HL0 : l0.length ≤ 1000000) (HS0 : ∀ s ∈ l0, s.length ≤ 1000000) (hG : Gl w) (h8 : 8 ≤ b) (h9 : 8 ≤ tb) : FN Tryz.prog 77 [ptr b, ptr tb] w fun e w' => RdT w w' rb b tb (tickR t l0) e := by
 refine FN_enter Tryz.func77 rfl rfl (by kernel_rfl) ?_
 have A0 : Mod (fun k => k = b ∨ k = tb) w w := Mod.refl _ _
 have hb := K0.lt
 have htb := T0.lt
 simp
 refine FN.mono (wlong_c K0 HL0) ?_
 rintro e1 w1 ⟨M1,p1⟩
 have A1 := A0.trans (M1.weaken fun k hk => Or.inl hk)
 rcases o1 : longQ l0 with _ | ⟨x1, l1⟩
 ·rw [show wordP _ l0 = none from o1] at p1
  obtain rfl : e1 = _ := p1
  simp
  exact ⟨A1,by simp [tickR,o1]; exact ⟨_,_,_,T0.mod M1 hne⟩⟩
 rw [show wordP _ l0 = some (x1,l1) from o1] at p1
 obtain ⟨rfl,K1⟩ := p1
 have T1 := T0.mod M1 hne
 have S1_1 : Mod (fun k => k = tb) w1 (w1.setCell ⟨tb,3,none⟩ (u64 x1)) := (Mod.refl _ _).setC 3 _
 have T1s1 : Blk (w1.setCell ⟨tb,3,none⟩ (u64 x1)) tb (trC { t with n := (x1 : Int) } nilS nilS) := (T1.set 3 (u64 x1))
 have K1s1 := K1.mod S1_1 (fun h => hne h.symm) (fun h => hnr h.symm)
 have A1s1 := A1.trans (S1_1.weaken fun k hk => Or.inr hk)
 simp [T1.cell 3 _ rfl,T1.thaw]
 refine ⟨A1s1,?_⟩
 rw [show tickR t l0 = some ({ t with n := (x1 : Int) },l1) by simp [tickR,o1]]
 exact ⟨⟨_,rfl⟩,K1s1,⟨⟨_,_,T1s1,by rw [hp]; exact Sl.nil _ _ _,fun h => absurd hp h,by rw [hk]; exact Sl.nil _ _ _,fun h => absurd hk h⟩⟩⟩
def crashR (t : Trn) (l : List Tx) : Option (Trn × List Tx) := (nodeQ l).bind fun x1 => (truQ x1.2).bind fun x2 => some ({ t with node := ((x1.1 : Nat) : Int),keep := x2.1 },x2.2)
set_option maxHeartbeats 4000000 in
theorem rdcrash_c {w : World} {rb b tb : Nat} {t : Trn} {l0 : List Tx} (K0 : Rw w rb b l0) (hr : rb < w.heap.size) (T0 : Blk w tb (trC t nilS nilS)) (hp : t.pay = []) (hk : t.keep = []) (hne : tb ≠ b) (hnr : tb ≠ rb) (HL0 : l0.length ≤ 1000000) (HS0 : ∀ s ∈ l0, s.length ≤ 1000000) (hG : Gl w) (h8 : 8 ≤ b) (h9 : 8 ≤ tb) : FN Tryz.prog 80 [ptr b, ptr tb] w fun e w' => RdT w w' rb b tb (crashR t l0) e := by
 refine FN_enter Tryz.func80 rfl rfl (by kernel_rfl) ?_
 have A0 : Mod (fun k => k = b ∨ k = tb) w w := Mod.refl _ _
 have hb := K0.lt
 have htb := T0.lt
 simp
 refine FN.mono (wnode_c K0 HL0) ?_
 rintro e1 w1 ⟨M1,p1⟩
 have A1 := A0.trans (M1.weaken fun k hk => Or.inl hk)
 rcases o1 : nodeQ l0 with _ | ⟨x1, l1⟩
 ·rw [show wordP _ l0 = none from o1] at p1
  obtain rfl : e1 = _ := p1
  simp
  exact ⟨A1,by simp [crashR,o1]; exact ⟨_,_,_,T0.mod M1 hne⟩⟩
 rw [show wordP _ l0 = some (x1,l1) from o1] at p1
 obtain ⟨rfl,K1⟩ := p1
 have HL1 := wordP_len o1 HL0
 have HS1 := wordP_sub o1 HS0
 have T1 := T0.mod M1 hne
 simp
 refine FN.mono (rtruths_c K1 (Nat.lt_of_lt_of_le hr A1.size) HL1 HS1) ?_
 rintro e2 w2 ⟨M2,p2⟩
 have A2 := A1.trans (M2.weaken fun k hk => Or.inl hk)
 rcases o2 : truQ l1 with _ | ⟨x2, l2⟩
 ·rw [show truQ l1 = none from o2] at p2
  obtain rfl : e2 = _ := p2
  simp
  exact ⟨A2,by simp [crashR,o1,o2]; exact ⟨_,_,_,T1.mod M2 hne⟩⟩
 rw [show truQ l1 = some (x2,l2) from o2] at p2
 obtain ⟨K2,v2,rfl,sv2,gv2⟩ := p2
 simp only [List.length_map] at sv2
 obtain ⟨va2,vc2,rfl⟩ := sv2.isSlice
 have T2 := T1.mod M2 hne
 have S2_1 : Mod (fun k => k = tb) w2 ((w2.setCell ⟨tb,1,none⟩ (u32 x1)).setCell ⟨tb,43,none⟩ (.slice va2 x2.length vc2)) := ((Mod.refl _ _).setC 1 _).setC 43 _
 have T2s1 : Blk ((w2.setCell ⟨tb,1,none⟩ (u32 x1)).setCell ⟨tb,43,none⟩ (.slice va2 x2.length vc2)) tb (trC { t with node := (x1 : Int),keep := x2 } nilS (.slice va2 x2.length vc2)) := ((T2.set 1 (u32 x1)).set 43 (.slice va2 x2.length vc2))
 have K2s1 := K2.mod S2_1 (fun h => hne h.symm) (fun h => hnr h.symm)
 have A2s1 := A2.trans (S2_1.weaken fun k hk => Or.inr hk)
 simp [T2.cell 1 _ rfl,T2.cell 43 _ rfl,T2.thaw,cell_setCell]
 refine ⟨A2s1,?_⟩
 rw [show crashR t l0 = some ({ t with node := (x1 : Int),keep := x2 },l2) by simp [crashR,o1,o2]]
 exact ⟨⟨_,rfl⟩,K2s1,⟨⟨_,_,T2s1,by rw [hp]; exact Sl.nil _ _ _,fun h => absurd hp h,slKeep sv2 S2_1 (fun h => by have := gv2 h; have := A1.size; omega),fun h => by have := gv2 (by simpa using h); have := A1.size; omega⟩⟩⟩
def armR (t : Trn) (l : List Tx) : Option (Trn × List Tx) := (nodeQ l).bind fun x1 => (longQ x1.2).bind fun x2 => some ({ t with node := ((x1.1 : Nat) : Int),n := ((x2.1 : Nat) : Int) },x2.2)
set_option maxHeartbeats 4000000 in
theorem rdarm_c {w : World} {rb b tb : Nat} {t : Trn} {l0 : List Tx} (K0 : Rw w rb b l0) (hr : rb < w.heap.size) (T0 : Blk w tb (trC t nilS nilS)) (hp : t.pay = []) (hk : t.keep = []) (hne : tb ≠ b) (hnr : tb ≠ rb) (HL0 : l0.length ≤ 1000000) (HS0 : ∀ s ∈ l0, s.length ≤ 1000000) (hG : Gl w) (h8 : 8 ≤ b) (h9 : 8 ≤ tb) : FN Tryz.prog 83 [ptr b, ptr tb] w fun e w' => RdT w w' rb b tb (armR t l0) e := by
 refine FN_enter Tryz.func83 rfl rfl (by kernel_rfl) ?_
 have A0 : Mod (fun k => k = b ∨ k = tb) w w := Mod.refl _ _
 have hb := K0.lt
 have htb := T0.lt
 simp
 refine FN.mono (wnode_c K0 HL0) ?_
 rintro e1 w1 ⟨M1,p1⟩
 have A1 := A0.trans (M1.weaken fun k hk => Or.inl hk)
 rcases o1 : nodeQ l0 with _ | ⟨x1, l1⟩
 ·rw [show wordP _ l0 = none from o1] at p1
  obtain rfl : e1 = _ := p1
  simp
  exact ⟨A1,by simp [armR,o1]; exact ⟨_,_,_,T0.mod M1 hne⟩⟩
 rw [show wordP _ l0 = some (x1,l1) from o1] at p1
 obtain ⟨rfl,K1⟩ := p1
 have HL1 := wordP_len o1 HL0
 have HS1 := wordP_sub o1 HS0
 have T1 := T0.mod M1 hne
 simp
 refine FN.mono (wlong_c K1 HL1) ?_
 rintro e2 w2 ⟨M2,p2⟩
 have A2 := A1.trans (M2.weaken fun k hk => Or.inl hk)
 rcases o2 : longQ l1 with _ | ⟨x2, l2⟩
 ·rw [show wordP _ l1 = none from o2] at p2
  obtain rfl : e2 = _ := p2
  simp
  exact ⟨A2,by simp [armR,o1,o2]; exact ⟨_,_,_,T1.mod M2 hne⟩⟩
 rw [show wordP _ l1 = some (x2,l2) from o2] at p2
 obtain ⟨rfl,K2⟩ := p2
 have T2 := T1.mod M2 hne
 have S2_1 : Mod (fun k => k = tb) w2 ((w2.setCell ⟨tb,1,none⟩ (u32 x1)).setCell ⟨tb,3,none⟩ (u64 x2)) := ((Mod.refl _ _).setC 1 _).setC 3 _
 have T2s1 : Blk ((w2.setCell ⟨tb,1,none⟩ (u32 x1)).setCell ⟨tb,3,none⟩ (u64 x2)) tb (trC { t with node := (x1 : Int),n := (x2 : Int) } nilS nilS) := ((T2.set 1 (u32 x1)).set 3 (u64 x2))
 have K2s1 := K2.mod S2_1 (fun h => hne h.symm) (fun h => hnr h.symm)
 have A2s1 := A2.trans (S2_1.weaken fun k hk => Or.inr hk)
 simp [T2.cell 1 _ rfl,T2.cell 3 _ rfl,T2.thaw,cell_setCell]
 refine ⟨A2s1,?_⟩
 rw [show armR t l0 = some ({ t with node := (x1 : Int),n := (x2 : Int) },l2) by simp [armR,o1,o2]]
 exact ⟨⟨_,rfl⟩,K2s1,⟨⟨_,_,T2s1,by rw [hp]; exact Sl.nil _ _ _,fun h => absurd hp h,by rw [hk]; exact Sl.nil _ _ _,fun h => absurd hk h⟩⟩⟩
def askR (t : Trn) (l : List Tx) : Option (Trn × List Tx) := (nodeQ l).bind fun x1 => (nodeQ x1.2).bind fun x2 => (nodeQ x2.2).bind fun x3 => some ({ t with node := ((x1.1 : Nat) : Int),to' := ((x2.1 : Nat) : Int),n := ((x3.1 : Nat) : Int) },x3.2)
set_option maxHeartbeats 4000000 in
theorem rdask_c {w : World} {rb b tb : Nat} {t : Trn} {l0 : List Tx} (K0 : Rw w rb b l0) (hr : rb < w.heap.size) (T0 : Blk w tb (trC t nilS nilS)) (hp : t.pay = []) (hk : t.keep = []) (hne : tb ≠ b) (hnr : tb ≠ rb) (HL0 : l0.length ≤ 1000000) (HS0 : ∀ s ∈ l0, s.length ≤ 1000000) (hG : Gl w) (h8 : 8 ≤ b) (h9 : 8 ≤ tb) : FN Tryz.prog 85 [ptr b, ptr tb] w fun e w' => RdT w w' rb b tb (askR t l0) e := by
 refine FN_enter Tryz.func85 rfl rfl (by kernel_rfl) ?_
 have A0 : Mod (fun k => k = b ∨ k = tb) w w := Mod.refl _ _
 have hb := K0.lt
 have htb := T0.lt
 simp
 refine FN.mono (wnode_c K0 HL0) ?_
 rintro e1 w1 ⟨M1,p1⟩
 have A1 := A0.trans (M1.weaken fun k hk => Or.inl hk)
 rcases o1 : nodeQ l0 with _ | ⟨x1, l1⟩
 ·rw [show wordP _ l0 = none from o1] at p1
  obtain rfl : e1 = _ := p1
  simp
  exact ⟨A1,by simp [askR,o1]; exact ⟨_,_,_,T0.mod M1 hne⟩⟩
 rw [show wordP _ l0 = some (x1,l1) from o1] at p1
 obtain ⟨rfl,K1⟩ := p1
 have HL1 := wordP_len o1 HL0
 have HS1 := wordP_sub o1 HS0
 have T1 := T0.mod M1 hne
 simp
 refine FN.mono (wnode_c K1 HL1) ?_
 rintro e2 w2 ⟨M2,p2⟩
 have A2 := A1.trans (M2.weaken fun k hk => Or.inl hk)
 rcases o2 : nodeQ l1 with _ | ⟨x2, l2⟩
 ·rw [show wordP _ l1 = none from o2] at p2
  obtain rfl : e2 = _ := p2
  simp
  exact ⟨A2,by simp [askR,o1,o2]; exact ⟨_,_,_,T1.mod M2 hne⟩⟩
 rw [show wordP _ l1 = some (x2,l2) from o2] at p2
 obtain ⟨rfl,K2⟩ := p2
 have HL2 := wordP_len o2 HL1
 have HS2 := wordP_sub o2 HS1
 have T2 := T1.mod M2 hne
 simp
 refine FN.mono (wnode_c K2 HL2) ?_
 rintro e3 w3 ⟨M3,p3⟩
 have A3 := A2.trans (M3.weaken fun k hk => Or.inl hk)
 rcases o3 : nodeQ l2 with _ | ⟨x3, l3⟩
 ·rw [show wordP _ l2 = none from o3] at p3
  obtain rfl : e3 = _ := p3
  simp
  exact ⟨A3,by simp [askR,o1,o2,o3]; exact ⟨_,_,_,T2.mod M3 hne⟩⟩
 rw [show wordP _ l2 = some (x3,l3) from o3] at p3
 obtain ⟨rfl,K3⟩ := p3
 have T3 := T2.mod M3 hne
 have hx3 := nodeQ_le o3
 have hw3 : IntKind.u64.wrap (x3 : Int) = x3 := wrap64u _ (by omega) (by omega)
 have S3_1 : Mod (fun k => k = tb) w3 (((w3.setCell ⟨tb,1,none⟩ (u32 x1)).setCell ⟨tb,2,none⟩ (u32 x2)).setCell ⟨tb,3,none⟩ (u64 x3)) := (((Mod.refl _ _).setC 1 _).setC 2 _).setC 3 _
 have T3s1 : Blk (((w3.setCell ⟨tb,1,none⟩ (u32 x1)).setCell ⟨tb,2,none⟩ (u32 x2)).setCell ⟨tb,3,none⟩ (u64 x3)) tb (trC { t with node := (x1 : Int),to' := (x2 : Int),n := (x3 : Int) } nilS nilS) := (((T3.set 1 (u32 x1)).set 2 (u32 x2)).set 3 (u64 x3))
 have K3s1 := K3.mod S3_1 (fun h => hne h.symm) (fun h => hnr h.symm)
 have A3s1 := A3.trans (S3_1.weaken fun k hk => Or.inr hk)
 simp [T3.cell 1 _ rfl,T3.cell 2 _ rfl,T3.cell 3 _ rfl,hw3,T3.thaw,cell_setCell]
 refine ⟨A3s1,?_⟩
 rw [show askR t l0 = some ({ t with node := (x1 : Int),to' := (x2 : Int),n := (x3 : Int) },l3) by simp [askR,o1,o2,o3]]
 exact ⟨⟨_,rfl⟩,K3s1,⟨⟨_,_,T3s1,by rw [hp]; exact Sl.nil _ _ _,fun h => absurd hp h,by rw [hk]; exact Sl.nil _ _ _,fun h => absurd hk h⟩⟩⟩
def sendR (t : Trn) (l : List Tx) : Option (Trn × List Tx) := (nodeQ l).bind fun x1 => (nodeQ x1.2).bind fun x2 => (pointQ x2.2).bind fun x3 => (nodeQ x3.2).bind fun x4 => (pointQ x4.2).bind fun x5 => (longQ x5.2).bind fun x6 => (smallQ x6.2).bind fun x7 => (octQ x7.2).bind fun x8 => some ({ t with node := ((x1.1 : Nat) : Int),lsvc := ((x2.1 : Nat) : Int),lton := ((x3.1.1 : Nat) : Int),ltos := ((x3.1.2 : Nat) : Int),lflg := ((x4.1 : Nat) : Int),lren := ((x5.1.1 : Nat) : Int),lres := ((x5.1.2 : Nat) : Int),life := ((x6.1 : Nat) : Int),lim := ((x7.1 : Nat) : Int),pay := x8.1 },x8.2)
set_option maxHeartbeats 4000000 in
theorem rdsend_c {w : World} {rb b tb : Nat} {t : Trn} {l0 : List Tx} (K0 : Rw w rb b l0) (hr : rb < w.heap.size) (T0 : Blk w tb (trC t nilS nilS)) (hp : t.pay = []) (hk : t.keep = []) (hne : tb ≠ b) (hnr : tb ≠ rb) (HL0 : l0.length ≤ 1000000) (HS0 : ∀ s ∈ l0, s.length ≤ 1000000) (hG : Gl w) (h8 : 8 ≤ b) (h9 : 8 ≤ tb) : FN Tryz.prog 117 [ptr b, ptr tb] w fun e w' => RdT w w' rb b tb (sendR t l0) e := by
 refine FN_enter Tryz.func117 rfl rfl (by kernel_rfl) ?_
 have A0 : Mod (fun k => k = b ∨ k = tb) w w := Mod.refl _ _
 have hb := K0.lt
 have htb := T0.lt
 simp
 refine FN.mono (wnode_c K0 HL0) ?_
 rintro e1 w1 ⟨M1,p1⟩
 have A1 := A0.trans (M1.weaken fun k hk => Or.inl hk)
 rcases o1 : nodeQ l0 with _ | ⟨x1, l1⟩
 ·rw [show wordP _ l0 = none from o1] at p1
  obtain rfl : e1 = _ := p1
  simp
  exact ⟨A1,by simp [sendR,o1]; exact ⟨_,_,_,T0.mod M1 hne⟩⟩
 rw [show wordP _ l0 = some (x1,l1) from o1] at p1
 obtain ⟨rfl,K1⟩ := p1
 have HL1 := wordP_len o1 HL0
 have HS1 := wordP_sub o1 HS0
 have T1 := T0.mod M1 hne
 simp
 refine FN.mono (wnode_c K1 HL1) ?_
 rintro e2 w2 ⟨M2,p2⟩
 have A2 := A1.trans (M2.weaken fun k hk => Or.inl hk)
 rcases o2 : nodeQ l1 with _ | ⟨x2, l2⟩
 ·rw [show wordP _ l1 = none from o2] at p2
  obtain rfl : e2 = _ := p2
  simp
  exact ⟨A2,by simp [sendR,o1,o2]; exact ⟨_,_,_,T1.mod M2 hne⟩⟩
 rw [show wordP _ l1 = some (x2,l2) from o2] at p2
 obtain ⟨rfl,K2⟩ := p2
 have HL2 := wordP_len o2 HL1
 have HS2 := wordP_sub o2 HS1
 have T2 := T1.mod M2 hne
 have S2_1 : Mod (fun k => k = tb) w2 ((w2.setCell ⟨tb,1,none⟩ (u32 x1)).setCell ⟨tb,8,none⟩ (u32 x2)) := ((Mod.refl _ _).setC 1 _).setC 8 _
 have T2s1 : Blk ((w2.setCell ⟨tb,1,none⟩ (u32 x1)).setCell ⟨tb,8,none⟩ (u32 x2)) tb (trC { t with node := (x1 : Int),lsvc := (x2 : Int) } nilS nilS) := ((T2.set 1 (u32 x1)).set 8 (u32 x2))
 have K2s1 := K2.mod S2_1 (fun h => hne h.symm) (fun h => hnr h.symm)
 have A2s1 := A2.trans (S2_1.weaken fun k hk => Or.inr hk)
 simp [T2.cell 1 _ rfl,T2.cell 8 _ rfl,T2.thaw,cell_setCell]
 generalize ((w2.setCell ⟨tb,1,none⟩ (u32 x1)).setCell ⟨tb,8,none⟩ (u32 x2)) = w2s1 at *
 refine FN.mono (rpoint_c K2s1 (Nat.lt_of_lt_of_le hr A2s1.size) HL2 HS2 (hG.mod A2s1 fun k hk => by omega) h8 (by have := A2s1.size; omega)) ?_
 rintro e3 w3 ⟨M3,p3⟩
 have A3 := A2s1.trans (M3.weaken fun k hk => Or.inl hk)
 rcases o3 : pointQ l2 with _ | ⟨x3, l3⟩
 ·rw [show wordP parseP l2 = none from o3] at p3
  obtain rfl : e3 = _ := p3
  simp
  exact ⟨A3,by simp [sendR,o1,o2,o3]; exact ⟨_,_,_,T2s1.mod M3 hne⟩⟩
 rw [show wordP parseP l2 = some (x3,l3) from o3] at p3
 obtain ⟨rfl,K3⟩ := p3
 have HL3 := wordP_len o3 HL2
 have HS3 := wordP_sub o3 HS2
 have T3 := T2s1.mod M3 hne
 have S3_2 : Mod (fun k => k = tb) w3 ((w3.setCell ⟨tb,6,none⟩ (u32 x3.1)).setCell ⟨tb,7,none⟩ (u32 x3.2)) := ((Mod.refl _ _).setC 6 _).setC 7 _
 have T3s2 : Blk ((w3.setCell ⟨tb,6,none⟩ (u32 x3.1)).setCell ⟨tb,7,none⟩ (u32 x3.2)) tb (trC { t with node := (x1 : Int),lsvc := (x2 : Int),lton := (x3.1 : Int),ltos := (x3.2 : Int) } nilS nilS) := ((T3.set 6 (u32 x3.1)).set 7 (u32 x3.2))
 have K3s2 := K3.mod S3_2 (fun h => hne h.symm) (fun h => hnr h.symm)
 have A3s2 := A3.trans (S3_2.weaken fun k hk => Or.inr hk)
 simp [T3.cell 6 _ rfl,T3.cell 7 _ rfl,T3.thaw,cell_setCell]
 generalize ((w3.setCell ⟨tb,6,none⟩ (u32 x3.1)).setCell ⟨tb,7,none⟩ (u32 x3.2)) = w3s2 at *
 refine FN.mono (wnode_c K3s2 HL3) ?_
 rintro e4 w4 ⟨M4,p4⟩
 have A4 := A3s2.trans (M4.weaken fun k hk => Or.inl hk)
 rcases o4 : nodeQ l3 with _ | ⟨x4, l4⟩
 ·rw [show wordP _ l3 = none from o4] at p4
  obtain rfl : e4 = _ := p4
  simp
  exact ⟨A4,by simp [sendR,o1,o2,o3,o4]; exact ⟨_,_,_,T3s2.mod M4 hne⟩⟩
 rw [show wordP _ l3 = some (x4,l4) from o4] at p4
 obtain ⟨rfl,K4⟩ := p4
 have HL4 := wordP_len o4 HL3
 have HS4 := wordP_sub o4 HS3
 have T4 := T3s2.mod M4 hne
 have S4_3 : Mod (fun k => k = tb) w4 (w4.setCell ⟨tb,9,none⟩ (u32 x4)) := (Mod.refl _ _).setC 9 _
 have T4s3 : Blk (w4.setCell ⟨tb,9,none⟩ (u32 x4)) tb (trC { t with node := (x1 : Int),lsvc := (x2 : Int),lton := (x3.1 : Int),ltos := (x3.2 : Int),lflg := (x4 : Int) } nilS nilS) := (T4.set 9 (u32 x4))
 have K4s3 := K4.mod S4_3 (fun h => hne h.symm) (fun h => hnr h.symm)
 have A4s3 := A4.trans (S4_3.weaken fun k hk => Or.inr hk)
 simp [T4.cell 9 _ rfl,T4.thaw]
 generalize (w4.setCell ⟨tb,9,none⟩ (u32 x4)) = w4s3 at *
 refine FN.mono (rpoint_c K4s3 (Nat.lt_of_lt_of_le hr A4s3.size) HL4 HS4 (hG.mod A4s3 fun k hk => by omega) h8 (by have := A4s3.size; omega)) ?_
 rintro e5 w5 ⟨M5,p5⟩
 have A5 := A4s3.trans (M5.weaken fun k hk => Or.inl hk)
 rcases o5 : pointQ l4 with _ | ⟨x5, l5⟩
 ·rw [show wordP parseP l4 = none from o5] at p5
  obtain rfl : e5 = _ := p5
  simp
  exact ⟨A5,by simp [sendR,o1,o2,o3,o4,o5]; exact ⟨_,_,_,T4s3.mod M5 hne⟩⟩
 rw [show wordP parseP l4 = some (x5,l5) from o5] at p5
 obtain ⟨rfl,K5⟩ := p5
 have HL5 := wordP_len o5 HL4
 have HS5 := wordP_sub o5 HS4
 have T5 := T4s3.mod M5 hne
 have S5_4 : Mod (fun k => k = tb) w5 ((w5.setCell ⟨tb,10,none⟩ (u32 x5.1)).setCell ⟨tb,11,none⟩ (u32 x5.2)) := ((Mod.refl _ _).setC 10 _).setC 11 _
 have T5s4 : Blk ((w5.setCell ⟨tb,10,none⟩ (u32 x5.1)).setCell ⟨tb,11,none⟩ (u32 x5.2)) tb (trC { t with node := (x1 : Int),lsvc := (x2 : Int),lton := (x3.1 : Int),ltos := (x3.2 : Int),lflg := (x4 : Int),lren := (x5.1 : Int),lres := (x5.2 : Int) } nilS nilS) := ((T5.set 10 (u32 x5.1)).set 11 (u32 x5.2))
 have K5s4 := K5.mod S5_4 (fun h => hne h.symm) (fun h => hnr h.symm)
 have A5s4 := A5.trans (S5_4.weaken fun k hk => Or.inr hk)
 simp [T5.cell 10 _ rfl,T5.cell 11 _ rfl,T5.thaw,cell_setCell]
 generalize ((w5.setCell ⟨tb,10,none⟩ (u32 x5.1)).setCell ⟨tb,11,none⟩ (u32 x5.2)) = w5s4 at *
 refine FN.mono (wlong_c K5s4 HL5) ?_
 rintro e6 w6 ⟨M6,p6⟩
 have A6 := A5s4.trans (M6.weaken fun k hk => Or.inl hk)
 rcases o6 : longQ l5 with _ | ⟨x6, l6⟩
 ·rw [show wordP _ l5 = none from o6] at p6
  obtain rfl : e6 = _ := p6
  simp
  exact ⟨A6,by simp [sendR,o1,o2,o3,o4,o5,o6]; exact ⟨_,_,_,T5s4.mod M6 hne⟩⟩
 rw [show wordP _ l5 = some (x6,l6) from o6] at p6
 obtain ⟨rfl,K6⟩ := p6
 have HL6 := wordP_len o6 HL5
 have HS6 := wordP_sub o6 HS5
 have T6 := T5s4.mod M6 hne
 simp
 refine FN.mono (wsmall_c K6 HL6) ?_
 rintro e7 w7 ⟨M7,p7⟩
 have A7 := A6.trans (M7.weaken fun k hk => Or.inl hk)
 rcases o7 : smallQ l6 with _ | ⟨x7, l7⟩
 ·rw [show wordP _ l6 = none from o7] at p7
  obtain rfl : e7 = _ := p7
  simp
  exact ⟨A7,by simp [sendR,o1,o2,o3,o4,o5,o6,o7]; exact ⟨_,_,_,T6.mod M7 hne⟩⟩
 rw [show wordP _ l6 = some (x7,l7) from o7] at p7
 obtain ⟨rfl,K7⟩ := p7
 have HL7 := wordP_len o7 HL6
 have HS7 := wordP_sub o7 HS6
 have T7 := T6.mod M7 hne
 have S7_5 : Mod (fun k => k = tb) w7 ((w7.setCell ⟨tb,12,none⟩ (u64 x6)).setCell ⟨tb,13,none⟩ (u8 x7)) := ((Mod.refl _ _).setC 12 _).setC 13 _
 have T7s5 : Blk ((w7.setCell ⟨tb,12,none⟩ (u64 x6)).setCell ⟨tb,13,none⟩ (u8 x7)) tb (trC { t with node := (x1 : Int),lsvc := (x2 : Int),lton := (x3.1 : Int),ltos := (x3.2 : Int),lflg := (x4 : Int),lren := (x5.1 : Int),lres := (x5.2 : Int),life := (x6 : Int),lim := (x7 : Int) } nilS nilS) := ((T7.set 12 (u64 x6)).set 13 (u8 x7))
 have K7s5 := K7.mod S7_5 (fun h => hne h.symm) (fun h => hnr h.symm)
 have A7s5 := A7.trans (S7_5.weaken fun k hk => Or.inr hk)
 simp [T7.cell 12 _ rfl,T7.cell 13 _ rfl,T7.thaw,cell_setCell]
 generalize ((w7.setCell ⟨tb,12,none⟩ (u64 x6)).setCell ⟨tb,13,none⟩ (u8 x7)) = w7s5 at *
 refine FN.mono (roctets_c K7s5 (Nat.lt_of_lt_of_le hr A7s5.size) HL7 HS7) ?_
 rintro e8 w8 ⟨M8,p8⟩
 have A8 := A7s5.trans (M8.weaken fun k hk => Or.inl hk)
 rcases o8 : octQ l7 with _ | ⟨x8, l8⟩
 ·rw [show octQ l7 = none from o8] at p8
  obtain rfl : e8 = _ := p8
  simp
  exact ⟨A8,by simp [sendR,o1,o2,o3,o4,o5,o6,o7,o8]; exact ⟨_,_,_,T7s5.mod M8 hne⟩⟩
 rw [show octQ l7 = some (x8,l8) from o8] at p8
 obtain ⟨K8,v8,rfl,sv8,gv8⟩ := p8
 simp only [List.length_map] at sv8
 obtain ⟨va8,vc8,rfl⟩ := sv8.isSlice
 have T8 := T7s5.mod M8 hne
 have S8_6 : Mod (fun k => k = tb) w8 (w8.setCell ⟨tb,14,none⟩ (.slice va8 x8.length vc8)) := (Mod.refl _ _).setC 14 _
 have T8s6 : Blk (w8.setCell ⟨tb,14,none⟩ (.slice va8 x8.length vc8)) tb (trC { t with node := (x1 : Int),lsvc := (x2 : Int),lton := (x3.1 : Int),ltos := (x3.2 : Int),lflg := (x4 : Int),lren := (x5.1 : Int),lres := (x5.2 : Int),life := (x6 : Int),lim := (x7 : Int),pay := x8 } (.slice va8 x8.length vc8) nilS) := (T8.set 14 (.slice va8 x8.length vc8))
 have K8s6 := K8.mod S8_6 (fun h => hne h.symm) (fun h => hnr h.symm)
 have A8s6 := A8.trans (S8_6.weaken fun k hk => Or.inr hk)
 simp [T8.cell 14 _ rfl,T8.thaw]
 refine ⟨A8s6,?_⟩
 rw [show sendR t l0 = some ({ t with node := (x1 : Int),lsvc := (x2 : Int),lton := (x3.1 : Int),ltos := (x3.2 : Int),lflg := (x4 : Int),lren := (x5.1 : Int),lres := (x5.2 : Int),life := (x6 : Int),lim := (x7 : Int),pay := x8 },l8) by simp [sendR,o1,o2,o3,o4,o5,o6,o7,o8]]
 exact ⟨⟨_,rfl⟩,K8s6,⟨⟨_,_,T8s6,slKeep sv8 S8_6 (fun h => by have := gv8 h; have := A7.size; have := A7s5.size; omega),fun h => by have := gv8 (by simpa using h); have := A7s5.size; omega,by rw [hk]; exact Sl.nil _ _ _,fun h => absurd hk h⟩⟩⟩
def memberR (t : Trn) (l : List Tx) : Option (Trn × List Tx) := (nodeQ l).bind fun x1 => (nodeQ x1.2).bind fun x2 => (nodeQ x2.2).bind fun x3 => (nodeQ x3.2).bind fun x4 => (ioQ x4.2).bind fun x5 => some ({ t with node := ((x1.1 : Nat) : Int),mn := ((x2.1 : Nat) : Int),mr := ((x3.1 : Nat) : Int),me := ((x4.1 : Nat) : Int),mi := x5.1 },x5.2)
set_option maxHeartbeats 4000000 in
theorem rdmember_c {w : World} {rb b tb : Nat} {t : Trn} {l0 : List Tx} (K0 : Rw w rb b l0) (hr : rb < w.heap.size) (T0 : Blk w tb (trC t nilS nilS)) (hp : t.pay = []) (hk : t.keep = []) (hne : tb ≠ b) (hnr : tb ≠ rb) (HL0 : l0.length ≤ 1000000) (HS0 : ∀ s ∈ l0, s.length ≤ 1000000) (hG : Gl w) (h8 : 8 ≤ b) (h9 : 8 ≤ tb) : FN Tryz.prog 121 [ptr b, ptr tb] w fun e w' => RdT w w' rb b tb (memberR t l0) e := by
 refine FN_enter Tryz.func121 rfl rfl (by kernel_rfl) ?_
 have A0 : Mod (fun k => k = b ∨ k = tb) w w := Mod.refl _ _
 have hb := K0.lt
 have htb := T0.lt
 simp
 refine FN.mono (wnode_c K0 HL0) ?_
 rintro e1 w1 ⟨M1,p1⟩
 have A1 := A0.trans (M1.weaken fun k hk => Or.inl hk)
 rcases o1 : nodeQ l0 with _ | ⟨x1, l1⟩
 ·rw [show wordP _ l0 = none from o1] at p1
  obtain rfl : e1 = _ := p1
  simp
  exact ⟨A1,by simp [memberR,o1]; exact ⟨_,_,_,T0.mod M1 hne⟩⟩
 rw [show wordP _ l0 = some (x1,l1) from o1] at p1
 obtain ⟨rfl,K1⟩ := p1
 have HL1 := wordP_len o1 HL0
 have HS1 := wordP_sub o1 HS0
 have T1 := T0.mod M1 hne
 simp
 refine FN.mono (wnode_c K1 HL1) ?_
 rintro e2 w2 ⟨M2,p2⟩
 have A2 := A1.trans (M2.weaken fun k hk => Or.inl hk)
 rcases o2 : nodeQ l1 with _ | ⟨x2, l2⟩
 ·rw [show wordP _ l1 = none from o2] at p2
  obtain rfl : e2 = _ := p2
  simp
  exact ⟨A2,by simp [memberR,o1,o2]; exact ⟨_,_,_,T1.mod M2 hne⟩⟩
 rw [show wordP _ l1 = some (x2,l2) from o2] at p2
 obtain ⟨rfl,K2⟩ := p2
 have HL2 := wordP_len o2 HL1
 have HS2 := wordP_sub o2 HS1
 have T2 := T1.mod M2 hne
 have S2_1 : Mod (fun k => k = tb) w2 ((w2.setCell ⟨tb,1,none⟩ (u32 x1)).setCell ⟨tb,24,none⟩ (u32 x2)) := ((Mod.refl _ _).setC 1 _).setC 24 _
 have T2s1 : Blk ((w2.setCell ⟨tb,1,none⟩ (u32 x1)).setCell ⟨tb,24,none⟩ (u32 x2)) tb (trC { t with node := (x1 : Int),mn := (x2 : Int) } nilS nilS) := ((T2.set 1 (u32 x1)).set 24 (u32 x2))
 have K2s1 := K2.mod S2_1 (fun h => hne h.symm) (fun h => hnr h.symm)
 have A2s1 := A2.trans (S2_1.weaken fun k hk => Or.inr hk)
 simp [T2.cell 1 _ rfl,T2.cell 24 _ rfl,T2.thaw,cell_setCell]
 generalize ((w2.setCell ⟨tb,1,none⟩ (u32 x1)).setCell ⟨tb,24,none⟩ (u32 x2)) = w2s1 at *
 refine FN.mono (wnode_c K2s1 HL2) ?_
 rintro e3 w3 ⟨M3,p3⟩
 have A3 := A2s1.trans (M3.weaken fun k hk => Or.inl hk)
 rcases o3 : nodeQ l2 with _ | ⟨x3, l3⟩
 ·rw [show wordP _ l2 = none from o3] at p3
  obtain rfl : e3 = _ := p3
  simp
  exact ⟨A3,by simp [memberR,o1,o2,o3]; exact ⟨_,_,_,T2s1.mod M3 hne⟩⟩
 rw [show wordP _ l2 = some (x3,l3) from o3] at p3
 obtain ⟨rfl,K3⟩ := p3
 have HL3 := wordP_len o3 HL2
 have HS3 := wordP_sub o3 HS2
 have T3 := T2s1.mod M3 hne
 simp
 refine FN.mono (wnode_c K3 HL3) ?_
 rintro e4 w4 ⟨M4,p4⟩
 have A4 := A3.trans (M4.weaken fun k hk => Or.inl hk)
 rcases o4 : nodeQ l3 with _ | ⟨x4, l4⟩
 ·rw [show wordP _ l3 = none from o4] at p4
  obtain rfl : e4 = _ := p4
  simp
  exact ⟨A4,by simp [memberR,o1,o2,o3,o4]; exact ⟨_,_,_,T3.mod M4 hne⟩⟩
 rw [show wordP _ l3 = some (x4,l4) from o4] at p4
 obtain ⟨rfl,K4⟩ := p4
 have HL4 := wordP_len o4 HL3
 have HS4 := wordP_sub o4 HS3
 have T4 := T3.mod M4 hne
 have S4_2 : Mod (fun k => k = tb) w4 ((w4.setCell ⟨tb,25,none⟩ (u32 x3)).setCell ⟨tb,26,none⟩ (u32 x4)) := ((Mod.refl _ _).setC 25 _).setC 26 _
 have T4s2 : Blk ((w4.setCell ⟨tb,25,none⟩ (u32 x3)).setCell ⟨tb,26,none⟩ (u32 x4)) tb (trC { t with node := (x1 : Int),mn := (x2 : Int),mr := (x3 : Int),me := (x4 : Int) } nilS nilS) := ((T4.set 25 (u32 x3)).set 26 (u32 x4))
 have K4s2 := K4.mod S4_2 (fun h => hne h.symm) (fun h => hnr h.symm)
 have A4s2 := A4.trans (S4_2.weaken fun k hk => Or.inr hk)
 simp [T4.cell 25 _ rfl,T4.cell 26 _ rfl,T4.thaw,cell_setCell]
 generalize ((w4.setCell ⟨tb,25,none⟩ (u32 x3)).setCell ⟨tb,26,none⟩ (u32 x4)) = w4s2 at *
 refine FN.mono (wnext_c K4s2 HL4) ?_
 rintro e5 w5 ⟨M5,p5⟩
 have A5 := A4s2.trans (M5.weaken fun k hk => Or.inl hk)
 have N5 : memberR t l0 = (ioQ l4).bind fun x5 => some ({ t with node := (x1 : Int),mn := (x2 : Int),mr := (x3 : Int),me := (x4 : Int),mi := x5.1 },x5.2) := by simp [memberR,o1,o2,o3,o4]
 cases l4 with
 | nil =>
  obtain rfl : e5 = _ := p5
  simp
  exact ⟨A5,by rw [N5]; simp [ioQ,wordP]; exact ⟨_,_,_,T4s2.mod M5 hne⟩⟩
 | cons s5 l5 =>
 obtain ⟨rfl,K5⟩ := p5
 have T5 := T4s2.mod M5 hne
 simp
 by_cases c1 : s5 = [105, 110]
 ·have q1 : (s5 == [105,110]) = true := by rw [c1]; rfl
  simp [q1]
  refine FN.mono (smust_t w5) ?_
  rintro _ w5t ⟨⟨u,rfl⟩,rfl⟩
  simp [q1,T5.cell 27 _ rfl,T5.thaw]
  have S5 : Mod (fun k => k = tb) w5t (w5t.setCell ⟨tb,27,none⟩ (.bool true)) := (Mod.refl _ _).setC _ _
  refine ⟨A5.trans (S5.weaken fun k hk => Or.inr hk),?_⟩
  rw [N5,show ioQ (s5 :: l5) = some (true,l5) by simp [ioQ,wordP,ioP,c1]]
  exact ⟨⟨_,rfl⟩,K5.mod S5 (fun h => hne h.symm) (fun h => hnr h.symm),⟨⟨_,_,T5.set 27 (.bool true),by rw [hp]; exact Sl.nil _ _ _,fun h => absurd hp h,by rw [hk]; exact Sl.nil _ _ _,fun h => absurd hk h⟩⟩⟩
 ·have q1 : (s5 == [105,110]) = false := by simpa using c1
  by_cases c2 : s5 = [111, 117, 116]
  ·have q2 : (s5 == [111,117,116]) = true := by rw [c2]; rfl
   simp [q1,q2]
   refine FN.mono (smust_t w5) ?_
   rintro _ w5t ⟨⟨u,rfl⟩,rfl⟩
   simp [q1,T5.cell 27 _ rfl,T5.thaw]
   have S5 : Mod (fun k => k = tb) w5t (w5t.setCell ⟨tb,27,none⟩ (.bool false)) := (Mod.refl _ _).setC _ _
   refine ⟨A5.trans (S5.weaken fun k hk => Or.inr hk),?_⟩
   rw [N5,show ioQ (s5 :: l5) = some (false,l5) by simp [ioQ,wordP,ioP,c2]]
   exact ⟨⟨_,rfl⟩,K5.mod S5 (fun h => hne h.symm) (fun h => hnr h.symm),⟨⟨_,_,T5.set 27 (.bool false),by rw [hp]; exact Sl.nil _ _ _,fun h => absurd hp h,by rw [hk]; exact Sl.nil _ _ _,fun h => absurd hk h⟩⟩⟩
  ·have q2 : (s5 == [111,117,116]) = false := by simpa using c2
   simp [q1,q2]
   refine FN.mono (smust_f w5) ?_
   rintro _ w5t ⟨rfl,rfl⟩
   simp
   refine ⟨A5,?_⟩
   rw [N5,show ioQ (s5 :: l5) = none by simp [ioQ,wordP,ioP,c1,c2]]
   exact ⟨rfl,_,_,_,T5⟩
end Go.Proofs