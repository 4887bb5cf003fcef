/-
 Contracts of the functions that the law reaches,step by step.
-/
import Derived.Test.YtmmneeomcefgbaaGreatDoorScL
namespace Go.Proofs
open Pk
set_option maxRecDepth 100000
attribute [local simp] beq_dec bne_dec
def decI (x : Int) : Tx := Lib.decDigits x.toNat
def capI (M : Nat) (x : Int) : Option Tx := capT M x.toNat
abbrev m63 : Nat := 9223372036854775807
abbrev m32 : Nat := 4294967295
theorem t32i_c (w : World) {x : Int} (h : 0 ≤ x ∧ x ≤ 4294967295) : FN Tryz.prog 46 [u32 x] w fun e w' => e = .returned (tv (decI x)) ∧ Ext w w' := by
 obtain ⟨n,rfl⟩ := Int.eq_ofNat_of_zero_le h.1
 exact t32_c n (by omega)
theorem t8i_c (w : World) {x : Int} (h : 0 ≤ x ∧ x ≤ 255) : FN Tryz.prog 71 [u8 x] w fun e w' => e = .returned (tv (decI x)) ∧ Ext w w' := by
 obtain ⟨n,rfl⟩ := Int.eq_ofNat_of_zero_le h.1
 exact t8_c n (by omega)
theorem long63i_c (w : World) {x : Int} (h : 0 ≤ x ∧ x ≤ 18446744073709551615) : FN Tryz.prog 47 [u64 x] w fun e w' => LdS w w' (capI m63 x) e := by
 obtain ⟨n,rfl⟩ := Int.eq_ofNat_of_zero_le h.1
 exact long63_c w n (by omega)
theorem node32i_c (w : World) {x : Int} (h : 0 ≤ x ∧ x ≤ 18446744073709551615) : FN Tryz.prog 64 [u64 x] w fun e w' => LdS w w' (capI m32 x) e := by
 obtain ⟨n,rfl⟩ := Int.eq_ofNat_of_zero_le h.1
 exact node32_c w n (by omega)
def pointI (n s : Int) : Option Tx := pointP n.toNat s.toNat
def ioT (b : Bool) : Tx := if b then [105,110] else [111,117,116]
theorem pointI_c {w : World} {n s : Int} (h1 : 0 ≤ n ∧ n ≤ 4294967295) (h2 : 0 ≤ s ∧ s ≤ 4294967295) (hG : Gl w) : FN Tryz.prog 115 [.agg #[u32 n, u32 s]] w fun e w' => LdS w w' (pointI n s) e := by
 obtain ⟨a,rfl⟩ := Int.eq_ofNat_of_zero_le h1.1
 obtain ⟨b,rfl⟩ := Int.eq_ofNat_of_zero_le h2.1
 exact spoint_c a b (by omega) (by omega) hG
theorem slist_c (w : World) (v : Value) : FN Tryz.prog 25 [v] w fun e w' => e = .returned v ∧ w' = w := by
 refine FN_enter Tryz.func25 rfl rfl (by kernel_rfl) ?_
 simp
def LayE (w w' : World) (o : Option (List Tx)) (e : Ending) : Prop := Ext w w' ∧ match o with
 | none => e = .panicked panS
 | some l => ∃ v,e = .returned v ∧ Sl w' 1 v l.length (l.map tv)
abbrev R32 (x : Int) : Prop := 0 ≤ x ∧ x ≤ 4294967295
abbrev R64 (x : Int) : Prop := 0 ≤ x ∧ x ≤ 18446744073709551615
structure Ctc.Ok (c : Ctc) : Prop where
 fr : R32 c.fr
 to' : R32 c.to'
 sf : R64 c.sf
 su : R64 c.su
 rate : R64 c.rate
structure Stp.Ok (c : Stp) : Prop where
 fr : R32 c.fr
 to' : R32 c.to'
 at' : R64 c.at'
 tk : R64 c.tk
structure Trn.Ok (t : Trn) : Prop where
 node : R32 t.node
 to' : R32 t.to'
 n : R64 t.n
 fate : 0 ≤ t.fate ∧ t.fate ≤ 255
 lton : R32 t.lton
 ltos : R32 t.ltos
 lsvc : R32 t.lsvc
 lflg : R32 t.lflg
 lren : R32 t.lren
 lres : R32 t.lres
 life : R64 t.life
 lim : 0 ≤ t.lim ∧ t.lim ≤ 255
 c : t.c.Ok
 s : t.s.Ok
 mn : R32 t.mn
 mr : R32 t.mr
 me : R32 t.me
def ctL (c : Ctc) : Option (List Tx) := (capI m63 c.sf).bind fun x3 => (capI m63 c.su).bind fun x4 => (capI m63 c.rate).bind fun x5 => some [decI c.fr,decI c.to',x3,x4,x5]
set_option maxHeartbeats 4000000 in
theorem ctL_c {w : World} {c : Ctc} (hc : c.Ok) : FN Tryz.prog 56 [.agg #[u32 c.fr, u32 c.to', u64 c.sf, u64 c.su, u64 c.rate]] w fun e w' => LayE w w' (ctL c) e := by
 refine FN_enter Tryz.func56 rfl rfl (by kernel_rfl) ?_
 have hE0 : Ext w (w.alloc (.cells #[u32 c.fr,u32 c.to',u64 c.sf,u64 c.su,u64 c.rate] 33)) := (Ext.refl _).alloc _
 have b0 : Blk (w.alloc (.cells #[u32 c.fr,u32 c.to',u64 c.sf,u64 c.su,u64 c.rate] 33)) w.heap.size [u32 c.fr,u32 c.to',u64 c.sf,u64 c.su,u64 c.rate] := Blk.new w _ _
 simp
 generalize (w.alloc (.cells #[u32 c.fr,u32 c.to',u64 c.sf,u64 c.su,u64 c.rate] 33)) = w0 at *
 refine WC_drawZ 16 (.F 0 <| .F 1 <| .F 3 <| .F 4 <| .F 6 <| .F 7 <| .F 8 <| .F 10 <| .F 11 <| .F 12 <| .F 14 <| .F 15 <| .C 2 <| .C 5 <| .C 9 <| .C 13 <| .Z) (fun _ => false) (fun _ => false) (fun _ _ _ => False) (fun ch w' => Ext w w' ∧ ch = panS ∧ ctL c = none) rfl (by kernel_rfl) (fun _ h => h) (fun _ _ _ _ h1 _ => h1) ?_ fun W hW => ?_
 ·rintro ch ρ' w' ⟨h1,rfl,h2⟩
  simp
  refine ⟨h1,?_⟩
  rw [h2]
 have EE0 : Ext w W := hE0.trans (hW ▸ Ext.drew _)
 have bW := b0.ext (show Ext w0 W from hW ▸ Ext.drew _)
 simp [bW.cell 0 _ rfl,bW.cell 1 _ rfl,bW.cell 2 _ rfl,bW.cell 3 _ rfl,bW.cell 4 _ rfl]
 refine FN.mono (t32i_c W hc.fr) ?_
 rintro _ W1 ⟨rfl,E1⟩
 have EE1 := EE0.trans E1
 simp
 refine KR_ext E1 ?_
 simp
 refine FN.mono (t32i_c W1 hc.to') ?_
 rintro _ W2 ⟨rfl,E2⟩
 have EE2 := EE1.trans E2
 simp
 refine KR_ext E2 ?_
 simp
 refine FN.mono (long63i_c W2 hc.sf) ?_
 rintro e3 W3 ⟨E3,p3⟩
 rcases o3 : capI m63 c.sf with _ | x3
 ·rw [o3] at p3
  obtain rfl : e3 = _ := p3
  simp
  exact ⟨EE2.trans E3,by simp [ctL,o3]⟩
 rw [o3] at p3
 obtain rfl : e3 = _ := p3
 have EE3 := EE2.trans E3
 simp
 refine KR_ext E3 ?_
 simp
 refine FN.mono (long63i_c W3 hc.su) ?_
 rintro e4 W4 ⟨E4,p4⟩
 rcases o4 : capI m63 c.su with _ | x4
 ·rw [o4] at p4
  obtain rfl : e4 = _ := p4
  simp
  exact ⟨EE3.trans E4,by simp [ctL,o3,o4]⟩
 rw [o4] at p4
 obtain rfl : e4 = _ := p4
 have EE4 := EE3.trans E4
 simp
 refine KR_ext E4 ?_
 simp
 refine FN.mono (long63i_c W4 hc.rate) ?_
 rintro e5 W5 ⟨E5,p5⟩
 rcases o5 : capI m63 c.rate with _ | x5
 ·rw [o5] at p5
  obtain rfl : e5 = _ := p5
  simp
  exact ⟨EE4.trans E5,by simp [ctL,o3,o4,o5]⟩
 rw [o5] at p5
 obtain rfl : e5 = _ := p5
 have EE5 := EE4.trans E5
 simp
 refine ⟨EE5.alloc _,?_⟩
 rw [show ctL c = some [decI c.fr,decI c.to',x3,x4,x5] by simp [ctL,o3,o4,o5]]
 exact ⟨_,rfl,Sl.made W5 [tv (decI c.fr),tv (decI c.to'),tv (x3),tv (x4),tv (x5)] 9 1 5 rfl⟩
def stL (c : Stp) : Option (List Tx) := (capI m63 c.at').bind fun x3 => (capI m63 c.tk).bind fun x4 => some [decI c.fr,decI c.to',x3,x4]
set_option maxHeartbeats 4000000 in
theorem stL_c {w : World} {c : Stp} (hc : c.Ok) : FN Tryz.prog 60 [.agg #[u32 c.fr, u32 c.to', u64 c.at', u64 c.tk]] w fun e w' => LayE w w' (stL c) e := by
 refine FN_enter Tryz.func60 rfl rfl (by kernel_rfl) ?_
 have hE0 : Ext w (w.alloc (.cells #[u32 c.fr,u32 c.to',u64 c.at',u64 c.tk] 35)) := (Ext.refl _).alloc _
 have b0 : Blk (w.alloc (.cells #[u32 c.fr,u32 c.to',u64 c.at',u64 c.tk] 35)) w.heap.size [u32 c.fr,u32 c.to',u64 c.at',u64 c.tk] := Blk.new w _ _
 simp
 generalize (w.alloc (.cells #[u32 c.fr,u32 c.to',u64 c.at',u64 c.tk] 35)) = w0 at *
 refine WC_drawZ 11 (.F 0 <| .F 1 <| .F 3 <| .F 4 <| .F 6 <| .F 7 <| .F 9 <| .F 10 <| .C 2 <| .C 5 <| .C 8 <| .Z) (fun _ => false) (fun _ => false) (fun _ _ _ => False) (fun ch w' => Ext w w' ∧ ch = panS ∧ stL c = none) rfl (by kernel_rfl) (fun _ h => h) (fun _ _ _ _ h1 _ => h1) ?_ fun W hW => ?_
 ·rintro ch ρ' w' ⟨h1,rfl,h2⟩
  simp
  refine ⟨h1,?_⟩
  rw [h2]
 have EE0 : Ext w W := hE0.trans (hW ▸ Ext.drew _)
 have bW := b0.ext (show Ext w0 W from hW ▸ Ext.drew _)
 simp [bW.cell 0 _ rfl,bW.cell 1 _ rfl,bW.cell 2 _ rfl,bW.cell 3 _ rfl]
 refine FN.mono (t32i_c W hc.fr) ?_
 rintro _ W1 ⟨rfl,E1⟩
 have EE1 := EE0.trans E1
 simp
 refine KR_ext E1 ?_
 simp
 refine FN.mono (t32i_c W1 hc.to') ?_
 rintro _ W2 ⟨rfl,E2⟩
 have EE2 := EE1.trans E2
 simp
 refine KR_ext E2 ?_
 simp
 refine FN.mono (long63i_c W2 hc.at') ?_
 rintro e3 W3 ⟨E3,p3⟩
 rcases o3 : capI m63 c.at' with _ | x3
 ·rw [o3] at p3
  obtain rfl : e3 = _ := p3
  simp
  exact ⟨EE2.trans E3,by simp [stL,o3]⟩
 rw [o3] at p3
 obtain rfl : e3 = _ := p3
 have EE3 := EE2.trans E3
 simp
 refine KR_ext E3 ?_
 simp
 refine FN.mono (long63i_c W3 hc.tk) ?_
 rintro e4 W4 ⟨E4,p4⟩
 rcases o4 : capI m63 c.tk with _ | x4
 ·rw [o4] at p4
  obtain rfl : e4 = _ := p4
  simp
  exact ⟨EE3.trans E4,by simp [stL,o3,o4]⟩
 rw [o4] at p4
 obtain rfl : e4 = _ := p4
 have EE4 := EE3.trans E4
 simp
 refine ⟨EE4.alloc _,?_⟩
 rw [show stL c = some [decI c.fr,decI c.to',x3,x4] by simp [stL,o3,o4]]
 exact ⟨_,rfl,Sl.made W4 [tv (decI c.fr),tv (decI c.to'),tv (x3),tv (x4)] 9 1 4 rfl⟩
theorem ctL_len {c : Ctc} {l : List Tx} (h : ctL c = some l) : l.length = 5 := by
 unfold ctL at h
 cases h1 : capI m63 c.sf <;> cases h2 : capI m63 c.su <;> cases h3 : capI m63 c.rate <;> simp [h1,h2,h3] at h
 subst h; rfl
theorem stL_len {c : Stp} {l : List Tx} (h : stL c = some l) : l.length = 4 := by
 unfold stL at h
 cases h1 : capI m63 c.at' <;> cases h2 : capI m63 c.tk <;> simp [h1,h2] at h
 subst h; rfl
def lnodeP (t : Trn) : Option (List Tx) := (capI m63 t.n).bind fun x2 => some [decI t.node,x2]
set_option maxHeartbeats 4000000 in
theorem lnode_c {w : World} {t : Trn} {vp vk : Value} (ht : t.Ok) (hp : SlB w 1 vp t.pay.length (t.pay.map encB)) (hk : SlB w 1 vk t.keep.length (t.keep.map Value.bool)) (hpl : t.pay.length ≤ 1000000) (hkl : t.keep.length ≤ 1000000) (hG : Gl w) : FN Tryz.prog 45 [trV t vp vk] w fun e w' => LayE w w' (lnodeP t) e := by
 refine FN_enter Tryz.func45 rfl rfl (by kernel_rfl) ?_
 have E0 : Ext w (w.alloc (.cells (trC t vp vk).toArray 45)) := (Ext.refl _).alloc _
 have b0 : Blk (w.alloc (.cells (trC t vp vk).toArray 45)) w.heap.size (trC t vp vk) := Blk.new w _ _
 simp
 generalize (w.alloc (.cells (trC t vp vk).toArray 45)) = w0 at *
 refine WC_drawZ 5 (.F 0 <| .F 1 <| .F 3 <| .F 4 <| .C 2 <| .Z) (fun _ => false) (fun _ => false) (fun _ _ _ => False) (fun ch w' => Ext w w' ∧ ch = panS ∧ lnodeP t = none) rfl (by kernel_rfl) (fun _ h => h) (fun _ _ _ _ h1 _ => h1) ?_ fun W hW => ?_
 ·rintro ch ρ' w' ⟨h1,rfl,h2⟩
  simp
  refine ⟨h1,?_⟩
  rw [h2]
 have EW : Ext w W := E0.trans (hW ▸ Ext.drew _)
 have bW := b0.ext (show Ext w0 W from hW ▸ Ext.drew _)
 simp [bW.cell 1 _ rfl,bW.cell 3 _ rfl]
 refine FN.mono (t32i_c W ht.node) ?_
 rintro _ W1 ⟨rfl,E1⟩
 have EE1 := EW.trans E1
 simp
 refine KR_ext E1 ?_
 simp
 refine FN.mono (long63i_c W1 ht.n) ?_
 rintro e2 W2 ⟨E2,p2⟩
 rcases o2 : capI m63 t.n with _ | x2
 ·rw [o2] at p2
  obtain rfl : e2 = _ := p2
  simp
  exact ⟨EE1.trans E2,by simp [lnodeP,o2]⟩
 rw [o2] at p2
 obtain rfl : e2 = _ := p2
 have EE2 := EE1.trans E2
 simp
 have EB : Ext W2 (W2.alloc (.cells #[tv (decI t.node),tv (x2)] 9)) := (Ext.refl _).alloc _
 refine FN.mono (slist_c _ _) ?_
 rintro _ _ ⟨rfl,rfl⟩
 simp
 refine ⟨EE2.trans EB,?_⟩
 rw [show lnodeP t = some [decI t.node,x2] by simp [lnodeP,o2]]
 exact ⟨_,rfl,Sl.made W2 [tv (decI t.node),tv (x2)] 9 1 2 rfl⟩
def lopenP (t : Trn) : Option (List Tx) := (capI m32 t.n).bind fun x2 => some [decI t.node,x2]
set_option maxHeartbeats 4000000 in
theorem lopen_c {w : World} {t : Trn} {vp vk : Value} (ht : t.Ok) (hp : SlB w 1 vp t.pay.length (t.pay.map encB)) (hk : SlB w 1 vk t.keep.length (t.keep.map Value.bool)) (hpl : t.pay.length ≤ 1000000) (hkl : t.keep.length ≤ 1000000) (hG : Gl w) : FN Tryz.prog 112 [trV t vp vk] w fun e w' => LayE w w' (lopenP t) e := by
 refine FN_enter Tryz.func112 rfl rfl (by kernel_rfl) ?_
 have E0 : Ext w (w.alloc (.cells (trC t vp vk).toArray 45)) := (Ext.refl _).alloc _
 have b0 : Blk (w.alloc (.cells (trC t vp vk).toArray 45)) w.heap.size (trC t vp vk) := Blk.new w _ _
 simp
 generalize (w.alloc (.cells (trC t vp vk).toArray 45)) = w0 at *
 refine WC_drawZ 5 (.F 0 <| .F 1 <| .F 3 <| .F 4 <| .C 2 <| .Z) (fun _ => false) (fun _ => false) (fun _ _ _ => False) (fun ch w' => Ext w w' ∧ ch = panS ∧ lopenP t = none) rfl (by kernel_rfl) (fun _ h => h) (fun _ _ _ _ h1 _ => h1) ?_ fun W hW => ?_
 ·rintro ch ρ' w' ⟨h1,rfl,h2⟩
  simp
  refine ⟨h1,?_⟩
  rw [h2]
 have EW : Ext w W := E0.trans (hW ▸ Ext.drew _)
 have bW := b0.ext (show Ext w0 W from hW ▸ Ext.drew _)
 simp [bW.cell 1 _ rfl,bW.cell 3 _ rfl]
 refine FN.mono (t32i_c W ht.node) ?_
 rintro _ W1 ⟨rfl,E1⟩
 have EE1 := EW.trans E1
 simp
 refine KR_ext E1 ?_
 simp
 refine FN.mono (node32i_c W1 ht.n) ?_
 rintro e2 W2 ⟨E2,p2⟩
 rcases o2 : capI m32 t.n with _ | x2
 ·rw [o2] at p2
  obtain rfl : e2 = _ := p2
  simp
  exact ⟨EE1.trans E2,by simp [lopenP,o2]⟩
 rw [o2] at p2
 obtain rfl : e2 = _ := p2
 have EE2 := EE1.trans E2
 simp
 have EB : Ext W2 (W2.alloc (.cells #[tv (decI t.node),tv (x2)] 9)) := (Ext.refl _).alloc _
 refine FN.mono (slist_c _ _) ?_
 rintro _ _ ⟨rfl,rfl⟩
 simp
 refine ⟨EE2.trans EB,?_⟩
 rw [show lopenP t = some [decI t.node,x2] by simp [lopenP,o2]]
 exact ⟨_,rfl,Sl.made W2 [tv (decI t.node),tv (x2)] 9 1 2 rfl⟩
def lairP (t : Trn) : Option (List Tx) := (ctL t.c).bind fun x1 => some x1
set_option maxHeartbeats 4000000 in
theorem lair_c {w : World} {t : Trn} {vp vk : Value} (ht : t.Ok) (hp : SlB w 1 vp t.pay.length (t.pay.map encB)) (hk : SlB w 1 vk t.keep.length (t.keep.map Value.bool)) (hpl : t.pay.length ≤ 1000000) (hkl : t.keep.length ≤ 1000000) (hG : Gl w) : FN Tryz.prog 55 [trV t vp vk] w fun e w' => LayE w w' (lairP t) e := by
 refine FN_enter Tryz.func55 rfl rfl (by kernel_rfl) ?_
 have E0 : Ext w (w.alloc (.cells (trC t vp vk).toArray 45)) := (Ext.refl _).alloc _
 have b0 : Blk (w.alloc (.cells (trC t vp vk).toArray 45)) w.heap.size (trC t vp vk) := Blk.new w _ _
 simp
 generalize (w.alloc (.cells (trC t vp vk).toArray 45)) = w0 at *
 refine FN.mono (ctL_c ht.c) ?_
 rintro e1 W1 ⟨E1,p1⟩
 rcases o1 : ctL t.c with _ | x1
 ·rw [o1] at p1
  obtain rfl : e1 = _ := p1
  simp
  exact ⟨E0.trans E1,by simp [lairP,o1]⟩
 rw [o1] at p1
 obtain ⟨v1,rfl,s1⟩ := p1
 have EE1 := E0.trans E1
 simp
 refine ⟨EE1,?_⟩
 rw [show lairP t = some x1 by simp [lairP,o1]]
 exact ⟨_,rfl,s1⟩
def llightP (t : Trn) : Option (List Tx) := (stL t.s).bind fun x1 => some x1
set_option maxHeartbeats 4000000 in
theorem llight_c {w : World} {t : Trn} {vp vk : Value} (ht : t.Ok) (hp : SlB w 1 vp t.pay.length (t.pay.map encB)) (hk : SlB w 1 vk t.keep.length (t.keep.map Value.bool)) (hpl : t.pay.length ≤ 1000000) (hkl : t.keep.length ≤ 1000000) (hG : Gl w) : FN Tryz.prog 59 [trV t vp vk] w fun e w' => LayE w w' (llightP t) e := by
 refine FN_enter Tryz.func59 rfl rfl (by kernel_rfl) ?_
 have E0 : Ext w (w.alloc (.cells (trC t vp vk).toArray 45)) := (Ext.refl _).alloc _
 have b0 : Blk (w.alloc (.cells (trC t vp vk).toArray 45)) w.heap.size (trC t vp vk) := Blk.new w _ _
 simp
 generalize (w.alloc (.cells (trC t vp vk).toArray 45)) = w0 at *
 refine FN.mono (stL_c ht.s) ?_
 rintro e1 W1 ⟨E1,p1⟩
 rcases o1 : stL t.s with _ | x1
 ·rw [o1] at p1
  obtain rfl : e1 = _ := p1
  simp
  exact ⟨E0.trans E1,by simp [llightP,o1]⟩
 rw [o1] at p1
 obtain ⟨v1,rfl,s1⟩ := p1
 have EE1 := E0.trans E1
 simp
 refine ⟨EE1,?_⟩
 rw [show llightP t = some x1 by simp [llightP,o1]]
 exact ⟨_,rfl,s1⟩
def lplanP (t : Trn) : Option (List Tx) := (capI m32 t.n).bind fun x2 => (ctL t.c).bind fun x3 => some ([decI t.node,x2] ++ x3)
set_option maxHeartbeats 4000000 in
theorem lplan_c {w : World} {t : Trn} {vp vk : Value} (ht : t.Ok) (hp : SlB w 1 vp t.pay.length (t.pay.map encB)) (hk : SlB w 1 vk t.keep.length (t.keep.map Value.bool)) (hpl : t.pay.length ≤ 1000000) (hkl : t.keep.length ≤ 1000000) (hG : Gl w) : FN Tryz.prog 63 [trV t vp vk] w fun e w' => LayE w w' (lplanP t) e := by
 refine FN_enter Tryz.func63 rfl rfl (by kernel_rfl) ?_
 have E0 : Ext w (w.alloc (.cells (trC t vp vk).toArray 45)) := (Ext.refl _).alloc _
 have b0 : Blk (w.alloc (.cells (trC t vp vk).toArray 45)) w.heap.size (trC t vp vk) := Blk.new w _ _
 simp
 generalize (w.alloc (.cells (trC t vp vk).toArray 45)) = w0 at *
 refine WC_drawZ 10 (.F 0 <| .F 1 <| .F 3 <| .F 4 <| .F 8 <| .F 9 <| .C 2 <| .C 5 <| .C 6 <| .C 7 <| .Z) (fun _ => false) (fun _ => false) (fun _ _ _ => False) (fun ch w' => Ext w w' ∧ ch = panS ∧ lplanP t = none) rfl (by kernel_rfl) (fun _ h => h) (fun _ _ _ _ h1 _ => h1) ?_ fun W hW => ?_
 ·rintro ch ρ' w' ⟨h1,rfl,h2⟩
  simp
  refine ⟨h1,?_⟩
  rw [h2]
 have EW : Ext w W := E0.trans (hW ▸ Ext.drew _)
 have bW := b0.ext (show Ext w0 W from hW ▸ Ext.drew _)
 simp [bW.cell 1 _ rfl,bW.cell 3 _ rfl,bW.cell 15 _ rfl,bW.cell 16 _ rfl,bW.cell 17 _ rfl,bW.cell 18 _ rfl,bW.cell 19 _ rfl]
 refine FN.mono (t32i_c W ht.node) ?_
 rintro _ W1 ⟨rfl,E1⟩
 have EE1 := EW.trans E1
 simp
 refine KR_ext E1 ?_
 simp
 refine FN.mono (node32i_c W1 ht.n) ?_
 rintro e2 W2 ⟨E2,p2⟩
 rcases o2 : capI m32 t.n with _ | x2
 ·rw [o2] at p2
  obtain rfl : e2 = _ := p2
  simp
  exact ⟨EE1.trans E2,by simp [lplanP,o2]⟩
 rw [o2] at p2
 obtain rfl : e2 = _ := p2
 have EE2 := EE1.trans E2
 simp
 refine KR_ext E2 ?_
 simp
 have EB : Ext W2 (W2.alloc (.cells #[tv (decI t.node),tv (x2)] 9)) := (Ext.refl _).alloc _
 have sB : W2.alloc (.cells #[tv (decI t.node),tv (x2)] 9) |>.ownsRow W2.heap.size 9 1 (.slice (some ⟨W2.heap.size,0,none⟩) 2 2) 2 [tv (decI t.node),tv (x2)] := own_made W2 [tv (decI t.node),tv (x2)] 9 1 2 rfl (by omega) _ (Nat.le_refl _)
 have E2b := EE2.trans EB
 refine KR_ext EB ?_
 generalize hWb : (W2.alloc (.cells #[tv (decI t.node),tv (x2)] 9)) = Wb at *
 simp
 refine FN.mono (slist_c Wb _) ?_
 rintro _ _ ⟨rfl,rfl⟩
 simp
 refine KR_same ?_
 simp
 refine FN.mono (ctL_c ht.c) ?_
 rintro e3 W3 ⟨E3,p3⟩
 rcases o3 : ctL t.c with _ | x3
 ·rw [o3] at p3
  obtain rfl : e3 = _ := p3
  simp
  exact ⟨E2b.trans E3,by simp [lplanP,o2,o3]⟩
 rw [o3] at p3
 obtain ⟨v3,rfl,s3⟩ := p3
 have EE3 := E2b.trans E3
 simp
 have hl := ctL_len o3
 have z1 := EB.size
 have z2 := E3.size
 obtain ⟨v',w',hr,ho',hM',-⟩ := append_own (P := Tryz.prog) (t := 60) (ty := 60) (e := 9) (s := 1) (by simp) (by simp) (by kernel_rfl) (own_ext sB E3) s3 (fun u hu => by obtain ⟨z,-,rfl⟩ := List.mem_map.1 hu; rfl) (by omega) (by omega)
 simp [hr]
 have hz := EE2.size
 refine ⟨(EE3.mod.trans (hM'.weaken fun k hk => by have := hk.2; simp [slB] at this; omega)).ext fun _ h => h,?_⟩
 rw [show lplanP t = some ([decI t.node,x2] ++ x3) by simp [lplanP,o2,o3]]
 refine ⟨v',rfl,?_⟩
 have := sl_of_own ho'
 rw [List.map_append,List.length_append]
 exact this
def lstepP (t : Trn) : Option (List Tx) := (stL t.s).bind fun x2 => some ([decI t.node] ++ x2)
set_option maxHeartbeats 4000000 in
theorem lstep_c {w : World} {t : Trn} {vp vk : Value} (ht : t.Ok) (hp : SlB w 1 vp t.pay.length (t.pay.map encB)) (hk : SlB w 1 vk t.keep.length (t.keep.map Value.bool)) (hpl : t.pay.length ≤ 1000000) (hkl : t.keep.length ≤ 1000000) (hG : Gl w) : FN Tryz.prog 66 [trV t vp vk] w fun e w' => LayE w w' (lstepP t) e := by
 refine FN_enter Tryz.func66 rfl rfl (by kernel_rfl) ?_
 have E0 : Ext w (w.alloc (.cells (trC t vp vk).toArray 45)) := (Ext.refl _).alloc _
 have b0 : Blk (w.alloc (.cells (trC t vp vk).toArray 45)) w.heap.size (trC t vp vk) := Blk.new w _ _
 simp
 generalize (w.alloc (.cells (trC t vp vk).toArray 45)) = w0 at *
 refine WC_drawZ 7 (.F 0 <| .F 1 <| .F 5 <| .F 6 <| .C 2 <| .C 3 <| .C 4 <| .Z) (fun _ => false) (fun _ => false) (fun _ _ _ => False) (fun ch w' => Ext w w' ∧ ch = panS ∧ lstepP t = none) rfl (by kernel_rfl) (fun _ h => h) (fun _ _ _ _ h1 _ => h1) ?_ fun W hW => ?_
 ·rintro ch ρ' w' ⟨h1,rfl,h2⟩
  simp
  refine ⟨h1,?_⟩
  rw [h2]
 have EW : Ext w W := E0.trans (hW ▸ Ext.drew _)
 have bW := b0.ext (show Ext w0 W from hW ▸ Ext.drew _)
 simp [bW.cell 1 _ rfl,bW.cell 20 _ rfl,bW.cell 21 _ rfl,bW.cell 22 _ rfl,bW.cell 23 _ rfl]
 refine FN.mono (t32i_c W ht.node) ?_
 rintro _ W1 ⟨rfl,E1⟩
 have EE1 := EW.trans E1
 simp
 refine KR_ext E1 ?_
 simp
 have EB : Ext W1 (W1.alloc (.cells #[tv (decI t.node)] 9)) := (Ext.refl _).alloc _
 have sB : W1.alloc (.cells #[tv (decI t.node)] 9) |>.ownsRow W1.heap.size 9 1 (.slice (some ⟨W1.heap.size,0,none⟩) 1 1) 1 [tv (decI t.node)] := own_made W1 [tv (decI t.node)] 9 1 1 rfl (by omega) _ (Nat.le_refl _)
 have E1b := EE1.trans EB
 refine KR_ext EB ?_
 generalize hWb : (W1.alloc (.cells #[tv (decI t.node)] 9)) = Wb at *
 simp
 refine FN.mono (slist_c Wb _) ?_
 rintro _ _ ⟨rfl,rfl⟩
 simp
 refine KR_same ?_
 simp
 refine FN.mono (stL_c ht.s) ?_
 rintro e2 W2 ⟨E2,p2⟩
 rcases o2 : stL t.s with _ | x2
 ·rw [o2] at p2
  obtain rfl : e2 = _ := p2
  simp
  exact ⟨E1b.trans E2,by simp [lstepP,o2]⟩
 rw [o2] at p2
 obtain ⟨v2,rfl,s2⟩ := p2
 have EE2 := E1b.trans E2
 simp
 have hl := stL_len o2
 have z1 := EB.size
 have z2 := E2.size
 obtain ⟨v',w',hr,ho',hM',-⟩ := append_own (P := Tryz.prog) (t := 60) (ty := 60) (e := 9) (s := 1) (by simp) (by simp) (by kernel_rfl) (own_ext sB E2) s2 (fun u hu => by obtain ⟨z,-,rfl⟩ := List.mem_map.1 hu; rfl) (by omega) (by omega)
 simp [hr]
 have hz := EE1.size
 refine ⟨(EE2.mod.trans (hM'.weaken fun k hk => by have := hk.2; simp [slB] at this; omega)).ext fun _ h => h,?_⟩
 rw [show lstepP t = some ([decI t.node] ++ x2) by simp [lstepP,o2]]
 refine ⟨v',rfl,?_⟩
 have := sl_of_own ho'
 rw [List.map_append,List.length_append]
 exact this
def ltreeP (t : Trn) : Option (List Tx) := (capI m32 t.n).bind fun x2 => some [decI t.node,x2,decI t.to']
set_option maxHeartbeats 4000000 in
theorem ltree_c {w : World} {t : Trn} {vp vk : Value} (ht : t.Ok) (hp : SlB w 1 vp t.pay.length (t.pay.map encB)) (hk : SlB w 1 vk t.keep.length (t.keep.map Value.bool)) (hpl : t.pay.length ≤ 1000000) (hkl : t.keep.length ≤ 1000000) (hG : Gl w) : FN Tryz.prog 68 [trV t vp vk] w fun e w' => LayE w w' (ltreeP t) e := by
 refine FN_enter Tryz.func68 rfl rfl (by kernel_rfl) ?_
 have E0 : Ext w (w.alloc (.cells (trC t vp vk).toArray 45)) := (Ext.refl _).alloc _
 have b0 : Blk (w.alloc (.cells (trC t vp vk).toArray 45)) w.heap.size (trC t vp vk) := Blk.new w _ _
 simp
 generalize (w.alloc (.cells (trC t vp vk).toArray 45)) = w0 at *
 refine WC_drawZ 8 (.F 0 <| .F 1 <| .F 3 <| .F 4 <| .F 6 <| .F 7 <| .C 2 <| .C 5 <| .Z) (fun _ => false) (fun _ => false) (fun _ _ _ => False) (fun ch w' => Ext w w' ∧ ch = panS ∧ ltreeP t = none) rfl (by kernel_rfl) (fun _ h => h) (fun _ _ _ _ h1 _ => h1) ?_ fun W hW => ?_
 ·rintro ch ρ' w' ⟨h1,rfl,h2⟩
  simp
  refine ⟨h1,?_⟩
  rw [h2]
 have EW : Ext w W := E0.trans (hW ▸ Ext.drew _)
 have bW := b0.ext (show Ext w0 W from hW ▸ Ext.drew _)
 simp [bW.cell 1 _ rfl,bW.cell 3 _ rfl,bW.cell 2 _ rfl]
 refine FN.mono (t32i_c W ht.node) ?_
 rintro _ W1 ⟨rfl,E1⟩
 have EE1 := EW.trans E1
 simp
 refine KR_ext E1 ?_
 simp
 refine FN.mono (node32i_c W1 ht.n) ?_
 rintro e2 W2 ⟨E2,p2⟩
 rcases o2 : capI m32 t.n with _ | x2
 ·rw [o2] at p2
  obtain rfl : e2 = _ := p2
  simp
  exact ⟨EE1.trans E2,by simp [ltreeP,o2]⟩
 rw [o2] at p2
 obtain rfl : e2 = _ := p2
 have EE2 := EE1.trans E2
 simp
 refine KR_ext E2 ?_
 simp
 refine FN.mono (t32i_c W2 ht.to') ?_
 rintro _ W3 ⟨rfl,E3⟩
 have EE3 := EE2.trans E3
 simp
 have EB : Ext W3 (W3.alloc (.cells #[tv (decI t.node),tv (x2),tv (decI t.to')] 9)) := (Ext.refl _).alloc _
 refine FN.mono (slist_c _ _) ?_
 rintro _ _ ⟨rfl,rfl⟩
 simp
 refine ⟨EE3.trans EB,?_⟩
 rw [show ltreeP t = some [decI t.node,x2,decI t.to'] by simp [ltreeP,o2]]
 exact ⟨_,rfl,Sl.made W3 [tv (decI t.node),tv (x2),tv (decI t.to')] 9 1 3 rfl⟩
def lserveP (t : Trn) : Option (List Tx) := some [decI t.node,decI t.to',decI t.fate]
set_option maxHeartbeats 4000000 in
theorem lserve_c {w : World} {t : Trn} {vp vk : Value} (ht : t.Ok) (hp : SlB w 1 vp t.pay.length (t.pay.map encB)) (hk : SlB w 1 vk t.keep.length (t.keep.map Value.bool)) (hpl : t.pay.length ≤ 1000000) (hkl : t.keep.length ≤ 1000000) (hG : Gl w) : FN Tryz.prog 70 [trV t vp vk] w fun e w' => LayE w w' (lserveP t) e := by
 refine FN_enter Tryz.func70 rfl rfl (by kernel_rfl) ?_
 have E0 : Ext w (w.alloc (.cells (trC t vp vk).toArray 45)) := (Ext.refl _).alloc _
 have b0 : Blk (w.alloc (.cells (trC t vp vk).toArray 45)) w.heap.size (trC t vp vk) := Blk.new w _ _
 simp
 generalize (w.alloc (.cells (trC t vp vk).toArray 45)) = w0 at *
 refine WC_drawZ 8 (.F 0 <| .F 1 <| .F 3 <| .F 4 <| .F 6 <| .F 7 <| .C 2 <| .C 5 <| .Z) (fun _ => false) (fun _ => false) (fun _ _ _ => False) (fun ch w' => Ext w w' ∧ ch = panS ∧ lserveP t = none) rfl (by kernel_rfl) (fun _ h => h) (fun _ _ _ _ h1 _ => h1) ?_ fun W hW => ?_
 ·rintro ch ρ' w' ⟨h1,rfl,h2⟩
  simp
  refine ⟨h1,?_⟩
  rw [h2]
 have EW : Ext w W := E0.trans (hW ▸ Ext.drew _)
 have bW := b0.ext (show Ext w0 W from hW ▸ Ext.drew _)
 simp [bW.cell 1 _ rfl,bW.cell 2 _ rfl,bW.cell 5 _ rfl]
 refine FN.mono (t32i_c W ht.node) ?_
 rintro _ W1 ⟨rfl,E1⟩
 have EE1 := EW.trans E1
 simp
 refine KR_ext E1 ?_
 simp
 refine FN.mono (t32i_c W1 ht.to') ?_
 rintro _ W2 ⟨rfl,E2⟩
 have EE2 := EE1.trans E2
 simp
 refine KR_ext E2 ?_
 simp
 refine FN.mono (t8i_c W2 ht.fate) ?_
 rintro _ W3 ⟨rfl,E3⟩
 have EE3 := EE2.trans E3
 simp
 have EB : Ext W3 (W3.alloc (.cells #[tv (decI t.node),tv (decI t.to'),tv (decI t.fate)] 9)) := (Ext.refl _).alloc _
 refine FN.mono (slist_c _ _) ?_
 rintro _ _ ⟨rfl,rfl⟩
 simp
 refine ⟨EE3.trans EB,?_⟩
 rw [show lserveP t = some [decI t.node,decI t.to',decI t.fate] by simp [lserveP]]
 exact ⟨_,rfl,Sl.made W3 [tv (decI t.node),tv (decI t.to'),tv (decI t.fate)] 9 1 3 rfl⟩
def llandP (t : Trn) : Option (List Tx) := (capI m63 t.n).bind fun x1 => some [x1]
set_option maxHeartbeats 4000000 in
theorem lland_c {w : World} {t : Trn} {vp vk : Value} (ht : t.Ok) (hp : SlB w 1 vp t.pay.length (t.pay.map encB)) (hk : SlB w 1 vk t.keep.length (t.keep.map Value.bool)) (hpl : t.pay.length ≤ 1000000) (hkl : t.keep.length ≤ 1000000) (hG : Gl w) : FN Tryz.prog 74 [trV t vp vk] w fun e w' => LayE w w' (llandP t) e := by
 refine FN_enter Tryz.func74 rfl rfl (by kernel_rfl) ?_
 have E0 : Ext w (w.alloc (.cells (trC t vp vk).toArray 45)) := (Ext.refl _).alloc _
 have b0 : Blk (w.alloc (.cells (trC t vp vk).toArray 45)) w.heap.size (trC t vp vk) := Blk.new w _ _
 simp
 generalize (w.alloc (.cells (trC t vp vk).toArray 45)) = w0 at *
 refine FN.mono (long63i_c w0 ht.n) ?_
 rintro e1 W1 ⟨E1,p1⟩
 rcases o1 : capI m63 t.n with _ | x1
 ·rw [o1] at p1
  obtain rfl : e1 = _ := p1
  simp
  exact ⟨E0.trans E1,by simp [llandP,o1]⟩
 rw [o1] at p1
 obtain rfl : e1 = _ := p1
 have EE1 := E0.trans E1
 simp
 have EB : Ext W1 (W1.alloc (.cells #[tv (x1)] 9)) := (Ext.refl _).alloc _
 refine FN.mono (slist_c _ _) ?_
 rintro _ _ ⟨rfl,rfl⟩
 simp
 refine ⟨EE1.trans EB,?_⟩
 rw [show llandP t = some [x1] by simp [llandP,o1]]
 exact ⟨_,rfl,Sl.made W1 [tv (x1)] 9 1 1 rfl⟩
def ltickP (t : Trn) : Option (List Tx) := (capI m63 t.n).bind fun x1 => some [x1]
set_option maxHeartbeats 4000000 in
theorem ltick_c {w : World} {t : Trn} {vp vk : Value} (ht : t.Ok) (hp : SlB w 1 vp t.pay.length (t.pay.map encB)) (hk : SlB w 1 vk t.keep.length (t.keep.map Value.bool)) (hpl : t.pay.length ≤ 1000000) (hkl : t.keep.length ≤ 1000000) (hG : Gl w) : FN Tryz.prog 76 [trV t vp vk] w fun e w' => LayE w w' (ltickP t) e := by
 refine FN_enter Tryz.func76 rfl rfl (by kernel_rfl) ?_
 have E0 : Ext w (w.alloc (.cells (trC t vp vk).toArray 45)) := (Ext.refl _).alloc _
 have b0 : Blk (w.alloc (.cells (trC t vp vk).toArray 45)) w.heap.size (trC t vp vk) := Blk.new w _ _
 simp
 generalize (w.alloc (.cells (trC t vp vk).toArray 45)) = w0 at *
 refine FN.mono (long63i_c w0 ht.n) ?_
 rintro e1 W1 ⟨E1,p1⟩
 rcases o1 : capI m63 t.n with _ | x1
 ·rw [o1] at p1
  obtain rfl : e1 = _ := p1
  simp
  exact ⟨E0.trans E1,by simp [ltickP,o1]⟩
 rw [o1] at p1
 obtain rfl : e1 = _ := p1
 have EE1 := E0.trans E1
 simp
 have EB : Ext W1 (W1.alloc (.cells #[tv (x1)] 9)) := (Ext.refl _).alloc _
 refine FN.mono (slist_c _ _) ?_
 rintro _ _ ⟨rfl,rfl⟩
 simp
 refine ⟨EE1.trans EB,?_⟩
 rw [show ltickP t = some [x1] by simp [ltickP,o1]]
 exact ⟨_,rfl,Sl.made W1 [tv (x1)] 9 1 1 rfl⟩
def lcrashP (t : Trn) : Option (List Tx) := some [decI t.node,bitsO t.keep]
set_option maxHeartbeats 4000000 in
theorem lcrash_c {w : World} {t : Trn} {vp vk : Value} (ht : t.Ok) (hp : SlB w 1 vp t.pay.length (t.pay.map encB)) (hk : SlB w 1 vk t.keep.length (t.keep.map Value.bool)) (hpl : t.pay.length ≤ 1000000) (hkl : t.keep.length ≤ 1000000) (hG : Gl w) : FN Tryz.prog 78 [trV t vp vk] w fun e w' => LayE w w' (lcrashP t) e := by
 refine FN_enter Tryz.func78 rfl rfl (by kernel_rfl) ?_
 have E0 : Ext w (w.alloc (.cells (trC t vp vk).toArray 45)) := (Ext.refl _).alloc _
 have b0 : Blk (w.alloc (.cells (trC t vp vk).toArray 45)) w.heap.size (trC t vp vk) := Blk.new w _ _
 simp
 generalize (w.alloc (.cells (trC t vp vk).toArray 45)) = w0 at *
 refine WC_drawZ 5 (.F 0 <| .F 1 <| .F 3 <| .F 4 <| .C 2 <| .Z) (fun _ => false) (fun _ => false) (fun _ _ _ => False) (fun ch w' => Ext w w' ∧ ch = panS ∧ lcrashP t = none) rfl (by kernel_rfl) (fun _ h => h) (fun _ _ _ _ h1 _ => h1) ?_ fun W hW => ?_
 ·rintro ch ρ' w' ⟨h1,rfl,h2⟩
  simp
  refine ⟨h1,?_⟩
  rw [h2]
 have EW : Ext w W := E0.trans (hW ▸ Ext.drew _)
 have bW := b0.ext (show Ext w0 W from hW ▸ Ext.drew _)
 simp [bW.cell 1 _ rfl,bW.cell 43 _ rfl]
 refine FN.mono (t32i_c W ht.node) ?_
 rintro _ W1 ⟨rfl,E1⟩
 have EE1 := EW.trans E1
 simp
 refine KR_ext E1 ?_
 simp
 refine FN.mono (bits_c (hk.ext EE1) hkl) ?_
 rintro _ W2 ⟨rfl,E2⟩
 have EE2 := EE1.trans E2
 simp
 have EB : Ext W2 (W2.alloc (.cells #[tv (decI t.node),tv (bitsO t.keep)] 9)) := (Ext.refl _).alloc _
 refine FN.mono (slist_c _ _) ?_
 rintro _ _ ⟨rfl,rfl⟩
 simp
 refine ⟨EE2.trans EB,?_⟩
 rw [show lcrashP t = some [decI t.node,bitsO t.keep] by simp [lcrashP]]
 exact ⟨_,rfl,Sl.made W2 [tv (decI t.node),tv (bitsO t.keep)] 9 1 2 rfl⟩
def larmP (t : Trn) : Option (List Tx) := (capI m63 t.n).bind fun x2 => some [decI t.node,x2]
set_option maxHeartbeats 4000000 in
theorem larm_c {w : World} {t : Trn} {vp vk : Value} (ht : t.Ok) (hp : SlB w 1 vp t.pay.length (t.pay.map encB)) (hk : SlB w 1 vk t.keep.length (t.keep.map Value.bool)) (hpl : t.pay.length ≤ 1000000) (hkl : t.keep.length ≤ 1000000) (hG : Gl w) : FN Tryz.prog 82 [trV t vp vk] w fun e w' => LayE w w' (larmP t) e := by
 refine FN_enter Tryz.func82 rfl rfl (by kernel_rfl) ?_
 have E0 : Ext w (w.alloc (.cells (trC t vp vk).toArray 45)) := (Ext.refl _).alloc _
 have b0 : Blk (w.alloc (.cells (trC t vp vk).toArray 45)) w.heap.size (trC t vp vk) := Blk.new w _ _
 simp
 generalize (w.alloc (.cells (trC t vp vk).toArray 45)) = w0 at *
 refine WC_drawZ 5 (.F 0 <| .F 1 <| .F 3 <| .F 4 <| .C 2 <| .Z) (fun _ => false) (fun _ => false) (fun _ _ _ => False) (fun ch w' => Ext w w' ∧ ch = panS ∧ larmP t = none) rfl (by kernel_rfl) (fun _ h => h) (fun _ _ _ _ h1 _ => h1) ?_ fun W hW => ?_
 ·rintro ch ρ' w' ⟨h1,rfl,h2⟩
  simp
  refine ⟨h1,?_⟩
  rw [h2]
 have EW : Ext w W := E0.trans (hW ▸ Ext.drew _)
 have bW := b0.ext (show Ext w0 W from hW ▸ Ext.drew _)
 simp [bW.cell 1 _ rfl,bW.cell 3 _ rfl]
 refine FN.mono (t32i_c W ht.node) ?_
 rintro _ W1 ⟨rfl,E1⟩
 have EE1 := EW.trans E1
 simp
 refine KR_ext E1 ?_
 simp
 refine FN.mono (long63i_c W1 ht.n) ?_
 rintro e2 W2 ⟨E2,p2⟩
 rcases o2 : capI m63 t.n with _ | x2
 ·rw [o2] at p2
  obtain rfl : e2 = _ := p2
  simp
  exact ⟨EE1.trans E2,by simp [larmP,o2]⟩
 rw [o2] at p2
 obtain rfl : e2 = _ := p2
 have EE2 := EE1.trans E2
 simp
 have EB : Ext W2 (W2.alloc (.cells #[tv (decI t.node),tv (x2)] 9)) := (Ext.refl _).alloc _
 refine FN.mono (slist_c _ _) ?_
 rintro _ _ ⟨rfl,rfl⟩
 simp
 refine ⟨EE2.trans EB,?_⟩
 rw [show larmP t = some [decI t.node,x2] by simp [larmP,o2]]
 exact ⟨_,rfl,Sl.made W2 [tv (decI t.node),tv (x2)] 9 1 2 rfl⟩
def laskP (t : Trn) : Option (List Tx) := (capI m32 t.n).bind fun x3 => some [decI t.node,decI t.to',x3]
set_option maxHeartbeats 4000000 in
theorem lask_c {w : World} {t : Trn} {vp vk : Value} (ht : t.Ok) (hp : SlB w 1 vp t.pay.length (t.pay.map encB)) (hk : SlB w 1 vk t.keep.length (t.keep.map Value.bool)) (hpl : t.pay.length ≤ 1000000) (hkl : t.keep.length ≤ 1000000) (hG : Gl w) : FN Tryz.prog 84 [trV t vp vk] w fun e w' => LayE w w' (laskP t) e := by
 refine FN_enter Tryz.func84 rfl rfl (by kernel_rfl) ?_
 have E0 : Ext w (w.alloc (.cells (trC t vp vk).toArray 45)) := (Ext.refl _).alloc _
 have b0 : Blk (w.alloc (.cells (trC t vp vk).toArray 45)) w.heap.size (trC t vp vk) := Blk.new w _ _
 simp
 generalize (w.alloc (.cells (trC t vp vk).toArray 45)) = w0 at *
 refine WC_drawZ 8 (.F 0 <| .F 1 <| .F 3 <| .F 4 <| .F 6 <| .F 7 <| .C 2 <| .C 5 <| .Z) (fun _ => false) (fun _ => false) (fun _ _ _ => False) (fun ch w' => Ext w w' ∧ ch = panS ∧ laskP t = none) rfl (by kernel_rfl) (fun _ h => h) (fun _ _ _ _ h1 _ => h1) ?_ fun W hW => ?_
 ·rintro ch ρ' w' ⟨h1,rfl,h2⟩
  simp
  refine ⟨h1,?_⟩
  rw [h2]
 have EW : Ext w W := E0.trans (hW ▸ Ext.drew _)
 have bW := b0.ext (show Ext w0 W from hW ▸ Ext.drew _)
 simp [bW.cell 1 _ rfl,bW.cell 2 _ rfl,bW.cell 3 _ rfl]
 refine FN.mono (t32i_c W ht.node) ?_
 rintro _ W1 ⟨rfl,E1⟩
 have EE1 := EW.trans E1
 simp
 refine KR_ext E1 ?_
 simp
 refine FN.mono (t32i_c W1 ht.to') ?_
 rintro _ W2 ⟨rfl,E2⟩
 have EE2 := EE1.trans E2
 simp
 refine KR_ext E2 ?_
 simp
 refine FN.mono (node32i_c W2 ht.n) ?_
 rintro e3 W3 ⟨E3,p3⟩
 rcases o3 : capI m32 t.n with _ | x3
 ·rw [o3] at p3
  obtain rfl : e3 = _ := p3
  simp
  exact ⟨EE2.trans E3,by simp [laskP,o3]⟩
 rw [o3] at p3
 obtain rfl : e3 = _ := p3
 have EE3 := EE2.trans E3
 simp
 have EB : Ext W3 (W3.alloc (.cells #[tv (decI t.node),tv (decI t.to'),tv (x3)] 9)) := (Ext.refl _).alloc _
 refine FN.mono (slist_c _ _) ?_
 rintro _ _ ⟨rfl,rfl⟩
 simp
 refine ⟨EE3.trans EB,?_⟩
 rw [show laskP t = some [decI t.node,decI t.to',x3] by simp [laskP,o3]]
 exact ⟨_,rfl,Sl.made W3 [tv (decI t.node),tv (decI t.to'),tv (x3)] 9 1 3 rfl⟩
def lsendP (t : Trn) : Option (List Tx) := (pointI t.lton t.ltos).bind fun x3 => (pointI t.lren t.lres).bind fun x5 => (capI m63 t.life).bind fun x6 => some [decI t.node,decI t.lsvc,x3,decI t.lflg,x5,x6,decI t.lim,hexO t.pay]
set_option maxHeartbeats 4000000 in
theorem lsend_c {w : World} {t : Trn} {vp vk : Value} (ht : t.Ok) (hp : SlB w 1 vp t.pay.length (t.pay.map encB)) (hk : SlB w 1 vk t.keep.length (t.keep.map Value.bool)) (hpl : t.pay.length ≤ 1000000) (hkl : t.keep.length ≤ 1000000) (hG : Gl w) : FN Tryz.prog 114 [trV t vp vk] w fun e w' => LayE w w' (lsendP t) e := by
 refine FN_enter Tryz.func114 rfl rfl (by kernel_rfl) ?_
 have E0 : Ext w (w.alloc (.cells (trC t vp vk).toArray 45)) := (Ext.refl _).alloc _
 have b0 : Blk (w.alloc (.cells (trC t vp vk).toArray 45)) w.heap.size (trC t vp vk) := Blk.new w _ _
 have z0 : (w.alloc (.cells (trC t vp vk).toArray 45)).heap.size = w.heap.size + 1 := by simp
 simp
 generalize (w.alloc (.cells (trC t vp vk).toArray 45)) = w0 at *
 have L0 : Blk (w0.alloc (.cells #[u32 t.lton,u32 t.ltos,u32 t.lsvc,u32 t.lflg,u32 t.lren,u32 t.lres,u64 t.life,u8 t.lim,vp] 29)) w0.heap.size [u32 t.lton,u32 t.ltos,u32 t.lsvc,u32 t.lflg,u32 t.lren,u32 t.lres,u64 t.life,u8 t.lim,vp] := Blk.new w0 _ _
 have hvp : oneV vp = true := by obtain ⟨_,_,rfl⟩ := hp.isSlice; rfl
 rw [z0] at L0
 have hfr : w0.frozen? ⟨w.heap.size + 1,8,none⟩ = false := by rw [← z0]; simp
 have hce : w0.cell? ⟨w.heap.size + 1,8,none⟩ = none := by rw [← z0]; simp
 have hst := fun (p : Addr) (W : World) => run_store_sto Tryz.prog W p vp hvp
 have E0' : Ext w (w0.alloc (.cells #[u32 t.lton,u32 t.ltos,u32 t.lsvc,u32 t.lflg,u32 t.lren,u32 t.lres,u64 t.life,u8 t.lim,vp] 29)) := E0.alloc _
 have b0' := b0.ext ((Ext.refl w0).alloc (.cells #[u32 t.lton,u32 t.ltos,u32 t.lsvc,u32 t.lflg,u32 t.lren,u32 t.lres,u64 t.life,u8 t.lim,vp] 29))
 simp [z0,hst,hfr,hce]
 generalize (w0.alloc (.cells #[u32 t.lton,u32 t.ltos,u32 t.lsvc,u32 t.lflg,u32 t.lren,u32 t.lres,u64 t.life,u8 t.lim,vp] 29)) = w0' at *
 refine WC_drawZ 23 (.F 0 <| .F 1 <| .F 3 <| .F 4 <| .F 6 <| .F 7 <| .F 9 <| .F 10 <| .F 12 <| .F 13 <| .F 15 <| .F 16 <| .F 18 <| .F 19 <| .F 21 <| .F 22 <| .C 2 <| .C 5 <| .C 8 <| .C 11 <| .C 14 <| .C 17 <| .C 20 <| .Z) (fun _ => false) (fun _ => false) (fun _ _ _ => False) (fun ch w' => Ext w w' ∧ ch = panS ∧ lsendP t = none) rfl (by kernel_rfl) (fun _ h => h) (fun _ _ _ _ h1 _ => h1) ?_ fun W hW => ?_
 ·rintro ch ρ' w' ⟨h1,rfl,h2⟩
  simp
  refine ⟨h1,?_⟩
  rw [h2]
 have EW : Ext w W := E0'.trans (hW ▸ Ext.drew _)
 have bW := b0'.ext (show Ext w0' W from hW ▸ Ext.drew _)
 have LW := L0.ext (show Ext w0' W from hW ▸ Ext.drew _)
 simp [bW.cell 1 _ rfl,LW.cell 0 _ rfl,LW.cell 1 _ rfl,LW.cell 2 _ rfl,LW.cell 3 _ rfl,LW.cell 4 _ rfl,LW.cell 5 _ rfl,LW.cell 6 _ rfl,LW.cell 7 _ rfl,LW.cell 8 _ rfl]
 refine FN.mono (t32i_c W ht.node) ?_
 rintro _ W1 ⟨rfl,E1⟩
 have EE1 := EW.trans E1
 simp
 refine KR_ext E1 ?_
 simp
 refine FN.mono (t32i_c W1 ht.lsvc) ?_
 rintro _ W2 ⟨rfl,E2⟩
 have EE2 := EE1.trans E2
 simp
 refine KR_ext E2 ?_
 simp
 refine FN.mono (pointI_c ht.lton ht.ltos (hG.ext EE2)) ?_
 rintro e3 W3 ⟨E3,p3⟩
 rcases o3 : pointI t.lton t.ltos with _ | x3
 ·rw [o3] at p3
  obtain rfl : e3 = _ := p3
  simp
  exact ⟨EE2.trans E3,by simp [lsendP,o3]⟩
 rw [o3] at p3
 obtain rfl : e3 = _ := p3
 have EE3 := EE2.trans E3
 simp
 refine KR_ext E3 ?_
 simp
 refine FN.mono (t32i_c W3 ht.lflg) ?_
 rintro _ W4 ⟨rfl,E4⟩
 have EE4 := EE3.trans E4
 simp
 refine KR_ext E4 ?_
 simp
 refine FN.mono (pointI_c ht.lren ht.lres (hG.ext EE4)) ?_
 rintro e5 W5 ⟨E5,p5⟩
 rcases o5 : pointI t.lren t.lres with _ | x5
 ·rw [o5] at p5
  obtain rfl : e5 = _ := p5
  simp
  exact ⟨EE4.trans E5,by simp [lsendP,o3,o5]⟩
 rw [o5] at p5
 obtain rfl : e5 = _ := p5
 have EE5 := EE4.trans E5
 simp
 refine KR_ext E5 ?_
 simp
 refine FN.mono (long63i_c W5 ht.life) ?_
 rintro e6 W6 ⟨E6,p6⟩
 rcases o6 : capI m63 t.life with _ | x6
 ·rw [o6] at p6
  obtain rfl : e6 = _ := p6
  simp
  exact ⟨EE5.trans E6,by simp [lsendP,o3,o5,o6]⟩
 rw [o6] at p6
 obtain rfl : e6 = _ := p6
 have EE6 := EE5.trans E6
 simp
 refine KR_ext E6 ?_
 simp
 refine FN.mono (t8i_c W6 ht.lim) ?_
 rintro _ W7 ⟨rfl,E7⟩
 have EE7 := EE6.trans E7
 simp
 refine KR_ext E7 ?_
 simp
 refine FN.mono (hex_c (hp.ext EE7) hpl) ?_
 rintro _ W8 ⟨rfl,E8⟩
 have EE8 := EE7.trans E8
 simp
 have EB : Ext W8 (W8.alloc (.cells #[tv (decI t.node),tv (decI t.lsvc),tv (x3),tv (decI t.lflg),tv (x5),tv (x6),tv (decI t.lim),tv (hexO t.pay)] 9)) := (Ext.refl _).alloc _
 refine FN.mono (slist_c _ _) ?_
 rintro _ _ ⟨rfl,rfl⟩
 simp
 refine ⟨EE8.trans EB,?_⟩
 rw [show lsendP t = some [decI t.node,decI t.lsvc,x3,decI t.lflg,x5,x6,decI t.lim,hexO t.pay] by simp [lsendP,o3,o5,o6]]
 exact ⟨_,rfl,Sl.made W8 [tv (decI t.node),tv (decI t.lsvc),tv (x3),tv (decI t.lflg),tv (x5),tv (x6),tv (decI t.lim),tv (hexO t.pay)] 9 1 8 rfl⟩
def lmemberP (t : Trn) : Option (List Tx) := some [decI t.node,decI t.mn,decI t.mr,decI t.me,ioT t.mi]
set_option maxHeartbeats 4000000 in
theorem lmember_c {w : World} {t : Trn} {vp vk : Value} (ht : t.Ok) (hp : SlB w 1 vp t.pay.length (t.pay.map encB)) (hk : SlB w 1 vk t.keep.length (t.keep.map Value.bool)) (hpl : t.pay.length ≤ 1000000) (hkl : t.keep.length ≤ 1000000) (hG : Gl w) : FN Tryz.prog 120 [trV t vp vk] w fun e w' => LayE w w' (lmemberP t) e := by
 refine FN_enter Tryz.func120 rfl rfl (by kernel_rfl) ?_
 have E0 : Ext w (w.alloc (.cells (trC t vp vk).toArray 45)) := (Ext.refl _).alloc _
 have b0 : Blk (w.alloc (.cells (trC t vp vk).toArray 45)) w.heap.size (trC t vp vk) := Blk.new w _ _
 have z0 : (w.alloc (.cells (trC t vp vk).toArray 45)).heap.size = w.heap.size + 1 := by simp
 simp
 generalize (w.alloc (.cells (trC t vp vk).toArray 45)) = w0 at *
 by_cases hmi : t.mi = true
 ·have L0 : Blk (w0.alloc (.cells #[u32 t.mn,u32 t.mr,u32 t.me,.bool true] 37)) w0.heap.size [u32 t.mn,u32 t.mr,u32 t.me,.bool true] := Blk.new w0 _ _
  have z00 := E0.size
  rw [z0] at L0
  have E0' : Ext w (w0.alloc (.cells #[u32 t.mn,u32 t.mr,u32 t.me,.bool true] 37)) := E0.alloc _
  have b0' := b0.ext ((Ext.refl w0).alloc (.cells #[u32 t.mn,u32 t.mr,u32 t.me,.bool true] 37))
  simp [hmi]
  generalize (w0.alloc (.cells #[u32 t.mn,u32 t.mr,u32 t.me,.bool true] 37)) = w0' at *
  refine WC_drawZ 13 (.F 0 <| .F 1 <| .F 3 <| .F 4 <| .F 6 <| .F 7 <| .F 9 <| .F 10 <| .F 12 <| .C 2 <| .C 5 <| .C 8 <| .C 11 <| .Z) (fun _ => false) (fun _ => false) (fun _ _ _ => False) (fun ch w' => Ext w w' ∧ ch = panS ∧ lmemberP t = none) rfl (by kernel_rfl) (fun _ h => h) (fun _ _ _ _ h1 _ => h1) ?_ fun W hW => ?_
  ·rintro ch ρ' w' ⟨h1,rfl,h2⟩
   simp
   refine ⟨h1,?_⟩
   rw [h2]
  have EW : Ext w W := E0'.trans (hW ▸ Ext.drew _)
  have bW := b0'.ext (show Ext w0' W from hW ▸ Ext.drew _)
  have LW := L0.ext (show Ext w0' W from hW ▸ Ext.drew _)
  simp [bW.cell 1 _ rfl,LW.cell 0 _ rfl,LW.cell 1 _ rfl,LW.cell 2 _ rfl]
  refine FN.mono (t32i_c W ht.node) ?_
  rintro _ W1 ⟨rfl,E1⟩
  have EE1 := EW.trans E1
  simp
  refine KR_ext E1 ?_
  simp
  refine FN.mono (t32i_c W1 ht.mn) ?_
  rintro _ W2 ⟨rfl,E2⟩
  have EE2 := EE1.trans E2
  simp
  refine KR_ext E2 ?_
  simp
  refine FN.mono (t32i_c W2 ht.mr) ?_
  rintro _ W3 ⟨rfl,E3⟩
  have EE3 := EE2.trans E3
  simp
  refine KR_ext E3 ?_
  simp
  refine FN.mono (t32i_c W3 ht.me) ?_
  rintro _ W4 ⟨rfl,E4⟩
  have EE4 := EE3.trans E4
  simp
  refine KR_ext E4 ?_
  simp
  have EB : Ext W4 (W4.alloc (.cells #[tv (decI t.node),tv (decI t.mn),tv (decI t.mr),tv (decI t.me),tv [105,110]] 9)) := (Ext.refl _).alloc _
  refine FN.mono (slist_c _ _) ?_
  rintro _ _ ⟨rfl,rfl⟩
  simp
  refine ⟨EE4.trans EB,?_⟩
  rw [show lmemberP t = some [decI t.node,decI t.mn,decI t.mr,decI t.me,[105,110]] by simp [lmemberP,ioT,hmi]]
  exact ⟨_,rfl,Sl.made W4 [tv (decI t.node),tv (decI t.mn),tv (decI t.mr),tv (decI t.me),tv [105,110]] 9 1 5 rfl⟩
 ·have L0 : Blk (w0.alloc (.cells #[u32 t.mn,u32 t.mr,u32 t.me,.bool false] 37)) w0.heap.size [u32 t.mn,u32 t.mr,u32 t.me,.bool false] := Blk.new w0 _ _
  have z00 := E0.size
  rw [z0] at L0
  have E0' : Ext w (w0.alloc (.cells #[u32 t.mn,u32 t.mr,u32 t.me,.bool false] 37)) := E0.alloc _
  have b0' := b0.ext ((Ext.refl w0).alloc (.cells #[u32 t.mn,u32 t.mr,u32 t.me,.bool false] 37))
  simp [hmi]
  generalize (w0.alloc (.cells #[u32 t.mn,u32 t.mr,u32 t.me,.bool false] 37)) = w0' at *
  refine WC_drawZ 13 (.F 0 <| .F 1 <| .F 3 <| .F 4 <| .F 6 <| .F 7 <| .F 9 <| .F 10 <| .F 12 <| .C 2 <| .C 5 <| .C 8 <| .C 11 <| .Z) (fun _ => false) (fun _ => false) (fun _ _ _ => False) (fun ch w' => Ext w w' ∧ ch = panS ∧ lmemberP t = none) rfl (by kernel_rfl) (fun _ h => h) (fun _ _ _ _ h1 _ => h1) ?_ fun W hW => ?_
  ·rintro ch ρ' w' ⟨h1,rfl,h2⟩
   simp
   refine ⟨h1,?_⟩
   rw [h2]
  have EW : Ext w W := E0'.trans (hW ▸ Ext.drew _)
  have bW := b0'.ext (show Ext w0' W from hW ▸ Ext.drew _)
  have LW := L0.ext (show Ext w0' W from hW ▸ Ext.drew _)
  simp [bW.cell 1 _ rfl,LW.cell 0 _ rfl,LW.cell 1 _ rfl,LW.cell 2 _ rfl]
  refine FN.mono (t32i_c W ht.node) ?_
  rintro _ W1 ⟨rfl,E1⟩
  have EE1 := EW.trans E1
  simp
  refine KR_ext E1 ?_
  simp
  refine FN.mono (t32i_c W1 ht.mn) ?_
  rintro _ W2 ⟨rfl,E2⟩
  have EE2 := EE1.trans E2
  simp
  refine KR_ext E2 ?_
  simp
  refine FN.mono (t32i_c W2 ht.mr) ?_
  rintro _ W3 ⟨rfl,E3⟩
  have EE3 := EE2.trans E3
  simp
  refine KR_ext E3 ?_
  simp
  refine FN.mono (t32i_c W3 ht.me) ?_
  rintro _ W4 ⟨rfl,E4⟩
  have EE4 := EE3.trans E4
  simp
  refine KR_ext E4 ?_
  simp
  have EB : Ext W4 (W4.alloc (.cells #[tv (decI t.node),tv (decI t.mn),tv (decI t.mr),tv (decI t.me),tv [111,117,116]] 9)) := (Ext.refl _).alloc _
  refine FN.mono (slist_c _ _) ?_
  rintro _ _ ⟨rfl,rfl⟩
  simp
  refine ⟨EE4.trans EB,?_⟩
  rw [show lmemberP t = some [decI t.node,decI t.mn,decI t.mr,decI t.me,[111,117,116]] by simp [lmemberP,ioT,hmi]]
  exact ⟨_,rfl,Sl.made W4 [tv (decI t.node),tv (decI t.mn),tv (decI t.mr),tv (decI t.me),tv [111,117,116]] 9 1 5 rfl⟩
end Go.Proofs