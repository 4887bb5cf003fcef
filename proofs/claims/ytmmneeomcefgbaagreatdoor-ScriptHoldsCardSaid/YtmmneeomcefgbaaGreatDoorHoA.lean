/-
 Contracts of the functions that the law reaches,step by step.
-/
import Derived.Test.YtmmneeomcefgbaaGreatDoorScP
import Derived.Test.YtmmneeomcefgbaaGreatDoorAgM
namespace Go.Proofs
open Pk
set_option maxRecDepth 100000
attribute [local simp] beq_dec bne_dec
def toB (l : List Int) : List UInt8 := l.map fun x => UInt8.ofNat x.toNat
theorem toB_enc {l : List Int} (h : ∀ x ∈ l, 0 ≤ x ∧ x ≤ 255) : (toB l).map encB = l.map u8 := by
 unfold toB
 rw [List.map_map]
 refine List.map_congr_left fun x hx => ?_
 have := h x hx
 show Value.int .u8 ((UInt8.ofNat x.toNat).toNat : Int) = Value.int .u8 x
 rw [UInt8.toNat_ofNat']
 congr 1
 omega
theorem toB_len (l : List Int) : (toB l).length = l.length := by simp [toB]
def tellP (t : Trn) : Option (List Tx) := if rightE t.r = 0 then some [decI t.node,decI t.to',hexO (toB (bytesR t.r))] else none
set_option maxHeartbeats 4000000 in
theorem ltell_c {w : World} {t : Trn} {vp vk : Value} (ht : t.Ok) (hr : RecOk t.r) : FN Tryz.prog 122 [trV t vp vk] w fun e w' => LayE w w' (tellP t) e := by
 refine FN_enter Tryz.func122 rfl rfl (by kernel_rfl) ?_
 have E0 : Ext w (w.alloc (.cells (trC t vp vk).toArray 45)) := (Ext.refl _).alloc _
 have b0 : Blk (w.alloc (.cells (trC t vp vk).toArray 45)) w.heap.size (trC t vp vk) := Blk.new w _ _
 simp
 generalize (w.alloc (.cells (trC t vp vk).toArray 45)) = w0 at *
 refine FN.mono (aencode_c hr w0) ?_
 rintro e1 w1 hN
 have b1 := b0.ext hN.ext
 have D1 := E0.trans hN.ext
 by_cases h0 : rightE t.r = 0
 ·obtain ⟨v1,rfl,hv1⟩ := hN.ok h0
  obtain ⟨a1,c1,rfl⟩ := hv1.isSlice
  simp
  refine FN.mono (smust_t w1) ?_
  rintro _ w2 ⟨⟨u,rfl⟩,rfl⟩
  simp
  refine WC_drawC 7 (.F 0 <| .F 1 <| .F 3 <| .F 4 <| .F 6 <| .C 2 <| .C 5 <| .Z) (fun _ => false) rfl (by kernel_rfl) fun W hW => ?_
  have EW : Ext w2 W := hW ▸ Ext.drew _
  have bW := b1.ext EW
  simp [bW.cell 1 _ rfl,bW.cell 2 _ rfl]
  refine FN.mono (t32i_c W ht.node) ?_
  rintro _ W1 ⟨rfl,E1⟩
  simp
  refine KR_ext E1 ?_
  simp
  refine FN.mono (t32i_c W1 ht.to') ?_
  rintro _ W2 ⟨rfl,E2⟩
  simp
  refine KR_ext E2 ?_
  simp
  have DD := D1.trans (EW.trans (E1.trans E2))
  have hs := hv1.ext (EW.trans (E1.trans E2))
  obtain ⟨hrd,hbl⟩ := itemR_rdy hr h0
  have hs' : Sl W2 1 (.slice a1 (bytesR t.r).length c1) (toB (bytesR t.r)).length ((toB (bytesR t.r)).map encB) := by
   rw [toB_len,show (toB (bytesR t.r)).map encB = (bytesR t.r).map u8 from toB_enc hrd.bytes]; exact hs
  refine FN.mono (hex_c hs'.toB (by rw [toB_len]; omega)) ?_
  rintro _ W3 ⟨rfl,E3⟩
  have DD3 := DD.trans E3
  simp
  have EB : Ext W3 (W3.alloc (.cells #[tv (decI t.node),tv (decI t.to'),tv (hexO (toB (bytesR t.r)))] 9)) := (Ext.refl _).alloc _
  refine FN.mono (slist_c _ _) ?_
  rintro _ _ ⟨rfl,rfl⟩
  simp
  refine ⟨DD3.trans EB,?_⟩
  rw [show tellP t = some [decI t.node,decI t.to',hexO (toB (bytesR t.r))] by simp [tellP,h0]]
  exact ⟨_,rfl,Sl.made W3 [tv (decI t.node),tv (decI t.to'),tv (hexO (toB (bytesR t.r)))] 9 1 3 rfl⟩
 ·rw [hN.no h0] at *
  simp
  refine FN.mono (smust_f w1) ?_
  rintro _ w2 ⟨rfl,rfl⟩
  simp
  refine ⟨D1,?_⟩
  simp only [tellP,if_neg h0]
noncomputable def tellR (t : Trn) (l : List Tx) : Option (Trn × List Tx) := (nodeQ l).bind fun x1 => (nodeQ x1.2).bind fun x2 => (octQ x2.2).bind fun x3 => if (decRec (x3.1.map fun c => (c.toNat : Int))).2 = 0 then some ({ t with node := ((x1.1 : Nat) : Int),to' := ((x2.1 : Nat) : Int),r := (decRec (x3.1.map fun c => (c.toNat : Int))).1 },x3.2) else none
theorem set15m (W : World) (tb : Nat) (R : Rec) : Mod (fun k => k = tb) W (((((((((((((((W.setCell ⟨tb, 28, none⟩ (i64 R.kind)).setCell ⟨tb, 29, none⟩ (u32 R.nn)).setCell ⟨tb, 30, none⟩ (u32 R.ns)).setCell ⟨tb, 31, none⟩ (u64 R.nt)).setCell ⟨tb, 32, none⟩ (u32 R.nq)).setCell ⟨tb, 33, none⟩ (i64 R.what)).setCell ⟨tb, 34, none⟩ (i64 R.why)).setCell ⟨tb, 35, none⟩ (u64 R.at')).setCell ⟨tb, 36, none⟩ (u64 R.num)).setCell ⟨tb, 37, none⟩ (u32 R.node)).setCell ⟨tb, 38, none⟩ (u32 R.reg)).setCell ⟨tb, 39, none⟩ (.bool R.yes)).setCell ⟨tb, 40, none⟩ (u64 R.fro)).setCell ⟨tb, 41, none⟩ (u64 R.til)).setCell ⟨tb, 42, none⟩ (u8 R.lev)) :=
 (((((((((((((((Mod.refl _ _).setC 28 _).setC 29 _).setC 30 _).setC 31 _).setC 32 _).setC 33 _).setC 34 _).setC 35 _).setC 36 _).setC 37 _).setC 38 _).setC 39 _).setC 40 _).setC 41 _).setC 42 _
set_option maxHeartbeats 4000000 in
theorem set15 {W : World} {tb : Nat} {t : Trn} {vp vk : Value} (T : Blk W tb (trC t vp vk)) (R : Rec) : Blk (((((((((((((((W.setCell ⟨tb, 28, none⟩ (i64 R.kind)).setCell ⟨tb, 29, none⟩ (u32 R.nn)).setCell ⟨tb, 30, none⟩ (u32 R.ns)).setCell ⟨tb, 31, none⟩ (u64 R.nt)).setCell ⟨tb, 32, none⟩ (u32 R.nq)).setCell ⟨tb, 33, none⟩ (i64 R.what)).setCell ⟨tb, 34, none⟩ (i64 R.why)).setCell ⟨tb, 35, none⟩ (u64 R.at')).setCell ⟨tb, 36, none⟩ (u64 R.num)).setCell ⟨tb, 37, none⟩ (u32 R.node)).setCell ⟨tb, 38, none⟩ (u32 R.reg)).setCell ⟨tb, 39, none⟩ (.bool R.yes)).setCell ⟨tb, 40, none⟩ (u64 R.fro)).setCell ⟨tb, 41, none⟩ (u64 R.til)).setCell ⟨tb, 42, none⟩ (u8 R.lev)) tb (trC { t with r := R } vp vk) := by
 have T1 : Blk (W.setCell ⟨tb,28,none⟩ (i64 R.kind)) tb (trC { t with r := { t.r with kind := R.kind } } vp vk) := T.set 28 (i64 R.kind)
 have T2 : Blk ((W.setCell ⟨tb,28,none⟩ (i64 R.kind)).setCell ⟨tb,29,none⟩ (u32 R.nn)) tb (trC { t with r := { t.r with kind := R.kind,nn := R.nn } } vp vk) := T1.set 29 (u32 R.nn)
 have T3 : Blk (((W.setCell ⟨tb,28,none⟩ (i64 R.kind)).setCell ⟨tb,29,none⟩ (u32 R.nn)).setCell ⟨tb,30,none⟩ (u32 R.ns)) tb (trC { t with r := { t.r with kind := R.kind,nn := R.nn,ns := R.ns } } vp vk) := T2.set 30 (u32 R.ns)
 have T4 : Blk ((((W.setCell ⟨tb,28,none⟩ (i64 R.kind)).setCell ⟨tb,29,none⟩ (u32 R.nn)).setCell ⟨tb,30,none⟩ (u32 R.ns)).setCell ⟨tb,31,none⟩ (u64 R.nt)) tb (trC { t with r := { t.r with kind := R.kind,nn := R.nn,ns := R.ns,nt := R.nt } } vp vk) := T3.set 31 (u64 R.nt)
 have T5 : Blk (((((W.setCell ⟨tb,28,none⟩ (i64 R.kind)).setCell ⟨tb,29,none⟩ (u32 R.nn)).setCell ⟨tb,30,none⟩ (u32 R.ns)).setCell ⟨tb,31,none⟩ (u64 R.nt)).setCell ⟨tb,32,none⟩ (u32 R.nq)) tb (trC { t with r := { t.r with kind := R.kind,nn := R.nn,ns := R.ns,nt := R.nt,nq := R.nq } } vp vk) := T4.set 32 (u32 R.nq)
 have T6 : Blk ((((((W.setCell ⟨tb,28,none⟩ (i64 R.kind)).setCell ⟨tb,29,none⟩ (u32 R.nn)).setCell ⟨tb,30,none⟩ (u32 R.ns)).setCell ⟨tb,31,none⟩ (u64 R.nt)).setCell ⟨tb,32,none⟩ (u32 R.nq)).setCell ⟨tb,33,none⟩ (i64 R.what)) tb (trC { t with r := { t.r with kind := R.kind,nn := R.nn,ns := R.ns,nt := R.nt,nq := R.nq,what := R.what } } vp vk) := T5.set 33 (i64 R.what)
 have T7 : Blk (((((((W.setCell ⟨tb,28,none⟩ (i64 R.kind)).setCell ⟨tb,29,none⟩ (u32 R.nn)).setCell ⟨tb,30,none⟩ (u32 R.ns)).setCell ⟨tb,31,none⟩ (u64 R.nt)).setCell ⟨tb,32,none⟩ (u32 R.nq)).setCell ⟨tb,33,none⟩ (i64 R.what)).setCell ⟨tb,34,none⟩ (i64 R.why)) tb (trC { t with r := { t.r with kind := R.kind,nn := R.nn,ns := R.ns,nt := R.nt,nq := R.nq,what := R.what,why := R.why } } vp vk) := T6.set 34 (i64 R.why)
 have T8 : Blk ((((((((W.setCell ⟨tb,28,none⟩ (i64 R.kind)).setCell ⟨tb,29,none⟩ (u32 R.nn)).setCell ⟨tb,30,none⟩ (u32 R.ns)).setCell ⟨tb,31,none⟩ (u64 R.nt)).setCell ⟨tb,32,none⟩ (u32 R.nq)).setCell ⟨tb,33,none⟩ (i64 R.what)).setCell ⟨tb,34,none⟩ (i64 R.why)).setCell ⟨tb,35,none⟩ (u64 R.at')) tb (trC { t with r := { t.r with kind := R.kind,nn := R.nn,ns := R.ns,nt := R.nt,nq := R.nq,what := R.what,why := R.why,at' := R.at' } } vp vk) := T7.set 35 (u64 R.at')
 have T9 : Blk (((((((((W.setCell ⟨tb,28,none⟩ (i64 R.kind)).setCell ⟨tb,29,none⟩ (u32 R.nn)).setCell ⟨tb,30,none⟩ (u32 R.ns)).setCell ⟨tb,31,none⟩ (u64 R.nt)).setCell ⟨tb,32,none⟩ (u32 R.nq)).setCell ⟨tb,33,none⟩ (i64 R.what)).setCell ⟨tb,34,none⟩ (i64 R.why)).setCell ⟨tb,35,none⟩ (u64 R.at')).setCell ⟨tb,36,none⟩ (u64 R.num)) tb (trC { t with r := { t.r with kind := R.kind,nn := R.nn,ns := R.ns,nt := R.nt,nq := R.nq,what := R.what,why := R.why,at' := R.at',num := R.num } } vp vk) := T8.set 36 (u64 R.num)
 have T10 : Blk ((((((((((W.setCell ⟨tb,28,none⟩ (i64 R.kind)).setCell ⟨tb,29,none⟩ (u32 R.nn)).setCell ⟨tb,30,none⟩ (u32 R.ns)).setCell ⟨tb,31,none⟩ (u64 R.nt)).setCell ⟨tb,32,none⟩ (u32 R.nq)).setCell ⟨tb,33,none⟩ (i64 R.what)).setCell ⟨tb,34,none⟩ (i64 R.why)).setCell ⟨tb,35,none⟩ (u64 R.at')).setCell ⟨tb,36,none⟩ (u64 R.num)).setCell ⟨tb,37,none⟩ (u32 R.node)) tb (trC { t with r := { t.r with kind := R.kind,nn := R.nn,ns := R.ns,nt := R.nt,nq := R.nq,what := R.what,why := R.why,at' := R.at',num := R.num,node := R.node } } vp vk) := T9.set 37 (u32 R.node)
 have T11 : Blk (((((((((((W.setCell ⟨tb,28,none⟩ (i64 R.kind)).setCell ⟨tb,29,none⟩ (u32 R.nn)).setCell ⟨tb,30,none⟩ (u32 R.ns)).setCell ⟨tb,31,none⟩ (u64 R.nt)).setCell ⟨tb,32,none⟩ (u32 R.nq)).setCell ⟨tb,33,none⟩ (i64 R.what)).setCell ⟨tb,34,none⟩ (i64 R.why)).setCell ⟨tb,35,none⟩ (u64 R.at')).setCell ⟨tb,36,none⟩ (u64 R.num)).setCell ⟨tb,37,none⟩ (u32 R.node)).setCell ⟨tb,38,none⟩ (u32 R.reg)) tb (trC { t with r := { t.r with kind := R.kind,nn := R.nn,ns := R.ns,nt := R.nt,nq := R.nq,what := R.what,why := R.why,at' := R.at',num := R.num,node := R.node,reg := R.reg } } vp vk) := T10.set 38 (u32 R.reg)
 have T12 : Blk ((((((((((((W.setCell ⟨tb,28,none⟩ (i64 R.kind)).setCell ⟨tb,29,none⟩ (u32 R.nn)).setCell ⟨tb,30,none⟩ (u32 R.ns)).setCell ⟨tb,31,none⟩ (u64 R.nt)).setCell ⟨tb,32,none⟩ (u32 R.nq)).setCell ⟨tb,33,none⟩ (i64 R.what)).setCell ⟨tb,34,none⟩ (i64 R.why)).setCell ⟨tb,35,none⟩ (u64 R.at')).setCell ⟨tb,36,none⟩ (u64 R.num)).setCell ⟨tb,37,none⟩ (u32 R.node)).setCell ⟨tb,38,none⟩ (u32 R.reg)).setCell ⟨tb,39,none⟩ (.bool R.yes)) tb (trC { t with r := { t.r with kind := R.kind,nn := R.nn,ns := R.ns,nt := R.nt,nq := R.nq,what := R.what,why := R.why,at' := R.at',num := R.num,node := R.node,reg := R.reg,yes := R.yes } } vp vk) := T11.set 39 (.bool R.yes)
 have T13 : Blk (((((((((((((W.setCell ⟨tb,28,none⟩ (i64 R.kind)).setCell ⟨tb,29,none⟩ (u32 R.nn)).setCell ⟨tb,30,none⟩ (u32 R.ns)).setCell ⟨tb,31,none⟩ (u64 R.nt)).setCell ⟨tb,32,none⟩ (u32 R.nq)).setCell ⟨tb,33,none⟩ (i64 R.what)).setCell ⟨tb,34,none⟩ (i64 R.why)).setCell ⟨tb,35,none⟩ (u64 R.at')).setCell ⟨tb,36,none⟩ (u64 R.num)).setCell ⟨tb,37,none⟩ (u32 R.node)).setCell ⟨tb,38,none⟩ (u32 R.reg)).setCell ⟨tb,39,none⟩ (.bool R.yes)).setCell ⟨tb,40,none⟩ (u64 R.fro)) tb (trC { t with r := { t.r with kind := R.kind,nn := R.nn,ns := R.ns,nt := R.nt,nq := R.nq,what := R.what,why := R.why,at' := R.at',num := R.num,node := R.node,reg := R.reg,yes := R.yes,fro := R.fro } } vp vk) := T12.set 40 (u64 R.fro)
 have T14 : Blk ((((((((((((((W.setCell ⟨tb,28,none⟩ (i64 R.kind)).setCell ⟨tb,29,none⟩ (u32 R.nn)).setCell ⟨tb,30,none⟩ (u32 R.ns)).setCell ⟨tb,31,none⟩ (u64 R.nt)).setCell ⟨tb,32,none⟩ (u32 R.nq)).setCell ⟨tb,33,none⟩ (i64 R.what)).setCell ⟨tb,34,none⟩ (i64 R.why)).setCell ⟨tb,35,none⟩ (u64 R.at')).setCell ⟨tb,36,none⟩ (u64 R.num)).setCell ⟨tb,37,none⟩ (u32 R.node)).setCell ⟨tb,38,none⟩ (u32 R.reg)).setCell ⟨tb,39,none⟩ (.bool R.yes)).setCell ⟨tb,40,none⟩ (u64 R.fro)).setCell ⟨tb,41,none⟩ (u64 R.til)) tb (trC { t with r := { t.r with kind := R.kind,nn := R.nn,ns := R.ns,nt := R.nt,nq := R.nq,what := R.what,why := R.why,at' := R.at',num := R.num,node := R.node,reg := R.reg,yes := R.yes,fro := R.fro,til := R.til } } vp vk) := T13.set 41 (u64 R.til)
 have T15 : Blk (((((((((((((((W.setCell ⟨tb,28,none⟩ (i64 R.kind)).setCell ⟨tb,29,none⟩ (u32 R.nn)).setCell ⟨tb,30,none⟩ (u32 R.ns)).setCell ⟨tb,31,none⟩ (u64 R.nt)).setCell ⟨tb,32,none⟩ (u32 R.nq)).setCell ⟨tb,33,none⟩ (i64 R.what)).setCell ⟨tb,34,none⟩ (i64 R.why)).setCell ⟨tb,35,none⟩ (u64 R.at')).setCell ⟨tb,36,none⟩ (u64 R.num)).setCell ⟨tb,37,none⟩ (u32 R.node)).setCell ⟨tb,38,none⟩ (u32 R.reg)).setCell ⟨tb,39,none⟩ (.bool R.yes)).setCell ⟨tb,40,none⟩ (u64 R.fro)).setCell ⟨tb,41,none⟩ (u64 R.til)).setCell ⟨tb,42,none⟩ (u8 R.lev)) tb (trC { t with r := { t.r with kind := R.kind,nn := R.nn,ns := R.ns,nt := R.nt,nq := R.nq,what := R.what,why := R.why,at' := R.at',num := R.num,node := R.node,reg := R.reg,yes := R.yes,fro := R.fro,til := R.til,lev := R.lev } } vp vk) := T14.set 42 (u8 R.lev)
 exact T15
theorem nb_ok (x : List UInt8) : ∀ c ∈ x.map fun c => (c.toNat : Int), 0 ≤ c ∧ c ≤ 255 := by
 intro c hc
 obtain ⟨y,-,rfl⟩ := List.mem_map.1 hc
 have := y.toNat_lt
 omega
theorem adecL_c {w : World} (hT : Tabs w) {v : Value} {bs : List Int} (h : SlB w 1 v bs.length (bs.map u8)) (hok : ∀ x ∈ bs, 0 ≤ x ∧ x ≤ 255) (hbl : bs.length ≤ 4000000) :
  FN Tryz.prog 125 [v] w fun e w' => e = .returned (.tuple #[recV (decRec bs).1,i64 (decRec bs).2]) ∧ Ext w w' := by
 by_cases hb : bs.length ≤ 65536
 ·exact adecodeA_c hT h hok hb
 ·have hd : decP txA bs = .error 3 := by unfold decP firstP; rw [if_neg hb]
  have hd' := adecode_c (o := ofD) (txt_txA hT) h hok (firstP_ne bs) (by omega) (fun t ht => by rw [hd] at ht; cases ht)
  refine FN.mono hd' ?_
  rintro e w' hA
  refine ⟨?_,hA.ext⟩
  unfold decRec
  rw [hd]
  exact hA.err 3 hd
theorem pairsP_len : ∀ (s : Tx) (l : List UInt8), pairsP s = some l → l.length ≤ s.length
 | [],l,h => by cases h; simp
 | [_],l,h => by cases h
 | a :: b :: r, l, h => by
  simp only [pairsP] at h
  split at h
  ·rename_i x y l' _ _ hl
   cases h
   have := pairsP_len r l' hl
   simp only [List.length_cons]; omega
  ·cases h
theorem octQ_len {l r : List Tx} {x : List UInt8} (h : octQ l = some (x, r)) (hl : ∀ s ∈ l, s.length ≤ 1000000) : x.length ≤ 1000000 := by
 cases l with
 | nil => cases h
 | cons s t =>
  simp only [octQ,wordP] at h
  split at h
  ·cases h
  ·rename_i y hy
   cases h
   have hs := hl s (by simp)
   unfold unhexP at hy
   split at hy
   ·cases hy; simp
   ·split at hy
    ·have := pairsP_len _ _ hy; omega
    ·cases hy
set_option maxHeartbeats 4000000 in
theorem rdtell_c {w : World} {rb b tb : Nat} {t : Trn} {l0 : List Tx} (K0 : Rw w rb b l0) (hr : rb < w.heap.size) (T0 : Blk w tb (trC t nilS nilS)) (hp : t.pay = []) (hk : t.keep = []) (hne : tb ≠ b) (hnr : tb ≠ rb) (HL0 : l0.length ≤ 1000000) (HS0 : ∀ s ∈ l0, s.length ≤ 1000000) (hG : Gl w) (h8 : 8 ≤ b) (h9 : 8 ≤ tb) : FN Tryz.prog 124 [ptr b, ptr tb] w fun e w' => RdT w w' rb b tb (tellR t l0) e := by
 refine FN_enter Tryz.func124 rfl rfl (by kernel_rfl) ?_
 have A0 : Mod (fun k => k = b ∨ k = tb) w w := Mod.refl _ _
 have hb := K0.lt
 have htb := T0.lt
 simp
 refine FN.mono (wnode_c K0 HL0) ?_
 rintro e1 w1 ⟨M1,p1⟩
 have A1 := A0.trans (M1.weaken fun k hk => Or.inl hk)
 rcases o1 : nodeQ l0 with _ | ⟨x1, l1⟩
 ·rw [show wordP _ l0 = none from o1] at p1
  obtain rfl : e1 = _ := p1
  simp
  exact ⟨A1,by simp [tellR,o1]; exact ⟨_,_,_,T0.mod M1 hne⟩⟩
 rw [show wordP _ l0 = some (x1,l1) from o1] at p1
 obtain ⟨rfl,K1⟩ := p1
 have HL1 := wordP_len o1 HL0
 have HS1 := wordP_sub o1 HS0
 have T1 := T0.mod M1 hne
 simp
 refine FN.mono (wnode_c K1 HL1) ?_
 rintro e2 w2 ⟨M2,p2⟩
 have A2 := A1.trans (M2.weaken fun k hk => Or.inl hk)
 rcases o2 : nodeQ l1 with _ | ⟨x2, l2⟩
 ·rw [show wordP _ l1 = none from o2] at p2
  obtain rfl : e2 = _ := p2
  simp
  exact ⟨A2,by simp [tellR,o1,o2]; exact ⟨_,_,_,T1.mod M2 hne⟩⟩
 rw [show wordP _ l1 = some (x2,l2) from o2] at p2
 obtain ⟨rfl,K2⟩ := p2
 have HL2 := wordP_len o2 HL1
 have HS2 := wordP_sub o2 HS1
 have T2 := T1.mod M2 hne
 have S2 : Mod (fun k => k = tb) w2 ((w2.setCell ⟨tb,1,none⟩ (u32 x1)).setCell ⟨tb,2,none⟩ (u32 x2)) := ((Mod.refl _ _).setC 1 _).setC 2 _
 have T2s : Blk ((w2.setCell ⟨tb,1,none⟩ (u32 x1)).setCell ⟨tb,2,none⟩ (u32 x2)) tb (trC { t with node := (x1 : Int),to' := (x2 : Int) } nilS nilS) := ((T2.set 1 (u32 x1)).set 2 (u32 x2))
 have K2s := K2.mod S2 (fun h => hne h.symm) (fun h => hnr h.symm)
 have A2s := A2.trans (S2.weaken fun k hk => Or.inr hk)
 simp [T2.cell 1 _ rfl,T2.cell 2 _ rfl,T2.thaw,cell_setCell]
 generalize ((w2.setCell ⟨tb,1,none⟩ (u32 x1)).setCell ⟨tb,2,none⟩ (u32 x2)) = w2s at *
 refine FN.mono (roctets_c K2s (Nat.lt_of_lt_of_le hr A2s.size) HL2 HS2) ?_
 rintro e3 w3 ⟨M3,p3⟩
 have A3 := A2s.trans (M3.weaken fun k hk => Or.inl hk)
 have T3 := T2s.mod M3 hne
 rcases o3 : octQ l2 with _ | ⟨x3, l3⟩
 ·rw [show octQ l2 = none from o3] at p3
  obtain rfl : e3 = _ := p3
  simp
  exact ⟨A3,by simp [tellR,o1,o2,o3]; exact ⟨_,_,_,T3⟩⟩
 rw [show octQ l2 = some (x3,l3) from o3] at p3
 obtain ⟨K3,v3,rfl,sv3,gv3⟩ := p3
 simp only [List.length_map] at sv3
 obtain ⟨va3,vc3,rfl⟩ := sv3.isSlice
 simp
 obtain ⟨bs,hbs⟩ : ∃ bs,bs = x3.map fun c => (c.toNat : Int) := ⟨_,rfl⟩
 have hsB : SlB w3 1 (.slice va3 x3.length vc3) bs.length (bs.map u8) := by
  have := sv3.toB
  rw [hbs,List.length_map,List.map_map]
  exact this
 refine FN.mono (adecL_c (hG.mod A3 fun k hk => by omega).tabs hsB (by rw [hbs]; exact nb_ok x3) ?hl) ?_
 case hl =>
  rw [hbs,List.length_map]
  have := octQ_len o3 HS2
  omega
 rintro _ w4 ⟨rfl,E4⟩
 have A4 := A3.trans (E4.mod (S := fun k => k = b ∨ k = tb))
 have T4 := T3.ext E4
 have K4 := K3.ext E4
 obtain ⟨⟨R,z⟩,hRz⟩ : ∃ p,p = decRec bs := ⟨_,rfl⟩
 rw [← hRz]
 simp
 have E5 : Ext w4 (w4.alloc (.cells #[i64 R.kind,u32 R.nn,u32 R.ns,u64 R.nt,u32 R.nq,i64 R.what,i64 R.why,u64 R.at',u64 R.num,u32 R.node,u32 R.reg,.bool R.yes,u64 R.fro,u64 R.til,u8 R.lev] 42)) := (Ext.refl _).alloc _
 have r5 : Blk (w4.alloc (.cells #[i64 R.kind,u32 R.nn,u32 R.ns,u64 R.nt,u32 R.nq,i64 R.what,i64 R.why,u64 R.at',u64 R.num,u32 R.node,u32 R.reg,.bool R.yes,u64 R.fro,u64 R.til,u8 R.lev] 42)) w4.heap.size (recC R) := Blk.new w4 (recC R) 42
 have A5 := A4.trans (E5.mod (S := fun k => k = b ∨ k = tb))
 have T5 := T4.ext E5
 have K5 := K4.ext E5
 generalize (w4.alloc (.cells #[i64 R.kind,u32 R.nn,u32 R.ns,u64 R.nt,u32 R.nq,i64 R.what,i64 R.why,u64 R.at',u64 R.num,u32 R.node,u32 R.reg,.bool R.yes,u64 R.fro,u64 R.til,u8 R.lev] 42)) = w5 at *
 by_cases hz : z = 0
 ·subst hz
  refine FN.mono (smust_t w5) ?_
  rintro _ w6 ⟨⟨u,rfl⟩,rfl⟩
  simp [r5.cell 0 _ rfl,r5.cell 1 _ rfl,r5.cell 2 _ rfl,r5.cell 3 _ rfl,r5.cell 4 _ rfl,r5.cell 5 _ rfl,r5.cell 6 _ rfl,r5.cell 7 _ rfl,r5.cell 8 _ rfl,r5.cell 9 _ rfl,r5.cell 10 _ rfl,r5.cell 11 _ rfl,r5.cell 12 _ rfl,r5.cell 13 _ rfl,r5.cell 14 _ rfl,(T5).cell 28 _ rfl,(T5).cell 29 _ rfl,(T5).cell 30 _ rfl,(T5).cell 31 _ rfl,(T5).cell 32 _ rfl,(T5).cell 33 _ rfl,(T5).cell 34 _ rfl,(T5).cell 35 _ rfl,(T5).cell 36 _ rfl,(T5).cell 37 _ rfl,(T5).cell 38 _ rfl,(T5).cell 39 _ rfl,(T5).cell 40 _ rfl,(T5).cell 41 _ rfl,(T5).cell 42 _ rfl,T5.thaw,cell_setCell]
  have S7 := set15m w6 tb R
  have T7 := set15 T5 R
  have K7 := K5.mod S7 (fun h => hne h.symm) (fun h => hnr h.symm)
  refine ⟨A5.trans (S7.weaken fun k hk => Or.inr hk),?_⟩
  rw [show tellR t l0 = some ({ t with node := (x1 : Int),to' := (x2 : Int),r := R },l3) by simp [tellR,o1,o2,o3,← hbs,← hRz]]
  exact ⟨⟨_,rfl⟩,K7,⟨⟨_,_,T7,by rw [hp]; exact Sl.nil _ _ _,fun h => absurd hp h,by rw [hk]; exact Sl.nil _ _ _,fun h => absurd hk h⟩⟩⟩
 ·have hz' : ¬ (decRec (x3.map fun c => (c.toNat : Int))).2 = 0 := by rw [← hbs,← hRz]; exact hz
  simp [hz]
  refine FN.mono (smust_f w5) ?_
  rintro _ w6 ⟨rfl,rfl⟩
  simp
  exact ⟨A5,by simp [tellR,o1,o2,o3,hz']; exact ⟨_,_,_,T5⟩⟩
theorem okR_tellR : OkR tellR := by
 intro t l t' l' ht h
 unfold tellR at h
 simp only [Option.bind_eq_some_iff] at h
 obtain ⟨⟨a1,b1⟩,h1,⟨a2,b2⟩,h2,⟨a3,b3⟩,h3,h⟩ := h
 split at h
 ·cases h
  have := nodeQ_le h1
  have := nodeQ_le h2
  exact { ht with node := by simp only [R32]; omega,to' := by simp only [R32]; omega }
 ·cases h
noncomputable def rdF (s : Tx) : Option (Int × (Trn → List Tx → Option (Trn × List Tx))) := if s = tellT then some (16,tellR) else rdW s
theorem rdF_ok : RdOk rdF := by
 intro s k R h
 unfold rdF at h
 by_cases hs : s = tellT
 ·rw [if_pos hs] at h; cases h; exact okR_tellR
 ·rw [if_neg hs] at h; exact rdW_ok s k R h
theorem rdF_look (f1 f2 : Nat) (s : Tx) : LookOk rdF f1 f2 s := by
 by_cases ht : s = tellT
 ·subst ht
  unfold LookOk rdF
  rw [if_pos rfl]
  refine ⟨_,_,rfl,rfl,rfl,fun K hr T hp hk hn hn2 HL HS hG h8 h9 _ _ _ _ _ _ => ?_⟩
  rw [CV_func]
  exact rdtell_c K hr T hp hk hn hn2 HL HS hG h8 h9
 ·have := rdW_look f1 f2 s ht
  unfold LookOk at this ⊢
  rw [show rdF s = rdW s by unfold rdF; rw [if_neg ht]]
  exact this
structure GivR (w : World) (t : Trn) (vp vk : Value) : Prop where
 ok : t.Ok
 rok : RecOk t.r
 pay : SlB w 1 vp t.pay.length (t.pay.map encB)
 keep : SlB w 1 vk t.keep.length (t.keep.map Value.bool)
theorem GivR.ext {w w' : World} {t : Trn} {vp vk : Value} (h : GivR w t vp vk) (hE : Ext w w') : GivR w' t vp vk := ⟨h.ok,h.rok,h.pay.ext hE,h.keep.ext hE⟩
theorem tellP_bnd {t : Trn} (ht : t.Ok) (hr : RecOk t.r) : Bnd 5000 (tellP t) := by
 intro l hl
 unfold tellP at hl
 split at hl
 ·rename_i h0
  cases hl
  have h1 := decI_len ht.node.w
  have h2 := decI_len ht.to'.w
  have h3 := hexO_len (toB (bytesR t.r))
  have h4 := (itemR_rdy hr h0).2
  rw [toB_len] at h3
  refine ⟨by simp,?_⟩
  simp
  omega
 ·cases hl
theorem lineF_c {w : World} {t : Trn} {vp vk : Value} (g : GivR w t vp vk) (hpl : t.pay.length ≤ 300) (hkl : t.keep.length ≤ 300) (hG : Gl w) (h8 : 8 ≤ w.heap.size) : FN Tryz.prog 10 [trV t vp vk] w fun e w' => LineE w w' (lineP rdF tellP t) e :=
 line_c rdF tellP g.ok g.pay g.keep hpl hkl hG h8 (fun hk => by
  intro w' _ _ _ _ _
  rw [CV_func,show layK tellP t = tellP t by simp [layK,hk]]
  exact ltell_c g.ok g.rok) (tellP_bnd g.ok g.rok) (fun f1 f2 s0 _ => rdF_look f1 f2 s0) (turnP_ok rdF_ok)
theorem turnF_c (s : Tx) (hs : s.length ≤ 900000) {w : World} (hG : Gl w) (h8 : 8 ≤ w.heap.size) : FN Tryz.prog 13 [tv s] w fun e w' => TurnE w w' (turnP rdF s) e :=
 turn_c rdF s hs hG h8 fun f1 f2 s0 _ _ => rdF_look f1 f2 s0
theorem lineP_inv {s : Tx} {t : Trn} (h : lineP rdF tellP t = some s) : turnP rdF s = some t := by
 unfold lineP at h
 split at h
 ·cases h
 ·split at h
  ·cases h
  ·split at h
   ·cases h
   ·rename_i t' ht
    split at h
    ·rename_i hq
     cases h
     rw [ht,(sameT_eq t' t).1 hq]
    ·cases h
end Go.Proofs