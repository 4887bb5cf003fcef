/-
 Contracts of the functions that the law reaches,step by step.
-/
import Derived.Test.YtmmneeomcefgbaaGreatDoorAeK
namespace Go.Proofs
open Pk
set_option maxRecDepth 10000
def firstP (tx : ByteArray → Option Bool) (bs : List Int) : Except Int (It × List Int) := if bs.length ≤ 65536 then itemP tx 8 bs else .error 3
def FiR (w w' : World) (bs : List Int) (o : Except Int (It × List Int)) (e : Ending) : Prop := Ext w w' ∧ match o with
 | .error c => e = .returned (.tuple #[.agg #[i64 0,u64 0,.slice none 0 0,.string ⟨#[]⟩,.slice none 0 0],i64 0,i64 c])
 | .ok (t,rest) => ∃ cs,e = .returned (.tuple #[.agg cs.toArray,i64 ((bs.length : Int) - rest.length),i64 0]) ∧ ItP (fun k => w.heap.size ≤ k) w' t cs
theorem Txt.more {tx : ByteArray → Option Bool} {w w' : World} (h : Txt tx w) (hE : Ext w w') : Txt tx w' := fun s b hs W hW => h s b hs W (hE.trans hW)
theorem first1_c {w : World} {a b : Nat} {x0 x1 x2 x3 x4 : Value} {y : Value} (ha : Blk w a [x0, x1, x2, x3, x4]) (hb : Var w b y) (hab : a ≠ b) :
  FN Tryz.prog 264 [ptr a,ptr b] w fun e w' => (∃ u,e = .returned u) ∧ Mod (fun k => k = a ∨ k = b) w w' ∧ Blk w' a [i64 0,u64 0,.slice none 0 0,.string ⟨#[]⟩,.slice none 0 0] ∧ Var w' b (i64 0) := by
 refine FN_enter Tryz.func264 rfl rfl (by kernel_rfl) ?_
 have hba : ¬ b = a := fun h => hab h.symm
 simp [ha.cell 0 _ rfl,ha.cell 1 _ rfl,ha.cell 2 _ rfl,ha.cell 3 _ rfl,ha.cell 4 _ rfl,ha.thaw,hb.cell,hb.thaw,cell_setCell,hba]
 have m5 := five_mod w a (i64 0) (u64 0) (.slice none 0 0) (.string ⟨#[]⟩) (.slice none 0 0)
 have a5 := ((((ha.set 0 (i64 0)).set 1 (u64 0)).set 2 (.slice none 0 0)).set 3 (.string ⟨#[]⟩)).set 4 (.slice none 0 0)
 simp only [List.set_cons_zero,List.set_cons_succ] at a5
 have b5 := hb.mod m5 hba
 generalize (((((w.setCell ⟨a,0,none⟩ (i64 0)).setCell ⟨a,1,none⟩ (u64 0)).setCell ⟨a,2,none⟩ (.slice none 0 0)).setCell ⟨a,3,none⟩ (.string ⟨#[]⟩)).setCell ⟨a,4,none⟩ (.slice none 0 0)) = w5 at *
 have m6 : Mod (fun k => k = b) w5 (w5.setCell ⟨b,0,none⟩ (i64 0)) := (Mod.refl _ _).setC _ _
 exact ⟨(m5.weaken fun _ h => .inl h).trans (m6.weaken fun _ h => .inr h),a5.mod m6 hab,b5.set _⟩
set_option maxHeartbeats 2000000 in
theorem first_rd {tx : ByteArray → Option Bool} {w : World} (hT : Txt tx w) {v : Value} {bs : List Int} (h : SlB w 1 v bs.length (bs.map u8)) (hok : ∀ x ∈ bs, 0 ≤ x ∧ x ≤ 255) (hne : firstP tx bs ≠ .error (-1)) : FN Tryz.prog 221 [v] w fun e w' => FiR w w' bs (firstP tx bs) e := by
 refine FN_enter Tryz.func221 rfl rfl (by kernel_rfl) ?_
 have hlen := fun ty W => h.isLen (P := Tryz.prog) (t := 27) (by simp) ty W
 simp [hlen]
 have hE1 : Ext w (((w.alloc (.cells #[i64 0,u64 0,.slice none 0 0,.string ⟨#[]⟩,.slice none 0 0] 160)).alloc (.cells #[i64 0] 3)).alloc (.cells #[i64 0] 48)) := (((Ext.refl w).alloc _).alloc _).alloc _
 have x1 : Blk (((w.alloc (.cells #[i64 0,u64 0,.slice none 0 0,.string ⟨#[]⟩,.slice none 0 0] 160)).alloc (.cells #[i64 0] 3)).alloc (.cells #[i64 0] 48)) w.heap.size [i64 0,u64 0,.slice none 0 0,.string ⟨#[]⟩,.slice none 0 0] := (Blk.new w [i64 0,u64 0,.slice none 0 0,.string ⟨#[]⟩,.slice none 0 0] 160).ext (((Ext.refl _).alloc _).alloc _)
 have v1 : Var (((w.alloc (.cells #[i64 0, u64 0, .slice none 0 0, .string ⟨#[]⟩, .slice none 0 0] 160)).alloc (.cells #[i64 0] 3)).alloc (.cells #[i64 0] 48)) (w.heap.size + 1) (i64 0) := by
  have := (Var.new (w.alloc (.cells #[i64 0,u64 0,.slice none 0 0,.string ⟨#[]⟩,.slice none 0 0] 160)) (i64 0) 3).ext ((Ext.refl _).alloc (.cells #[i64 0] 48))
  simpa using this
 have v2 : Var (((w.alloc (.cells #[i64 0, u64 0, .slice none 0 0, .string ⟨#[]⟩, .slice none 0 0] 160)).alloc (.cells #[i64 0] 3)).alloc (.cells #[i64 0] 48)) (w.heap.size + 1 + 1) (i64 0) := by
  have := Var.new ((w.alloc (.cells #[i64 0,u64 0,.slice none 0 0,.string ⟨#[]⟩,.slice none 0 0] 160)).alloc (.cells #[i64 0] 3)) (i64 0) 48
  simpa using this
 have z1 : (((w.alloc (.cells #[i64 0,u64 0,.slice none 0 0,.string ⟨#[]⟩,.slice none 0 0] 160)).alloc (.cells #[i64 0] 3)).alloc (.cells #[i64 0] 48)).heap.size = w.heap.size + 1 + 1 + 1 := by simp
 generalize (((w.alloc (.cells #[i64 0,u64 0,.slice none 0 0,.string ⟨#[]⟩,.slice none 0 0] 160)).alloc (.cells #[i64 0] 3)).alloc (.cells #[i64 0] 48)) = w1 at *
 obtain ⟨ra,hra⟩ : ∃ ra,ra = w.heap.size := ⟨_,rfl⟩
 obtain ⟨rb,hrb⟩ : ∃ rb,rb = w.heap.size + 1 := ⟨_,rfl⟩
 obtain ⟨rc,hrc⟩ : ∃ rc,rc = w.heap.size + 1 + 1 := ⟨_,rfl⟩
 rw [← hrc] at v2
 rw [← hrb] at v1
 rw [← hra] at x1
 rw [← hrc,← hrb,← hra]
 have pan : ∀ (W : World) (c : Int) (ρ : Env), ρ 2 = ptr ra → ρ 3 = ptr rb → ρ 4 = ptr rc → Ext w1 W → LV Tryz.prog #[ResultVar.cell 2 160, ResultVar.cell 3 3, ResultVar.cell 4 48] (fun e w' => FiR w w' bs (.error c) e) ρ
   [{ target := .fn (.func 192) #[],args := #[ptr rc,.func (.func 264) #[] #[ptr ra,ptr rb]] }] (.panicking (panV c)) W := by
  intro W c ρ e2 e3 e4 hE
  have xW := x1.ext hE
  have vW := v1.ext hE
  have cW := v2.ext hE
  refine cLV_panic cW ?_
  rw [CV_func]
  have hM1 : Mod (fun k => k = rc) W (W.setCell ⟨rc,0,none⟩ (i64 c)) := (Mod.refl _ _).setC _ _
  have xW1 := xW.mod hM1 (by omega)
  have vW1 := vW.mod hM1 (by omega)
  have cW1 := cW.set (i64 c)
  generalize (W.setCell ⟨rc,0,none⟩ (i64 c)) = W1 at *
  refine FN.mono (first1_c xW1 vW1 (by omega)) ?_
  rintro e3' W2 ⟨⟨u,rfl⟩,hM2,x2,y2⟩
  have cW2 := cW1.mod hM2 (by omega)
  refine ⟨⟨u,rfl⟩,?_⟩
  simp [e2,e3,e4,x2.cell 0 _ rfl,x2.cell 1 _ rfl,x2.cell 2 _ rfl,x2.cell 3 _ rfl,x2.cell 4 _ rfl,y2.cell,cW2.cell]
  exact ⟨(((((hE1.trans hE).mod (S := fun k => w.heap.size ≤ k)).trans (hM1.weaken fun k hk => by omega)).trans (hM2.weaken fun k hk => by omega))).ext fun _ h => h,rfl⟩
 unfold firstP at hne ⊢
 by_cases hl : bs.length ≤ 65536
 ·rw [if_pos hl] at hne ⊢
  rw [show decide ((bs.length : Int) ≤ 65536) = true by simp; omega]
  refine FN.mono (must_c 3 w1) ?_
  rintro _ w2 ⟨⟨u,rfl⟩,hw2⟩
  subst hw2
  obtain ⟨va,vc,rfl⟩ := h.isSlice
  simp
  have hE3 : Ext w2 (w2.alloc (.cells #[.slice va bs.length vc] 308)) := (Ext.refl _).alloc _
  have hL3 : Lf w (w2.alloc (.cells #[.slice va bs.length vc] 308)) w2.heap.size bs := ⟨⟨_,Blk.new w2 [.slice va bs.length vc] 308,h⟩,hE1.trans hE3,hE1.size,hok,hl⟩
  obtain ⟨r,hr⟩ : ∃ r,r = w2.heap.size := ⟨_,rfl⟩
  rw [← hr] at hL3 ⊢
  generalize (w2.alloc (.cells #[.slice va bs.length vc] 308)) = w3 at *
  have hri := ritem_c hT 8 (Nat.le_refl _) hL3 hne
  rw [show (8 : Int) - ((8 : Nat) : Int) = 0 from rfl] at hri
  refine FN.mono hri ?_
  rintro e4 w4 ⟨hM4,hp4⟩
  have hE24 : Ext w2 w4 := ((hE3.mod (S := fun k => k = r)).trans hM4).ext fun k hk => by omega
  cases ho : itemP tx 8 bs with
  | error c =>
   rw [ho] at hp4
   obtain rfl : e4 = _ := hp4
   simp
   exact pan w4 c _ (by simp) (by simp) (by simp) hE24
  | ok q =>
   obtain ⟨t,rest⟩ := q
   rw [ho] at hp4
   obtain ⟨⟨cs,rfl,hit⟩,hL4⟩ := hp4
   obtain ⟨ia,im,ic,ia',im',ic',hcs⟩ := itC_form hit.any
   rw [hcs]
   have x4 := x1.ext hE24
   have v4 := v1.ext hE24
   have c4 := v2.ext hE24
   have m5 := five_mod w4 ra (i64 t.k) (u64 t.n) (.slice ia im ic) (.string t.s) (.slice ia' im' ic')
   have x5 := ((((x4.set 0 (i64 t.k)).set 1 (u64 t.n)).set 2 (.slice ia im ic)).set 3 (.string t.s)).set 4 (.slice ia' im' ic')
   simp only [List.set_cons_zero,List.set_cons_succ] at x5
   simp [x4.cell 0 _ rfl,x4.cell 1 _ rfl,x4.cell 2 _ rfl,x4.cell 3 _ rfl,x4.cell 4 _ rfl,x4.thaw,cell_setCell]
   have v5 := v4.mod m5 (by omega)
   have c5 := c4.mod m5 (by omega)
   have s2 := hE1.size
   have s3 := hE3.size
   have hL5 := hL4.mod m5 fun k hk => ⟨by omega,by omega⟩
   have hit5 := hit.go (Pd' := fun k => w.heap.size ≤ k ∧ w2.heap.size ≤ k) m5 fun k _ hk => ⟨⟨by omega,by omega⟩,by omega⟩
   generalize (((((w4.setCell ⟨ra,0,none⟩ (i64 t.k)).setCell ⟨ra,1,none⟩ (u64 t.n)).setCell ⟨ra,2,none⟩ (.slice ia im ic)).setCell ⟨ra,3,none⟩ (.string t.s)).setCell ⟨ra,4,none⟩ (.slice ia' im' ic')) = w5 at *
   obtain ⟨lv,l5,lS⟩ := hL5.v
   have hlen5 := fun ty W => lS.isLen (P := Tryz.prog) (t := 306) (by simp) ty W
   have hlr := hL5.len
   have hwq : IntKind.i64.wrap ((bs.length : Int) - rest.length) = (bs.length : Int) - rest.length := wrap64 _ (by omega) (by omega)
   refine WC_drawC 10 (.F 0 <| .F 1 <| .F 2 <| .F 3 <| .F 4 <| .F 5 <| .F 6 <| .F 7 <| .F 8 <| .C 9 <| .Z) (fun _ => false) rfl (by kernel_rfl) fun W hW => ?_
   have hWE : Ext w5 W := hW ▸ Ext.drew _
   have xW := x5.ext hWE
   have vW := v5.ext hWE
   have cW := c5.ext hWE
   have lW := l5.ext hWE
   have itW := hit5.ext hWE
   simp [xW.cell 0 _ rfl,xW.cell 1 _ rfl,xW.cell 2 _ rfl,xW.cell 3 _ rfl,xW.cell 4 _ rfl,xW.thaw,lW.cell 0 _ rfl,hlen,hlen5,hwq,setCell_id (xW.cell 0 _ rfl),setCell_id (xW.cell 1 _ rfl),setCell_id (xW.cell 2 _ rfl),setCell_id (xW.cell 3 _ rfl),setCell_id (xW.cell 4 _ rfl)]
   refine KR_same ?_
   have mb : Mod (fun k => k = rb) W (W.setCell ⟨rb,0,none⟩ (i64 ((bs.length : Int) - rest.length))) := (Mod.refl _ _).setC _ _
   have vb := vW.set (i64 ((bs.length : Int) - rest.length))
   have xb := xW.mod mb (by omega)
   have cb := cW.mod mb (by omega)
   simp [vW.cell,vW.thaw,cb.cell,cb.thaw]
   have mc : Mod (fun k => k = rc) (W.setCell ⟨rb,0,none⟩ (i64 ((bs.length : Int) - rest.length))) ((W.setCell ⟨rb,0,none⟩ (i64 ((bs.length : Int) - rest.length))).setCell ⟨rc,0,none⟩ (i64 0)) := (Mod.refl _ _).setC _ _
   have vc' := vb.mod mc (by omega)
   have xc := xb.mod mc (by omega)
   have cc := cb.set (i64 0)
   have itc := (itW.go (Pd' := fun k => w.heap.size ≤ k ∧ w2.heap.size ≤ k) mb fun k _ hk => ⟨hk,by omega⟩).go (Pd' := fun k => w.heap.size ≤ k) mc fun k _ hk => ⟨hk.1,by omega⟩
   have hX : Ext w ((W.setCell ⟨rb, 0, none⟩ (i64 ((bs.length : Int) - rest.length))).setCell ⟨rc, 0, none⟩ (i64 0)) :=
    ((((((hE1.trans hE24).mod (S := fun k => w.heap.size ≤ k)).trans (m5.weaken fun k hk => by omega)).trans hWE.mod).trans (mb.weaken fun k hk => by omega)).trans (mc.weaken fun k hk => by omega)).ext fun _ h => h
   refine LV_ccaught ?_
   simp [xc.cell 0 _ rfl,xc.cell 1 _ rfl,xc.cell 2 _ rfl,xc.cell 3 _ rfl,xc.cell 4 _ rfl,vc'.cell,cc.cell]
   exact ⟨hX,cs,by rw [hcs],itc⟩
 ·rw [if_neg hl]
  rw [show decide ((bs.length : Int) ≤ 65536) = false by simp; omega]
  refine FN.mono (cmust_f 3 w1) ?_
  rintro _ w2 ⟨rfl,hw2⟩
  subst hw2
  simp
  exact pan _ 3 _ (by simp) (by simp) (by simp) (Ext.refl _)
end Go.Proofs
namespace Go.Proofs
open Pk
set_option maxRecDepth 10000
attribute [local simp] beq_dec bne_dec
def codeOk (c : Int) : Prop := c = 3 ∨ c = 120 ∨ c = 121 ∨ c = -1
theorem listP_code {p : List Int → Except Int (It × List Int)} (hp : ∀ bs c, p bs = .error c → codeOk c) : ∀ (n : Nat) (bs : List Int) (c : Int), listP p n bs = .error c → codeOk c
 | 0,bs,c,h => by simp [listP] at h
 | n + 1, bs, c, h => by
  simp only [listP] at h
  split at h
  ·rename_i c' hc; cases h; exact hp _ _ hc
  ·split at h
   ·rename_i c' hc; cases h; exact listP_code hp n _ _ hc
   ·cases h
theorem itemP_code {tx : ByteArray → Option Bool} : ∀ (f : Nat) (bs : List Int) (c : Int), itemP tx f bs = .error c → codeOk c
 | 0,bs,c,h => by simp only [itemP,Except.error.injEq] at h; exact .inr (.inl h.symm)
 | f + 1, bs, c, h => by
  have e21 : codeOk 121 := .inr (.inr (.inl rfl))
  simp only [itemP] at h
  split at h
  ·cases h
  split at h
  ·cases h
  split at h
  ·cases h
  unfold headedP at h
  split at h
  ·cases h; exact e21
  ·unfold tailP at h
   split at h
   ·cases h
   split at h
   ·split at h
    ·cases h
    ·cases h; exact e21
   split at h
   ·split at h
    ·split at h
     ·cases h; exact .inr (.inr (.inr rfl))
     ·cases h
     ·cases h; exact e21
    ·cases h; exact e21
   split at h
   ·split at h
    ·rename_i c' hc; cases h; exact listP_code (fun bs c h => itemP_code f bs c h) _ _ _ hc
    ·cases h
   ·cases h; exact e21
theorem firstP_code {tx : ByteArray → Option Bool} {bs : List Int} {c : Int} (h : firstP tx bs = .error c) : codeOk c := by
 unfold firstP at h
 split at h
 ·exact itemP_code _ _ _ h
 ·cases h; exact .inl rfl
def decP (tx : ByteArray → Option Bool) (bs : List Int) : Except Int It := match firstP tx bs with
 | .error c => .error c
 | .ok (t,rest) => if rest = [] then .ok t else .error 121
def DcR (w w' : World) (o : Except Int It) (e : Ending) : Prop := Ext w w' ∧ match o with
 | .error c => e = .returned (.tuple #[.agg #[i64 0,u64 0,.slice none 0 0,.string ⟨#[]⟩,.slice none 0 0],i64 c])
 | .ok t => ∃ cs,e = .returned (.tuple #[.agg cs.toArray,i64 0]) ∧ ItP (fun k => w.heap.size ≤ k) w' t cs
theorem cdecode_c {tx : ByteArray → Option Bool} {w : World} (hT : Txt tx w) {v : Value} {bs : List Int} (h : SlB w 1 v bs.length (bs.map u8)) (hok : ∀ x ∈ bs, 0 ≤ x ∧ x ≤ 255) (hne : firstP tx bs ≠ .error (-1)) (hbl : bs.length ≤ 9223372036854775807) : FN Tryz.prog 154 [v] w fun e w' => DcR w w' (decP tx bs) e := by
 refine FN_enter Tryz.func154 rfl rfl (by kernel_rfl) ?_
 have hlen := fun ty W => h.isLen (P := Tryz.prog) (t := 27) (by simp) ty W
 simp
 have hE1 : Ext w (w.alloc (.cells #[i64 0,u64 0,.slice none 0 0,.string ⟨#[]⟩,.slice none 0 0] 160)) := (Ext.refl _).alloc _
 have x1 : Blk (w.alloc (.cells #[i64 0,u64 0,.slice none 0 0,.string ⟨#[]⟩,.slice none 0 0] 160)) w.heap.size [i64 0,u64 0,.slice none 0 0,.string ⟨#[]⟩,.slice none 0 0] := Blk.new w [i64 0,u64 0,.slice none 0 0,.string ⟨#[]⟩,.slice none 0 0] 160
 obtain ⟨ra,hra⟩ : ∃ ra,ra = w.heap.size := ⟨_,rfl⟩
 rw [← hra] at x1 ⊢
 generalize (w.alloc (.cells #[i64 0,u64 0,.slice none 0 0,.string ⟨#[]⟩,.slice none 0 0] 160)) = w1 at *
 have hf := first_rd (hT.more hE1) (h.ext hE1) hok hne
 refine FN.mono hf ?_
 rintro e2 w2 ⟨hE2,hp2⟩
 have x2 := x1.ext hE2
 unfold decP
 have s1 := hE1.size
 have s2 := hE2.size
 cases ho : firstP tx bs with
 | error c =>
  rw [ho] at hp2
  obtain rfl : e2 = _ := hp2
  have hc := firstP_code ho
  have hc0 : ¬ c = 0 := by unfold codeOk at hc; omega
  have hE3 : Ext w2 (w2.alloc (.cells #[i64 0,u64 0,.slice none 0 0,.string ⟨#[]⟩,.slice none 0 0] 160)) := (Ext.refl _).alloc _
  have x3 := x2.ext hE3
  simp [hc0,x3.cell 0 _ rfl,x3.cell 1 _ rfl,x3.cell 2 _ rfl,x3.cell 3 _ rfl,x3.cell 4 _ rfl,x3.thaw,setCell_id (x3.cell 0 _ rfl),setCell_id (x3.cell 1 _ rfl),setCell_id (x3.cell 2 _ rfl),setCell_id (x3.cell 3 _ rfl),setCell_id (x3.cell 4 _ rfl)]
  exact ⟨(hE1.trans hE2).trans hE3,rfl⟩
 | ok q =>
  obtain ⟨t,rest⟩ := q
  rw [ho] at hp2
  obtain ⟨cs,rfl,hit⟩ := hp2
  obtain ⟨ia,im,ic,ia',im',ic',hcs⟩ := itC_form hit.any
  rw [hcs]
  have hE3 : Ext w2 (w2.alloc (.cells #[i64 t.k,u64 t.n,.slice ia im ic,.string t.s,.slice ia' im' ic'] 160)) := (Ext.refl _).alloc _
  have x3 := x2.ext hE3
  have y3 : Blk (w2.alloc (.cells #[i64 t.k,u64 t.n,.slice ia im ic,.string t.s,.slice ia' im' ic'] 160)) w2.heap.size [i64 t.k,u64 t.n,.slice ia im ic,.string t.s,.slice ia' im' ic'] := Blk.new w2 [i64 t.k,u64 t.n,.slice ia im ic,.string t.s,.slice ia' im' ic'] 160
  have it3 := hit.ext hE3
  simp
  by_cases hr : rest = []
  ·subst hr
   simp [hlen,y3.cell 0 _ rfl,y3.cell 1 _ rfl,y3.cell 2 _ rfl,y3.cell 3 _ rfl,y3.cell 4 _ rfl,x3.cell 0 _ rfl,x3.cell 1 _ rfl,x3.cell 2 _ rfl,x3.cell 3 _ rfl,x3.cell 4 _ rfl,x3.thaw,cell_setCell]
   have m4 := five_mod (w2.alloc (.cells #[i64 t.k,u64 t.n,.slice ia im ic,.string t.s,.slice ia' im' ic'] 160)) ra (i64 t.k) (u64 t.n) (.slice ia im ic) (.string t.s) (.slice ia' im' ic')
   refine ⟨?_,cs,by rw [hcs],it3.go m4 fun k _ hk => ⟨by omega,by have := x1.lt; omega⟩⟩
   exact (((hE1.trans (hE2.trans hE3)).mod (S := fun k => w.heap.size ≤ k)).trans (m4.weaken fun k hk => by omega)).ext fun _ h => h
  ·have hn : ¬ (bs.length : Int) - rest.length = bs.length := by
    have := List.length_pos_iff.2 hr; omega
   have hn' : ¬ rest.length = 0 := by
    have := List.length_pos_iff.2 hr; omega
   simp [hlen,hn,hr,x3.cell 0 _ rfl,x3.cell 1 _ rfl,x3.cell 2 _ rfl,x3.cell 3 _ rfl,x3.cell 4 _ rfl,x3.thaw,setCell_id (x3.cell 0 _ rfl),setCell_id (x3.cell 1 _ rfl),setCell_id (x3.cell 2 _ rfl),setCell_id (x3.cell 3 _ rfl),setCell_id (x3.cell 4 _ rfl)]
   exact ⟨hE1.trans (hE2.trans hE3),rfl⟩
end Go.Proofs
namespace Go.Proofs
open Pk
set_option maxRecDepth 10000
theorem beN_ok (k : Nat) (n : Int) : ∀ x ∈ beN k n, 0 ≤ x ∧ x ≤ 255 := by
 intro x hx
 obtain ⟨j,-,rfl⟩ := List.mem_map.1 hx
 have := Int.emod_nonneg (n / ((2 ^ (8 * (k - 1 - j)) : Nat) : Int)) (show (256 : Int) ≠ 0 by decide)
 have := Int.emod_lt_of_pos (n / ((2 ^ (8 * (k - 1 - j)) : Nat) : Int)) (show (0 : Int) < 256 by decide)
 omega
mutual
def bytesI : It → List Int
 | .mk k n b s l => if k = 1 then headB 0 n else if k = 2 then headB 2 b.length ++ b else if k = 3 then headB 3 s.size ++ (s.toList.map fun c => (c.toNat : Int)) else if k = 5 then [244 + n] else if k = 6 then [246] else headB 4 l.length ++ bytesL l
def bytesL : List It → List Int
 | [] => []
 | x :: l => bytesI x ++ bytesL l
end
theorem bytesI_uint (n : Int) : bytesI (uintI n) = headB 0 n := by unfold uintI; rw [bytesI,if_pos rfl]
theorem bytesI_bool (n : Int) : bytesI (.mk 5 n [] ⟨#[]⟩ []) = [244 + n] := by rw [bytesI]; simp
theorem bytesI_list (l : List It) : bytesI (listI l) = headB 4 l.length ++ bytesL l := by unfold listI; rw [bytesI]; simp
theorem bytesL_flat (l : List It) : bytesL l = (l.map bytesI).flatten := by
 induction l with
 | nil => rw [bytesL]; rfl
 | cons x l ih => rw [bytesL,ih]; rfl
inductive Rdy : Nat → It → Prop
 | uint (d : Nat) (n : Int) (h0 : 0 ≤ n) (h1 : n ≤ 18446744073709551615) : Rdy (d + 1) (uintI n)
 | bool (d : Nat) (n : Int) (h : n = 0 ∨ n = 1) : Rdy (d + 1) (.mk 5 n [] ⟨#[]⟩ [])
 | list (d : Nat) (l : List It) (hl : l.length ≤ 1000) (h : ∀ x ∈ l,Rdy d x) : Rdy (d + 1) (listI l)
end Go.Proofs
namespace Go.Proofs
open Pk
set_option maxRecDepth 10000
theorem Rdy.fine {d : Nat} {t : It} (h : Rdy d t) : Fine t := by
 induction h with
 | uint d n h0 h1 => exact .uint n
 | bool d n h => exact .bool n (by omega)
 | list d l hl h ih => exact .list l ih
theorem Rdy.dep {d : Nat} {t : It} (h : Rdy d t) : DepLe d t := by
 induction h with
 | uint d n h0 h1 => exact ⟨fun x hx => by simp [uintI,It.l] at hx,by simp [uintI,It.l]⟩
 | bool d n h => exact ⟨fun x hx => by simp [It.l] at hx,by simp [It.l]⟩
 | list d l hl h ih => exact ⟨fun x hx => ih x hx,by simp only [listI,It.l]; omega⟩
theorem Rdy.up {d : Nat} {t : It} (h : Rdy d t) : Rdy (d + 1) t := by
 induction h with
 | uint d n h0 h1 => exact .uint _ n h0 h1
 | bool d n h => exact .bool _ n h
 | list d l hl h ih => exact .list _ l hl ih
theorem bytesL_mem {l : List It} {x : It} (hx : x ∈ l) : (bytesI x).length ≤ (bytesL l).length := by
 induction l with
 | nil => simp at hx
 | cons y l ih =>
  rw [bytesL,List.length_append]
  rcases List.mem_cons.1 hx with rfl | hx
  ·omega
  ·have := ih hx; omega
theorem Rdy.wr {d : Nat} {t : It} (h : Rdy d t) : (bytesI t).length ≤ 65536 → Wr t (bytesI t) := by
 induction h with
 | uint d n h0 h1 => intro _; rw [bytesI_uint]; exact .uint n h0
 | bool d n h => intro _; rw [bytesI_bool]; exact .bool n (by omega) (by omega)
 | list d l hl h ih =>
  intro hb
  rw [bytesI_list] at hb ⊢
  rw [List.length_append] at hb
  rw [bytesL_flat] at hb ⊢
  refine .list l (l.map bytesI) hl (by simp) (by omega) fun i x b hx hbb => ?_
  rw [List.getElem?_map,hx] at hbb
  simp only [Option.map_some,Option.some.injEq] at hbb
  subst hbb
  refine ih x (List.mem_of_getElem? hx) ?_
  have := bytesL_mem (List.mem_of_getElem? hx)
  rw [bytesL_flat] at this
  omega
theorem bytesL_le {l : List It} {m : Nat} (h : ∀ x ∈ l, (bytesI x).length ≤ m) : (bytesL l).length ≤ m * l.length := by
 induction l with
 | nil => simp [bytesL]
 | cons x l ih =>
  rw [bytesL,List.length_append,List.length_cons,Nat.mul_add]
  have := h x (by simp)
  have := ih fun y hy => h y (by simp [hy])
  omega
theorem list_len {l : List It} {m : Nat} (h : ∀ x ∈ l, (bytesI x).length ≤ m) : (bytesI (listI l)).length ≤ 9 + m * l.length := by
 rw [bytesI_list,List.length_append]
 have := bytesL_le h
 have := headB_len 4 l.length
 omega
theorem uint_len (n : Int) : (bytesI (uintI n)).length ≤ 9 := by rw [bytesI_uint]; exact headB_len 0 n
theorem bool_len (u : Bool) : (bytesI (boolI u)).length ≤ 9 := by unfold boolI; rw [bytesI_bool]; simp
theorem rdy_bool (d : Nat) (u : Bool) : Rdy (d + 1) (boolI u) := .bool d _ (by cases u <;> simp)
def PartOk (t : It) : Prop := Rdy 4 t ∧ (bytesI t).length ≤ 200
theorem part_uint {n : Int} (h0 : 0 ≤ n) (h1 : n ≤ 18446744073709551615) : PartOk (uintI n) := ⟨.uint _ n h0 h1,by have := uint_len n; omega⟩
theorem part_bool (u : Bool) : PartOk (boolI u) := ⟨rdy_bool _ u,by have := bool_len u; omega⟩
theorem part_name {n : Nam} (hn : NamOk n) (ht : 0 ≤ n.nt ∧ n.nt ≤ 18446744073709551615) : PartOk (nameI n) := by
 have h1 := hn.nn
 have h2 := hn.ns
 have h3 := hn.nq
 have ru : ∀ (d : Nat) (x : Int),0 ≤ x → x ≤ 18446744073709551615 → Rdy (d + 1) (uintI x) := fun d x a b => .uint d x a b
 have hend : Rdy 3 (endI n.nn n.ns) ∧ (bytesI (endI n.nn n.ns)).length ≤ 100 := by
  unfold endI
  split
  ·refine ⟨.list 2 _ (by simp) fun x hx => ?_, ?_⟩
   ·simp only [List.mem_cons,List.not_mem_nil,or_false] at hx
    rcases hx with rfl | rfl
    ·exact ru 1 _ (by omega) (by omega)
    ·exact ru 1 _ (by omega) (by omega)
   ·refine Nat.le_trans (list_len (m := 9) fun x hx => ?_) (by simp)
    simp only [List.mem_cons,List.not_mem_nil,or_false] at hx
    rcases hx with rfl | rfl <;> exact uint_len _
  ·have hin : Rdy 2 (listI [uintI n.nn, uintI n.ns]) ∧ (bytesI (listI [uintI n.nn, uintI n.ns])).length ≤ 30 := by
    refine ⟨.list 1 _ (by simp) fun x hx => ?_, ?_⟩
    ·simp only [List.mem_cons,List.not_mem_nil,or_false] at hx
     rcases hx with rfl | rfl
     ·exact ru 0 _ (by omega) (by omega)
     ·exact ru 0 _ (by omega) (by omega)
    ·refine Nat.le_trans (list_len (m := 9) fun x hx => ?_) (by simp)
     simp only [List.mem_cons,List.not_mem_nil,or_false] at hx
     rcases hx with rfl | rfl <;> exact uint_len _
   refine ⟨.list 2 _ (by simp) fun x hx => ?_, ?_⟩
   ·simp only [List.mem_cons,List.not_mem_nil,or_false] at hx
    rcases hx with rfl | rfl
    ·exact ru 1 _ (by omega) (by omega)
    ·exact hin.1
   ·refine Nat.le_trans (list_len (m := 30) fun x hx => ?_) (by simp)
    simp only [List.mem_cons,List.not_mem_nil,or_false] at hx
    rcases hx with rfl | rfl
    ·have := uint_len 2; omega
    ·exact hin.2
 have hend' := hend.2
 unfold nameI
 refine ⟨.list 3 _ (by simp) fun x hx => ?_, ?_⟩
 ·simp only [List.mem_cons,List.not_mem_nil,or_false] at hx
  rcases hx with rfl | rfl | rfl
  ·exact hend.1
  ·exact ru 2 _ ht.1 ht.2
  ·exact ru 2 _ (by omega) (by omega)
 ·rw [bytesI_list,List.length_append]
  have h9 := headB_len 4 ([endI n.nn n.ns,uintI n.nt,uintI n.nq] : List It).length
  have e : bytesL [endI n.nn n.ns,uintI n.nt,uintI n.nq] = bytesI (endI n.nn n.ns) ++ (bytesI (uintI n.nt) ++ (bytesI (uintI n.nq) ++ [])) := by simp [bytesL]
  rw [e]
  have := uint_len n.nt
  have := uint_len n.nq
  simp only [List.length_append,List.length_nil]
  omega
end Go.Proofs