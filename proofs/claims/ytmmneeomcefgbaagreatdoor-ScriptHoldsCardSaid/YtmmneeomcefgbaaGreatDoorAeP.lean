/-
 Contracts of the functions that the law reaches,step by step.
-/
import Derived.Test.YtmmneeomcefgbaaGreatDoorAeL
namespace Go.Proofs
open Pk
set_option maxRecDepth 10000
theorem right_inv {r : Rec} (h : rightE r = 0) : (1 ≤ r.kind ∧ r.kind ≤ 5) ∧ fineR r = true ∧ r.num ≤ 4294967295 ∧ (r.at' ≤ 4611686018427387903 ∧ r.fro ≤ 4611686018427387903 ∧ r.til ≤ 4611686018427387903) ∧ bareR r = r := by
 unfold rightE at h
 split at h
 ·rename_i hk
  unfold chk at h
  split at h
  ·rename_i hf
   split at h
   ·cases h
   ·rename_i hn
    split at h
    ·rename_i ht
     split at h
     ·rename_i hb
      exact ⟨hk,hf,by omega,times3 ht,of_decide_eq_true hb⟩
     ·cases h
    ·cases h
  ·cases h
 ·cases h
theorem right_two {r : Rec} (h : rightE r ≠ 0) : rightE r = 2 := by
 unfold rightE chk at *
 split
 ·split
  ·split
   ·rfl
   ·split
    ·split
     ·simp_all
     ·rfl
    ·rfl
  ·rfl
 ·rfl
theorem lay_of {r : Rec} (hr : RecOk r) (h : rightE r = 0) : ∃ s fl fr ff, mget kdL r.kind = some [.string s, fnV fl, fnV fr, fnV ff] ∧ LaysI fl r (partsR r) ∧ (0 < (partsR r).length ∧ (partsR r).length ≤ 5) ∧ ∀ x ∈ partsR r, PartOk x := by
 obtain ⟨hk,hf,hn,ht,-⟩ := right_inv h
 have hcase : r.kind = 1 ∨ r.kind = 2 ∨ r.kind = 3 ∨ r.kind = 4 ∨ r.kind = 5 := by omega
 have h1 := hr.num
 have h2 := hr.node
 have h3 := hr.reg
 have h4 := hr.at'
 have h5 := hr.fro
 have h6 := hr.til
 have h7 := hr.lev
 unfold partsR
 rcases hcase with e | e | e | e | e
 ·rw [if_pos e]
  unfold fineR at hf
  rw [if_pos e] at hf
  obtain ⟨i1,i2,i3,i4,i5⟩ := repF_inv hf
  refine ⟨_,254,257,260,by rw [e]; rfl,rep_layI hr i1 (by omega) i4,by simp [repI],fun x hx => ?_⟩
  simp only [repI,List.mem_cons,List.not_mem_nil,or_false] at hx
  rcases hx with rfl | rfl | rfl | rfl
  ·exact part_name ⟨hr.nn,hr.ns,hr.nq⟩ hr.nt
  ·exact part_uint (by omega) (by omega)
  ·exact part_uint (by omega) (by omega)
  ·exact part_uint (by omega) (by omega)
 ·rw [if_neg (by omega),if_pos e]
  refine ⟨_,201,204,207,by rw [e]; rfl,ask_layI hr,by simp [askI],fun x hx => ?_⟩
  simp only [askI,List.mem_cons,List.not_mem_nil,or_false] at hx
  rcases hx with rfl | rfl | rfl <;> exact part_uint (by omega) (by omega)
 ·rw [if_neg (by omega),if_neg (by omega),if_pos e]
  refine ⟨_,208,210,207,by rw [e]; rfl,tell_layI hr,by simp [tellI],fun x hx => ?_⟩
  simp only [tellI,List.mem_cons,List.not_mem_nil,or_false] at hx
  rcases hx with rfl | rfl | rfl | rfl | rfl
  ·exact part_uint (by omega) (by omega)
  ·exact part_uint (by omega) (by omega)
  ·exact part_uint (by omega) (by omega)
  ·exact part_bool _
  ·exact part_uint (by omega) (by omega)
 ·rw [if_neg (by omega),if_neg (by omega),if_neg (by omega),if_pos e]
  refine ⟨_,213,215,217,by rw [e]; rfl,fore_layI hr,by simp [foreI],fun x hx => ?_⟩
  simp only [foreI,List.mem_cons,List.not_mem_nil,or_false] at hx
  rcases hx with rfl | rfl | rfl | rfl <;> exact part_uint (by omega) (by omega)
 ·rw [if_neg (by omega),if_neg (by omega),if_neg (by omega),if_neg (by omega)]
  refine ⟨_,219,220,207,by rw [e]; rfl,mem_layI hr,by simp [memI],fun x hx => ?_⟩
  simp only [memI,List.mem_cons,List.not_mem_nil,or_false] at hx
  rcases hx with rfl | rfl | rfl | rfl
  ·exact part_uint (by omega) (by omega)
  ·exact part_uint (by omega) (by omega)
  ·exact part_uint (by omega) (by omega)
  ·exact part_bool _
def bytesR (r : Rec) : List Int := bytesI (itemR r)
theorem itemR_ok {r : Rec} (hk : 1 ≤ r.kind ∧ r.kind ≤ 5) (hp : ∀ x ∈ partsR r, PartOk x) (hl : (partsR r).length ≤ 5) : Rdy 5 (itemR r) ∧ (bytesR r).length ≤ 2000 := by
 have all : ∀ x ∈ uintI r.kind :: partsR r, PartOk x := fun x hx => by
  rcases List.mem_cons.1 hx with rfl | hx
  ·exact part_uint (by omega) (by omega)
  ·exact hp x hx
 refine ⟨.list 4 _ (by simp only [List.length_cons]; omega) fun x hx => (all x hx).1,?_⟩
 have := list_len (m := 200) fun x hx => (all x hx).2
 simp only [List.length_cons] at this
 unfold bytesR itemR
 omega
theorem kd_lookF {r : Nat} {w : World} (hm : MapAt (Value.int .i64) agE w r kdL) {k : Int} {kd : List Value} (hk : mget kdL k = some kd) (W : World) (hW : Ext w W) :
  (Instr.lookup 211 (.map (some r)) (i64 k) false).run Tryz.prog W = .ok (agE kd) W := by
 have := (hm.ext hW).lookup (P := Tryz.prog) krk tkd (zkd W) k false
 rw [hk] at this
 simpa using this
structure EnR (w w' : World) (r : Rec) (e : Ending) : Prop where
 ext : Ext w w'
 ok : rightE r = 0 → ∃ v,e = .returned (.tuple #[v,i64 0]) ∧ Sl w' 1 v (bytesR r).length ((bytesR r).map u8)
 no : rightE r ≠ 0 → e = .returned (.tuple #[.slice none 0 0,i64 2])
set_option maxHeartbeats 1000000 in
theorem aencode_c {r : Rec} (hr : RecOk r) (w : World) : FN Tryz.prog 123 [recV r] w fun e w' => EnR w w' r e := by
 refine FN_enter Tryz.func123 rfl rfl (by kernel_rfl) ?_
 simp
 have hE1 : Ext w (w.alloc (.cells #[i64 r.kind,u32 r.nn,u32 r.ns,u64 r.nt,u32 r.nq,i64 r.what,i64 r.why,u64 r.at',u64 r.num,u32 r.node,u32 r.reg,.bool r.yes,u64 r.fro,u64 r.til,u8 r.lev] 42)) := (Ext.refl w).alloc _
 have o1 : Blk (w.alloc (.cells #[i64 r.kind,u32 r.nn,u32 r.ns,u64 r.nt,u32 r.nq,i64 r.what,i64 r.why,u64 r.at',u64 r.num,u32 r.node,u32 r.reg,.bool r.yes,u64 r.fro,u64 r.til,u8 r.lev] 42)) w.heap.size (recC r) := Blk.new w (recC r) 42
 generalize (w.alloc (.cells #[i64 r.kind,u32 r.nn,u32 r.ns,u64 r.nt,u32 r.nq,i64 r.what,i64 r.why,u64 r.at',u64 r.num,u32 r.node,u32 r.reg,.bool r.yes,u64 r.fro,u64 r.til,u8 r.lev] 42)) = w1 at *
 refine FN.mono (check_c hr w1) ?_
 rintro _ w2 ⟨rfl,hE2⟩
 have o2 := o1.ext hE2
 by_cases h0 : rightE r = 0
 ·obtain ⟨s,fl,fr,ff,hk,hl,⟨hl0,hl5⟩,hp⟩ := lay_of hr h0
  obtain ⟨hkk,-⟩ := right_inv h0
  obtain ⟨hrdy,hlen⟩ := itemR_ok hkk hp hl5
  simp [h0]
  refine WC_drawC 9 (.F 1 <| .F 2 <| .F 4 <| .C 0 <| .C 3 <| .C 5 <| .C 6 <| .F 7 <| .F 8 <| .Z) (fun _ => false) rfl (by kernel_rfl) fun W hW => ?_
  have hWE : Ext w2 W := hW ▸ Ext.drew _
  have p := o2.ext hWE
  simp [p.cell 0 _ rfl,p.cell 1 _ rfl,p.cell 2 _ rfl,p.cell 3 _ rfl,p.cell 4 _ rfl,p.cell 5 _ rfl,p.cell 6 _ rfl,p.cell 7 _ rfl,p.cell 8 _ rfl,p.cell 9 _ rfl,p.cell 10 _ rfl,p.cell 11 _ rfl,p.cell 12 _ rfl,p.cell 13 _ rfl,p.cell 14 _ rfl]
  refine FN.mono (kinds_c W) ?_
  rintro _ W4 ⟨mr,rfl,hm,hE4⟩
  simp
  refine KR_ext hE4 ?_
  simp [kd_lookF hm hk W4 (Ext.refl _)]
  refine KR_same ?_
  simp
  refine FN.mono (laidI_c hl hl0 (by omega) ⟨by omega,by omega⟩ W4) ?_
  rintro _ W5 ⟨v5,rfl,⟨a5,m5,c5,rfl⟩,hit5,hE5⟩
  simp
  refine KR_ext hE5 ?_
  simp
  have hd8 : DepLe 8 (itemR r) := (hrdy.up.up.up).dep
  have hen := encode_c hrdy.fine hd8 (hrdy.wr (by unfold bytesR at hlen; omega)) (by unfold bytesR at hlen; omega) hit5.any
  refine FN.mono (hen) ?_
  rintro _ W6 ⟨v6,rfl,hS6,hE6⟩
  simp
  refine KR_ext hE6 ?_
  simp
  exact ⟨(hE1.trans hE2).trans (hWE.trans (hE4.trans (hE5.trans hE6))),fun _ => ⟨_,rfl,hS6⟩,fun h => (h h0).elim⟩
 ·have h2 := right_two h0
  simp [h2]
  exact ⟨hE1.trans hE2,fun h => (h0 h).elim,fun _ => rfl⟩
end Go.Proofs
namespace Go.Proofs
open Pk
set_option maxRecDepth 10000
attribute [local simp] beq_dec bne_dec
theorem mod15 (w : World) (c : Nat) (r : Rec) : Mod (fun k => k = c) w (((((((((((((((w.setCell ⟨c, 0, none⟩ (i64 r.kind)).setCell ⟨c, 1, none⟩ (u32 r.nn)).setCell ⟨c, 2, none⟩ (u32 r.ns)).setCell ⟨c, 3, none⟩ (u64 r.nt)).setCell ⟨c, 4, none⟩ (u32 r.nq)).setCell ⟨c, 5, none⟩ (i64 r.what)).setCell ⟨c, 6, none⟩ (i64 r.why)).setCell ⟨c, 7, none⟩ (u64 r.at')).setCell ⟨c, 8, none⟩ (u64 r.num)).setCell ⟨c, 9, none⟩ (u32 r.node)).setCell ⟨c, 10, none⟩ (u32 r.reg)).setCell ⟨c, 11, none⟩ (.bool r.yes)).setCell ⟨c, 12, none⟩ (u64 r.fro)).setCell ⟨c, 13, none⟩ (u64 r.til)).setCell ⟨c, 14, none⟩ (u8 r.lev)) :=
 (((((((((((((((Mod.refl _ _).setC _ _).setC _ _).setC _ _).setC _ _).setC _ _).setC _ _).setC _ _).setC _ _).setC _ _).setC _ _).setC _ _).setC _ _).setC _ _).setC _ _).setC _ _
theorem blk15 {w : World} {b : Nat} (h : Blk w b (recC rec0)) (r : Rec) : Blk (((((((((((((((w.setCell ⟨b, 0, none⟩ (i64 r.kind)).setCell ⟨b, 1, none⟩ (u32 r.nn)).setCell ⟨b, 2, none⟩ (u32 r.ns)).setCell ⟨b, 3, none⟩ (u64 r.nt)).setCell ⟨b, 4, none⟩ (u32 r.nq)).setCell ⟨b, 5, none⟩ (i64 r.what)).setCell ⟨b, 6, none⟩ (i64 r.why)).setCell ⟨b, 7, none⟩ (u64 r.at')).setCell ⟨b, 8, none⟩ (u64 r.num)).setCell ⟨b, 9, none⟩ (u32 r.node)).setCell ⟨b, 10, none⟩ (u32 r.reg)).setCell ⟨b, 11, none⟩ (.bool r.yes)).setCell ⟨b, 12, none⟩ (u64 r.fro)).setCell ⟨b, 13, none⟩ (u64 r.til)).setCell ⟨b, 14, none⟩ (u8 r.lev)) b (recC r) := by
 have := (((((((((((((((h.set 0 (i64 r.kind)).set 1 (u32 r.nn)).set 2 (u32 r.ns)).set 3 (u64 r.nt)).set 4 (u32 r.nq)).set 5 (i64 r.what)).set 6 (i64 r.why)).set 7 (u64 r.at')).set 8 (u64 r.num)).set 9 (u32 r.node)).set 10 (u32 r.reg)).set 11 (.bool r.yes)).set 12 (u64 r.fro)).set 13 (u64 r.til)).set 14 (u8 r.lev))
 exact this
theorem decode1_c {w : World} {a : Nat} (h : Blk w a (recC rec0)) : FN Tryz.prog 153 [ptr a] w fun e w' => (∃ u, e = .returned u) ∧ w' = w := by
 refine FN_enter Tryz.func153 rfl rfl (by kernel_rfl) ?_
 have h' : Blk w a [i64 0,u32 0,u32 0,u64 0,u32 0,i64 0,i64 0,u64 0,u64 0,u32 0,u32 0,.bool false,u64 0,u64 0,u8 0] := h
 simp [h'.cell 0 _ rfl,h'.cell 1 _ rfl,h'.cell 2 _ rfl,h'.cell 3 _ rfl,h'.cell 4 _ rfl,h'.cell 5 _ rfl,h'.cell 6 _ rfl,h'.cell 7 _ rfl,h'.cell 8 _ rfl,h'.cell 9 _ rfl,h'.cell 10 _ rfl,h'.cell 11 _ rfl,h'.cell 12 _ rfl,h'.cell 13 _ rfl,h'.cell 14 _ rfl,h'.thaw,setCell_id (h'.cell 0 _ rfl),setCell_id (h'.cell 1 _ rfl),setCell_id (h'.cell 2 _ rfl),setCell_id (h'.cell 3 _ rfl),setCell_id (h'.cell 4 _ rfl),setCell_id (h'.cell 5 _ rfl),setCell_id (h'.cell 6 _ rfl),setCell_id (h'.cell 7 _ rfl),setCell_id (h'.cell 8 _ rfl),setCell_id (h'.cell 9 _ rfl),setCell_id (h'.cell 10 _ rfl),setCell_id (h'.cell 11 _ rfl),setCell_id (h'.cell 12 _ rfl),setCell_id (h'.cell 13 _ rfl),setCell_id (h'.cell 14 _ rfl)]
structure AdR (w w' : World) (o : It → Option Rec) (x : Except Int It) (e : Ending) : Prop where
 ext : Ext w w'
 err : ∀ c,x = .error c → e = .returned (.tuple #[recV rec0,i64 c])
 none : ∀ t,x = .ok t → o t = none → e = .returned (.tuple #[recV rec0,i64 180])
 some : ∀ t r,x = .ok t → o t = some r → e = .returned (.tuple #[recV r,i64 0])
set_option maxHeartbeats 2000000 in
theorem adecode_c {tx : ByteArray → Option Bool} {w : World} (hT : Txt tx w) {v : Value} {bs : List Int} (h : SlB w 1 v bs.length (bs.map u8)) (hok : ∀ x ∈ bs, 0 ≤ x ∧ x ≤ 255) (hne : firstP tx bs ≠ .error (-1)) (hbl : bs.length ≤ 9223372036854775807) {o : It → Option Rec}
  (hread : ∀ t,decP tx bs = .ok t → ∀ W cs,ItC W t cs → FN Tryz.prog 156 [.agg cs.toArray] W fun e W' => RcPost W W' (o t) e) : FN Tryz.prog 125 [v] w fun e w' => AdR w w' o (decP tx bs) e := by
 refine FN_enter Tryz.func125 rfl rfl (by kernel_rfl) ?_
 simp
 have hE1 : Ext w ((w.alloc (.cells #[i64 0,u32 0,u32 0,u64 0,u32 0,i64 0,i64 0,u64 0,u64 0,u32 0,u32 0,.bool false,u64 0,u64 0,u8 0] 42)).alloc (.cells #[i64 0] 48)) := ((Ext.refl w).alloc _).alloc _
 have x1 : Blk ((w.alloc (.cells #[i64 0,u32 0,u32 0,u64 0,u32 0,i64 0,i64 0,u64 0,u64 0,u32 0,u32 0,.bool false,u64 0,u64 0,u8 0] 42)).alloc (.cells #[i64 0] 48)) w.heap.size (recC rec0) := (Blk.new w (recC rec0) 42).ext ((Ext.refl _).alloc (.cells #[i64 0] 48))
 have v1 : Var ((w.alloc (.cells #[i64 0, u32 0, u32 0, u64 0, u32 0, i64 0, i64 0, u64 0, u64 0, u32 0, u32 0, .bool false, u64 0, u64 0, u8 0] 42)).alloc (.cells #[i64 0] 48)) (w.heap.size + 1) (i64 0) := by
  have := Var.new (w.alloc (.cells #[i64 0,u32 0,u32 0,u64 0,u32 0,i64 0,i64 0,u64 0,u64 0,u32 0,u32 0,.bool false,u64 0,u64 0,u8 0] 42)) (i64 0) 48
  simpa using this
 have z1 : ((w.alloc (.cells #[i64 0,u32 0,u32 0,u64 0,u32 0,i64 0,i64 0,u64 0,u64 0,u32 0,u32 0,.bool false,u64 0,u64 0,u8 0] 42)).alloc (.cells #[i64 0] 48)).heap.size = w.heap.size + 1 + 1 := by simp
 generalize ((w.alloc (.cells #[i64 0,u32 0,u32 0,u64 0,u32 0,i64 0,i64 0,u64 0,u64 0,u32 0,u32 0,.bool false,u64 0,u64 0,u8 0] 42)).alloc (.cells #[i64 0] 48)) = w1 at *
 obtain ⟨ra,hra⟩ : ∃ ra,ra = w.heap.size := ⟨_,rfl⟩
 obtain ⟨rc,hrc⟩ : ∃ rc,rc = w.heap.size + 1 := ⟨_,rfl⟩
 rw [← hrc] at v1
 rw [← hra] at x1
 rw [← hrc,← hra]
 have pan : ∀ (W : World) (c e0 : Int) (ρ : Env) (R : Ending → World → Prop), ρ 2 = ptr ra → ρ 3 = ptr rc → Blk W ra (recC rec0) → Var W rc (i64 e0) → (∀ W', Mod (fun k => k = rc) W W' → R (.returned (.tuple #[recV rec0, i64 c])) W') → LV Tryz.prog #[ResultVar.cell 2 42, ResultVar.cell 3 48] R ρ
   [{ target := .fn (.func 152) #[],args := #[ptr rc,.func (.func 153) #[] #[ptr ra]] }] (.panicking (panV c)) W := by
  intro W c e0 ρ R e2 e3 xW cW hR
  refine aLV_panic cW ?_
  rw [CV_func]
  have hM1 : Mod (fun k => k = rc) W (W.setCell ⟨rc,0,.none⟩ (i64 c)) := (Mod.refl _ _).setC _ _
  have xW1 := xW.mod hM1 (by omega)
  have cW1 := cW.set (i64 c)
  have hR' := hR _ hM1
  generalize (W.setCell ⟨rc,0,.none⟩ (i64 c)) = W1 at *
  refine FN.mono (decode1_c xW1) ?_
  rintro e3' W2 ⟨⟨u,rfl⟩,rfl⟩
  refine ⟨⟨u,rfl⟩,?_⟩
  simp [e2,e3,xW1.cell 0 _ rfl,xW1.cell 1 _ rfl,xW1.cell 2 _ rfl,xW1.cell 3 _ rfl,xW1.cell 4 _ rfl,xW1.cell 5 _ rfl,xW1.cell 6 _ rfl,xW1.cell 7 _ rfl,xW1.cell 8 _ rfl,xW1.cell 9 _ rfl,xW1.cell 10 _ rfl,xW1.cell 11 _ rfl,xW1.cell 12 _ rfl,xW1.cell 13 _ rfl,xW1.cell 14 _ rfl,cW1.cell]
  exact hR'
 have hd := cdecode_c (hT.more hE1) (h.ext hE1) hok hne hbl
 refine FN.mono hd ?_
 rintro e2 w2 ⟨hE2,hp2⟩
 have x2 := x1.ext hE2
 have v2 := v1.ext hE2
 have hE02 := hE1.trans hE2
 have s1 := hE1.size
 have s2 := hE2.size
 have hcode : ∀ c, decP tx bs = .error c → ¬ c = 0 := by
  intro c hc
  unfold decP at hc
  split at hc
  ·rename_i c' h'
   cases hc
   have := firstP_code h'
   unfold codeOk at this
   omega
  ·split at hc
   ·cases hc
   ·cases hc; omega
 cases hx : decP tx bs with
 | error c =>
  rw [hx] at hp2
  obtain rfl : e2 = _ := hp2
  have hc0 := hcode c hx
  have hE3 : Ext w2 (w2.alloc (.cells #[i64 0,u64 0,.slice none 0 0,.string ⟨#[]⟩,.slice none 0 0] 160)) := (Ext.refl _).alloc _
  have x3 := x2.ext hE3
  have v3 := v2.ext hE3
  have hne3 : rc ≠ w2.heap.size := by omega
  have hne3' : ra ≠ w2.heap.size := by omega
  have i3 : Blk (w2.alloc (.cells #[i64 0,u64 0,.slice none 0 0,.string ⟨#[]⟩,.slice none 0 0] 160)) w2.heap.size [i64 0,u64 0,.slice none 0 0,.string ⟨#[]⟩,.slice none 0 0] := Blk.new w2 _ 160
  have v4 := v3.set (i64 c)
  have hM4 : Mod (fun k => k = rc) (w2.alloc (.cells #[i64 0,u64 0,.slice none 0 0,.string ⟨#[]⟩,.slice none 0 0] 160)) ((w2.alloc (.cells #[i64 0,u64 0,.slice none 0 0,.string ⟨#[]⟩,.slice none 0 0] 160)).setCell ⟨rc,0,none⟩ (i64 c)) := (Mod.refl _ _).setC _ _
  have x4 := x3.mod hM4 (by omega)
  have z4 := hM4.size
  have hE4 : Ext w ((w2.alloc (.cells #[i64 0,u64 0,.slice none 0 0,.string ⟨#[]⟩,.slice none 0 0] 160)).setCell ⟨rc,0,none⟩ (i64 c)) := (hE02.trans hE3).setCell _ _ (by show w.heap.size ≤ rc; omega)
  simp [hc0,v3.cell,v3.thaw,v4.cell,setCell_id (i3.cell 0 _ rfl),setCell_id (i3.cell 1 _ rfl),setCell_id (i3.cell 2 _ rfl),setCell_id (i3.cell 3 _ rfl),setCell_id (i3.cell 4 _ rfl),i3.thaw]
  generalize (w2.alloc (.cells #[i64 0,u64 0,.slice none 0 0,.string ⟨#[]⟩,.slice none 0 0] 160)).setCell ⟨rc,0,none⟩ (i64 c) = w4 at *
  refine FN.mono (must_f c w4) ?_
  rintro _ w5 ⟨rfl,rfl⟩
  simp
  refine pan _ c c _ _ rfl rfl x4 v4 fun W' hM => ⟨((hE4.mod (S := fun _ => False)).trans' hM (fun i e => .inr (by omega))).ext (fun _ h => h.elim), ?_, ?_, ?_⟩
  ·intro c' hc'; cases hc'; rfl
  ·intro t ht; cases ht
  ·intro t r ht; cases ht
 | ok t =>
  rw [hx] at hp2
  obtain ⟨cs,rfl,hit⟩ := hp2
  obtain ⟨ia,im,ic,ia',im',ic',hcs⟩ := itC_form hit.any
  rw [hcs]
  have hE3 : Ext w2 (w2.alloc (.cells #[i64 t.k,u64 t.n,.slice ia im ic,.string t.s,.slice ia' im' ic'] 160)) := (Ext.refl _).alloc _
  have v3 := v2.ext hE3
  have x3 := x2.ext hE3
  have hne3 : rc ≠ w2.heap.size := by omega
  have i3 : Blk (w2.alloc (.cells #[i64 t.k,u64 t.n,.slice ia im ic,.string t.s,.slice ia' im' ic'] 160)) w2.heap.size [i64 t.k,u64 t.n,.slice ia im ic,.string t.s,.slice ia' im' ic'] := Blk.new w2 _ 160
  have hr3 := hread t hx _ cs (hit.any.ext hE3)
  rw [hcs] at hr3
  simp [v3.cell,v3.thaw,setCell_id v3.cell]
  generalize hw3 : w2.alloc (.cells #[i64 t.k,u64 t.n,.slice ia im ic,.string t.s,.slice ia' im' ic'] 160) = w3 at *
  refine FN.mono (must_t 0 w3) ?_
  rintro _ w5 ⟨⟨u,rfl⟩,rfl⟩
  simp [i3.cell 0 _ rfl,i3.cell 1 _ rfl,i3.cell 2 _ rfl,i3.cell 3 _ rfl,i3.cell 4 _ rfl]
  refine FN.mono hr3 ?_
  rintro e6 w6 ⟨hE6,hp6⟩
  have x6 := x3.ext hE6
  have v6 := v3.ext hE6
  have hE06 := (hE02.trans hE3).trans hE6
  cases ho : o t with
  | none =>
   rw [ho] at hp6
   obtain rfl : e6 = _ := hp6
   simp
   refine pan _ 180 0 _ _ rfl rfl x6 v6 fun W' hM => ⟨((hE06.mod (S := fun _ => False)).trans' hM (fun i e => .inr (by omega))).ext (fun _ h => h.elim), ?_, ?_, ?_⟩
   ·intro c' hc'; cases hc'
   ·intro t' ht _; rfl
   ·intro t' r ht hr; cases ht; rw [ho] at hr; cases hr
  | some r =>
   rw [ho] at hp6
   obtain rfl : e6 = _ := hp6
   have x6' : Blk w6 ra [i64 0,u32 0,u32 0,u64 0,u32 0,i64 0,i64 0,u64 0,u64 0,u32 0,u32 0,.bool false,u64 0,u64 0,u8 0] := x6
   have y0 := x6'
   have y1 := y0.set 0 (i64 r.kind)
   have y2 := y1.set 1 (u32 r.nn)
   have y3 := y2.set 2 (u32 r.ns)
   have y4 := y3.set 3 (u64 r.nt)
   have y5 := y4.set 4 (u32 r.nq)
   have y6 := y5.set 5 (i64 r.what)
   have y7 := y6.set 6 (i64 r.why)
   have y8 := y7.set 7 (u64 r.at')
   have y9 := y8.set 8 (u64 r.num)
   have y10 := y9.set 9 (u32 r.node)
   have y11 := y10.set 10 (u32 r.reg)
   have y12 := y11.set 11 (.bool r.yes)
   have y13 := y12.set 12 (u64 r.fro)
   have y14 := y13.set 13 (u64 r.til)
   simp [y0.cell 0 _ rfl,y1.cell 1 _ rfl,y2.cell 2 _ rfl,y3.cell 3 _ rfl,y4.cell 4 _ rfl,y5.cell 5 _ rfl,y6.cell 6 _ rfl,y7.cell 7 _ rfl,y8.cell 8 _ rfl,y9.cell 9 _ rfl,y10.cell 10 _ rfl,y11.cell 11 _ rfl,y12.cell 12 _ rfl,y13.cell 13 _ rfl,y14.cell 14 _ rfl,x6'.thaw,v6.thaw]
   clear y0 y1 y2 y3 y4 y5 y6 y7 y8 y9 y10 y11 y12 y13 y14
   have hM7 := mod15 w6 ra r
   have x7 := blk15 x6 r
   have v7 := v6.mod hM7 (by omega)
   have hE7 := ((hE06.mod (S := fun _ => False)).trans' hM7 (fun i e => .inr (by omega))).ext (fun _ h => h.elim)
   generalize (((((((((((((((w6.setCell ⟨ra,0,none⟩ (i64 r.kind)).setCell ⟨ra,1,none⟩ (u32 r.nn)).setCell ⟨ra,2,none⟩ (u32 r.ns)).setCell ⟨ra,3,none⟩ (u64 r.nt)).setCell ⟨ra,4,none⟩ (u32 r.nq)).setCell ⟨ra,5,none⟩ (i64 r.what)).setCell ⟨ra,6,none⟩ (i64 r.why)).setCell ⟨ra,7,none⟩ (u64 r.at')).setCell ⟨ra,8,none⟩ (u64 r.num)).setCell ⟨ra,9,none⟩ (u32 r.node)).setCell ⟨ra,10,none⟩ (u32 r.reg)).setCell ⟨ra,11,none⟩ (.bool r.yes)).setCell ⟨ra,12,none⟩ (u64 r.fro)).setCell ⟨ra,13,none⟩ (u64 r.til)).setCell ⟨ra,14,none⟩ (u8 r.lev)) = w7 at *
   simp [v7.cell,setCell_id v7.cell]
   refine LV_caught ?_
   have x7' : Blk w7 ra [i64 r.kind,u32 r.nn,u32 r.ns,u64 r.nt,u32 r.nq,i64 r.what,i64 r.why,u64 r.at',u64 r.num,u32 r.node,u32 r.reg,.bool r.yes,u64 r.fro,u64 r.til,u8 r.lev] := x7
   simp [x7'.cell 0 _ rfl,x7'.cell 1 _ rfl,x7'.cell 2 _ rfl,x7'.cell 3 _ rfl,x7'.cell 4 _ rfl,x7'.cell 5 _ rfl,x7'.cell 6 _ rfl,x7'.cell 7 _ rfl,x7'.cell 8 _ rfl,x7'.cell 9 _ rfl,x7'.cell 10 _ rfl,x7'.cell 11 _ rfl,x7'.cell 12 _ rfl,x7'.cell 13 _ rfl,x7'.cell 14 _ rfl,v7.cell]
   refine ⟨hE7, ?_, ?_, ?_⟩
   ·intro c' hc'; cases hc'
   ·intro t' ht hn; cases ht; rw [ho] at hn; cases hn
   ·intro t' r' ht hr; cases ht; rw [ho] at hr; cases hr; rfl
end Go.Proofs
namespace Go.Proofs
open Pk
set_option maxRecDepth 10000
end Go.Proofs
namespace Go.Proofs
open Pk
set_option maxRecDepth 10000
theorem headB_ok {m n : Int} (hm : 0 ≤ m ∧ m ≤ 7) (h0 : 0 ≤ n) : ∀ x ∈ headB m n, 0 ≤ x ∧ x ≤ 255 := by
 intro x hx
 unfold headB at hx
 split at hx
 ·simp only [List.mem_cons,List.not_mem_nil,or_false] at hx
  omega
 ·rcases List.mem_cons.1 hx with rfl | hx
  ·unfold widX
   repeat' split
   all_goals omega
  ·exact beN_ok _ _ x hx
theorem bytesL_ok {l : List It} (h : ∀ t ∈ l, ∀ x ∈ bytesI t, 0 ≤ x ∧ x ≤ 255) : ∀ x ∈ bytesL l, 0 ≤ x ∧ x ≤ 255 := by
 induction l with
 | nil => intro x hx; simp [bytesL] at hx
 | cons t l ih =>
  intro x hx
  rw [bytesL,List.mem_append] at hx
  rcases hx with hx | hx
  ·exact h t (by simp) x hx
  ·exact ih (fun y hy => h y (by simp [hy])) x hx
theorem Rdy.bytes {d : Nat} {t : It} (h : Rdy d t) : ∀ x ∈ bytesI t, 0 ≤ x ∧ x ≤ 255 := by
 induction h with
 | uint d n h0 h1 => rw [bytesI_uint]; exact headB_ok (by omega) h0
 | bool d n h =>
  rw [bytesI_bool]
  intro x hx
  simp only [List.mem_cons,List.not_mem_nil,or_false] at hx
  omega
 | list d l hl h ih =>
  rw [bytesI_list]
  intro x hx
  rcases List.mem_append.1 hx with hx | hx
  ·exact headB_ok (by omega) (by omega) x hx
  ·exact bytesL_ok ih x hx
theorem itemR_rdy {r : Rec} (hr : RecOk r) (h : rightE r = 0) : Rdy 5 (itemR r) ∧ (bytesR r).length ≤ 2000 := by
 obtain ⟨_,_,_,_,_,_,hl,hp⟩ := lay_of hr h
 exact itemR_ok (right_inv h).1 hp hl.2
end Go.Proofs