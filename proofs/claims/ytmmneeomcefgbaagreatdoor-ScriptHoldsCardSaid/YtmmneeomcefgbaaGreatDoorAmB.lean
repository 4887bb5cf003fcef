/-
 Contracts of the functions that the law reaches,step by step.
-/
import Derived.Test.YtmmneeomcefgbaaGreatDoorAmA
import Derived.Test.YtmmneeomcefgbaaGreatDoorAdD
namespace Go.Proofs
open Pk
set_option maxRecDepth 10000
theorem next_t {w : World} {b : Nat} {v : Value} {n : Nat} {k x : Int} {c2 c3 c4 : Value} {cs rest : List Value} (hb : Blk w b [v]) (hv : Sl w 5 v (n + 1) (cs ++ rest)) (hne : slB v ≠ b) (hcs : cs = [i64 k, u64 x, c2, c3, c4]) (h2 : ∃ a l c, c2 = .slice a l c) (h3 : ∃ s, c3 = .string s) (h4 : ∃ a l c, c4 = .slice a l c) :
  FN Tryz.prog 259 [ptr b] w fun e w' => e = .returned (.agg #[i64 k,u64 x,c2,c3,c4]) ∧ ∃ v',Blk w' b [v'] ∧ Sl w' 5 v' n rest ∧ slB v' = slB v ∧ Mod (fun k => k = b) w w' := by
 refine FN_enter Tryz.func259 rfl rfl (by kernel_rfl) ?_
 obtain ⟨va,vc,hv'⟩ := hv.isSlice
 subst hv'
 obtain ⟨a2,l2,c2',rfl⟩ := h2
 obtain ⟨s3,rfl⟩ := h3
 obtain ⟨a4,l4,c4',rfl⟩ := h4
 subst hcs
 have hlen := fun ty W => hv.isLen (P := Tryz.prog) (t := 158) (by simp) ty W
 have hE := (Ext.refl w).alloc (.cells #[i64 0,u64 0,.slice none 0 0,.string ⟨#[]⟩,.slice none 0 0] 160)
 have o2 : Blk (w.alloc (.cells #[i64 0,u64 0,.slice none 0 0,.string ⟨#[]⟩,.slice none 0 0] 160)) w.heap.size [i64 0,u64 0,.slice none 0 0,.string ⟨#[]⟩,.slice none 0 0] := Blk.new w _ _
 have hp : (0 : Int) < (n : Int) + 1 := by omega
 simp [hb.cell 0 _ rfl,hlen,hp]
 have hlb := hb.lt
 have b1 := hb.ext hE
 have s1 := hv.ext hE
 have hsz : (w.alloc (.cells #[i64 0,u64 0,.slice none 0 0,.string ⟨#[]⟩,.slice none 0 0] 160)).heap.size = w.heap.size + 1 := by simp
 generalize (w.alloc (.cells #[i64 0,u64 0,.slice none 0 0,.string ⟨#[]⟩,.slice none 0 0] 160)) = w1 at *
 refine FN.mono (must_t 180 w1) ?_
 rintro _ w2 ⟨⟨u,rfl⟩,h2⟩
 subst h2
 obtain ⟨u,hu,hS,hsb⟩ := sl_tail (P := Tryz.prog) (t := 158) s1 (by simp) (fun W => by simp) .i64 1 (by omega)
 have ix := fun W => hv.index (P := Tryz.prog) (t := 158) (by simp) .i64 0 (by omega) (by omega) W
 simp
 refine WC_drawC 13 (.F 0 <| .F 1 <| .F 2 <| .F 3 <| .F 4 <| .F 5 <| .F 6 <| .F 7 <| .F 8 <| .F 9 <| .F 10 <| .F 11 <| .C 12 <| .Z) (fun k => decide (k = w.heap.size)) rfl (by kernel_rfl) fun W hW => ?_
 have hWE : Ext w2 W := hW ▸ Ext.drew _
 have b2 := b1.ext hWE
 have s2 := s1.ext hWE
 have p2 := o2.ext hWE
 have hbx : decide (b = w.heap.size) = false := by simp; omega
 have hvlt := s1.lt (by simp)
 have hvx : decide (slB (.slice va (n + 1) vc) = w.heap.size) = false := by
  have := hv.lt (by simp)
  rw [decide_eq_false_iff_not]; omega
 have d := fun (j : Nat) (u : Value) (e : ([i64 k,u64 x,.slice a2 l2 c2',.string s3,.slice a4 l4 c4'] ++ rest)[j]? = some u) => s2.at_ j u e
 have hu' := hu
 simp only [Int.cast_ofNat_Int] at hu'
 have d0 := d 0 _ rfl
 simp only [Nat.add_zero] at d0
 simp [b2.cell 0 _ rfl,ix,d0,d 1 _ rfl,d 2 _ rfl,d 3 _ rfl,d 4 _ rfl,hbx,hvx,hu',p2.cell 0 _ rfl,p2.cell 1 _ rfl,p2.cell 2 _ rfl,p2.cell 3 _ rfl,p2.cell 4 _ rfl,p2.thaw,cell_setCell]
 have hM3 : Mod (fun k => k = w.heap.size) W (((((W.setCell ⟨w.heap.size, 0, none⟩ (i64 k)).setCell ⟨w.heap.size, 1, none⟩ (u64 x)).setCell ⟨w.heap.size, 2, none⟩ (.slice a2 l2 c2')).setCell ⟨w.heap.size, 3, none⟩ (.string s3)).setCell ⟨w.heap.size, 4, none⟩ (.slice a4 l4 c4')) :=
  (((((Mod.refl _ W).setC 0 _).setC 1 _).setC 2 _).setC 3 _).setC 4 _
 have p3 := ((((p2.set 0 (i64 k)).set 1 (u64 x)).set 2 (.slice a2 l2 c2')).set 3 (.string s3)).set 4 (.slice a4 l4 c4')
 have b3 := b2.mod hM3 (by omega)
 have s3' := (hS W s2).mod hM3 (by rw [hsb]; have := hv.lt (by simp); omega)
 obtain ⟨ua,uc,hu2⟩ := (hS W s2).isSlice
 subst hu2
 generalize (((((W.setCell ⟨w.heap.size,0,none⟩ (i64 k)).setCell ⟨w.heap.size,1,none⟩ (u64 x)).setCell ⟨w.heap.size,2,none⟩ (.slice a2 l2 c2')).setCell ⟨w.heap.size,3,none⟩ (.string s3)).setCell ⟨w.heap.size,4,none⟩ (.slice a4 l4 c4')) = W3 at *
 refine KR_mk (hM3.agr fun k hk e => by rw [decide_eq_false_iff_not] at hk; exact hk e) ?_
 simp only [List.set_cons_zero,List.set_cons_succ] at p3
 have hbw : ¬ b = w.heap.size := by omega
 have hwb : ¬ w.heap.size = b := by omega
 simp [b3.cell 0 _ rfl,b3.thaw,p3.cell 0 _ rfl,p3.cell 1 _ rfl,p3.cell 2 _ rfl,p3.cell 3 _ rfl,p3.cell 4 _ rfl,p3.thaw,cell_setCell,hwb]
 have hM4 : Mod (fun k => k = b) W3 (W3.setCell ⟨b,0,none⟩ (.slice ua n uc)) := (Mod.refl _ _).setC _ _
 have b4 := b3.set 0 (.slice ua n uc)
 have s4 := s3'.mod hM4 (by rw [hsb]; exact hne)
 generalize (W3.setCell ⟨b,0,none⟩ (.slice ua n uc)) = W4 at *
 have hM5 : Mod (fun k => k = w.heap.size) W4 (((((W4.setCell ⟨w.heap.size, 0, none⟩ (i64 k)).setCell ⟨w.heap.size, 1, none⟩ (u64 x)).setCell ⟨w.heap.size, 2, none⟩ (.slice a2 l2 c2')).setCell ⟨w.heap.size, 3, none⟩ (.string s3)).setCell ⟨w.heap.size, 4, none⟩ (.slice a4 l4 c4')) :=
  (((((Mod.refl _ W4).setC 0 _).setC 1 _).setC 2 _).setC 3 _).setC 4 _
 refine ⟨_, b4.mod hM5 (by omega), ?_, hsb, ?_⟩
 ·have := s4.mod hM5 (by rw [hsb]; have := hv.lt (by simp); omega)
  simpa using this
 ·exact ((((hE.trans hWE).mod (S := fun k => k = b)).trans' hM3 (fun i hi => .inr (by omega))).trans hM4).trans' hM5 fun i hi => .inr (by omega)
theorem upTou64_t {w : World} {b : Nat} {v : Value} {n : Nat} {x bd : Int} {c2 c3 c4 : Value} {rest : List Value} (hb : Blk w b [v]) (hv : Sl w 5 v (n + 1) ([i64 1, u64 x, c2, c3, c4] ++ rest)) (hne : slB v ≠ b) (h2 : ∃ a l c, c2 = .slice a l c) (h3 : ∃ s, c3 = .string s) (h4 : ∃ a l c, c4 = .slice a l c) (hx : x ≤ bd) (hw : IntKind.u64.wrap x = x) :
  FN Tryz.prog 205 [ptr b,u64 bd] w fun e w' => e = .returned (.int .u64 x) ∧ ∃ v',Blk w' b [v'] ∧ Sl w' 5 v' n rest ∧ slB v' = slB v ∧ Mod (fun k => k = b) w w' := by
 refine FN_enter Tryz.func205 rfl rfl (by kernel_rfl) ?_
 simp
 refine FN.mono (next_t hb hv hne rfl h2 h3 h4) ?_
 rintro _ w1 ⟨rfl,v',hb1,hs1,hsb,hM1⟩
 obtain ⟨a2,l2,c2',rfl⟩ := h2
 obtain ⟨s3,rfl⟩ := h3
 obtain ⟨a4,l4,c4',rfl⟩ := h4
 simp
 have hE2 : Ext w1 (w1.alloc (.cells #[i64 1,u64 x,.slice a2 l2 c2',.string s3,.slice a4 l4 c4'] 160)) := (Ext.refl _).alloc _
 have o2 : Blk (w1.alloc (.cells #[i64 1,u64 x,.slice a2 l2 c2',.string s3,.slice a4 l4 c4'] 160)) w1.heap.size [i64 1,u64 x,.slice a2 l2 c2',.string s3,.slice a4 l4 c4'] := Blk.new w1 _ _
 generalize (w1.alloc (.cells #[i64 1,u64 x,.slice a2 l2 c2',.string s3,.slice a4 l4 c4'] 160)) = w2 at *
 simp [hx]
 refine FN.mono (must_t 180 w2) ?_
 rintro _ w3 ⟨⟨u,rfl⟩,h3⟩
 subst h3
 simp [o2.cell 1 _ rfl]
 exact ⟨v',hb1.ext hE2,hs1.ext hE2,hsb,hM1.trans hE2.mod⟩
theorem upTou32_t {w : World} {b : Nat} {v : Value} {n : Nat} {x bd : Int} {c2 c3 c4 : Value} {rest : List Value} (hb : Blk w b [v]) (hv : Sl w 5 v (n + 1) ([i64 1, u64 x, c2, c3, c4] ++ rest)) (hne : slB v ≠ b) (h2 : ∃ a l c, c2 = .slice a l c) (h3 : ∃ s, c3 = .string s) (h4 : ∃ a l c, c4 = .slice a l c) (hx : x ≤ bd) (hw : IntKind.u32.wrap x = x) :
  FN Tryz.prog 262 [ptr b,u64 bd] w fun e w' => e = .returned (.int .u32 x) ∧ ∃ v',Blk w' b [v'] ∧ Sl w' 5 v' n rest ∧ slB v' = slB v ∧ Mod (fun k => k = b) w w' := by
 refine FN_enter Tryz.func262 rfl rfl (by kernel_rfl) ?_
 simp
 refine FN.mono (next_t hb hv hne rfl h2 h3 h4) ?_
 rintro _ w1 ⟨rfl,v',hb1,hs1,hsb,hM1⟩
 obtain ⟨a2,l2,c2',rfl⟩ := h2
 obtain ⟨s3,rfl⟩ := h3
 obtain ⟨a4,l4,c4',rfl⟩ := h4
 simp
 have hE2 : Ext w1 (w1.alloc (.cells #[i64 1,u64 x,.slice a2 l2 c2',.string s3,.slice a4 l4 c4'] 160)) := (Ext.refl _).alloc _
 have o2 : Blk (w1.alloc (.cells #[i64 1,u64 x,.slice a2 l2 c2',.string s3,.slice a4 l4 c4'] 160)) w1.heap.size [i64 1,u64 x,.slice a2 l2 c2',.string s3,.slice a4 l4 c4'] := Blk.new w1 _ _
 generalize (w1.alloc (.cells #[i64 1,u64 x,.slice a2 l2 c2',.string s3,.slice a4 l4 c4'] 160)) = w2 at *
 simp [hx]
 refine FN.mono (must_t 180 w2) ?_
 rintro _ w3 ⟨⟨u,rfl⟩,h3⟩
 subst h3
 simp [o2.cell 1 _ rfl,hw]
 exact ⟨v',hb1.ext hE2,hs1.ext hE2,hsb,hM1.trans hE2.mod⟩
theorem upTou8_t {w : World} {b : Nat} {v : Value} {n : Nat} {x bd : Int} {c2 c3 c4 : Value} {rest : List Value} (hb : Blk w b [v]) (hv : Sl w 5 v (n + 1) ([i64 1, u64 x, c2, c3, c4] ++ rest)) (hne : slB v ≠ b) (h2 : ∃ a l c, c2 = .slice a l c) (h3 : ∃ s, c3 = .string s) (h4 : ∃ a l c, c4 = .slice a l c) (hx : x ≤ bd) (hw : IntKind.u8.wrap x = x) :
  FN Tryz.prog 216 [ptr b,u64 bd] w fun e w' => e = .returned (.int .u8 x) ∧ ∃ v',Blk w' b [v'] ∧ Sl w' 5 v' n rest ∧ slB v' = slB v ∧ Mod (fun k => k = b) w w' := by
 refine FN_enter Tryz.func216 rfl rfl (by kernel_rfl) ?_
 simp
 refine FN.mono (next_t hb hv hne rfl h2 h3 h4) ?_
 rintro _ w1 ⟨rfl,v',hb1,hs1,hsb,hM1⟩
 obtain ⟨a2,l2,c2',rfl⟩ := h2
 obtain ⟨s3,rfl⟩ := h3
 obtain ⟨a4,l4,c4',rfl⟩ := h4
 simp
 have hE2 : Ext w1 (w1.alloc (.cells #[i64 1,u64 x,.slice a2 l2 c2',.string s3,.slice a4 l4 c4'] 160)) := (Ext.refl _).alloc _
 have o2 : Blk (w1.alloc (.cells #[i64 1,u64 x,.slice a2 l2 c2',.string s3,.slice a4 l4 c4'] 160)) w1.heap.size [i64 1,u64 x,.slice a2 l2 c2',.string s3,.slice a4 l4 c4'] := Blk.new w1 _ _
 generalize (w1.alloc (.cells #[i64 1,u64 x,.slice a2 l2 c2',.string s3,.slice a4 l4 c4'] 160)) = w2 at *
 simp [hx]
 refine FN.mono (must_t 180 w2) ?_
 rintro _ w3 ⟨⟨u,rfl⟩,h3⟩
 subst h3
 simp [o2.cell 1 _ rfl,hw]
 exact ⟨v',hb1.ext hE2,hs1.ext hE2,hsb,hM1.trans hE2.mod⟩
theorem upToi64_t {w : World} {b : Nat} {v : Value} {n : Nat} {x bd : Int} {c2 c3 c4 : Value} {rest : List Value} (hb : Blk w b [v]) (hv : Sl w 5 v (n + 1) ([i64 1, u64 x, c2, c3, c4] ++ rest)) (hne : slB v ≠ b) (h2 : ∃ a l c, c2 = .slice a l c) (h3 : ∃ s, c3 = .string s) (h4 : ∃ a l c, c4 = .slice a l c) (hx : x ≤ bd) (hw : IntKind.i64.wrap x = x) :
  FN Tryz.prog 222 [ptr b,u64 bd] w fun e w' => e = .returned (.int .i64 x) ∧ ∃ v',Blk w' b [v'] ∧ Sl w' 5 v' n rest ∧ slB v' = slB v ∧ Mod (fun k => k = b) w w' := by
 refine FN_enter Tryz.func222 rfl rfl (by kernel_rfl) ?_
 simp
 refine FN.mono (next_t hb hv hne rfl h2 h3 h4) ?_
 rintro _ w1 ⟨rfl,v',hb1,hs1,hsb,hM1⟩
 obtain ⟨a2,l2,c2',rfl⟩ := h2
 obtain ⟨s3,rfl⟩ := h3
 obtain ⟨a4,l4,c4',rfl⟩ := h4
 simp
 have hE2 : Ext w1 (w1.alloc (.cells #[i64 1,u64 x,.slice a2 l2 c2',.string s3,.slice a4 l4 c4'] 160)) := (Ext.refl _).alloc _
 have o2 : Blk (w1.alloc (.cells #[i64 1,u64 x,.slice a2 l2 c2',.string s3,.slice a4 l4 c4'] 160)) w1.heap.size [i64 1,u64 x,.slice a2 l2 c2',.string s3,.slice a4 l4 c4'] := Blk.new w1 _ _
 generalize (w1.alloc (.cells #[i64 1,u64 x,.slice a2 l2 c2',.string s3,.slice a4 l4 c4'] 160)) = w2 at *
 simp [hx]
 refine FN.mono (must_t 180 w2) ?_
 rintro _ w3 ⟨⟨u,rfl⟩,h3⟩
 subst h3
 simp [o2.cell 1 _ rfl,hw]
 exact ⟨v',hb1.ext hE2,hs1.ext hE2,hsb,hM1.trans hE2.mod⟩
end Go.Proofs
namespace Go.Proofs
open Pk
set_option maxRecDepth 10000
theorem node_t {w : World} {b : Nat} {v : Value} {n : Nat} {x : Int} {c2 c3 c4 : Value} {rest : List Value} (hb : Blk w b [v]) (hv : Sl w 5 v (n + 1) ([i64 1, u64 x, c2, c3, c4] ++ rest)) (hne : slB v ≠ b) (h2 : ∃ a l c, c2 = .slice a l c) (h3 : ∃ s, c3 = .string s) (h4 : ∃ a l c, c4 = .slice a l c) (h0 : 0 ≤ x) (hx : x ≤ 4294967295) :
  FN Tryz.prog 206 [ptr b] w fun e w' => e = .returned (u32 x) ∧ ∃ v',Blk w' b [v'] ∧ Sl w' 5 v' n rest ∧ slB v' = slB v ∧ Mod (fun k => k = b) w w' := by
 refine FN_enter Tryz.func206 rfl rfl (by kernel_rfl) ?_
 simp
 refine FN.mono (upTou32_t hb hv hne h2 h3 h4 hx (wrap32u _ h0 hx)) ?_
 rintro _ w1 ⟨rfl,h⟩
 simp
 exact h
theorem time_t {w : World} {b : Nat} {v : Value} {n : Nat} {x : Int} {c2 c3 c4 : Value} {rest : List Value} (hb : Blk w b [v]) (hv : Sl w 5 v (n + 1) ([i64 1, u64 x, c2, c3, c4] ++ rest)) (hne : slB v ≠ b) (h2 : ∃ a l c, c2 = .slice a l c) (h3 : ∃ s, c3 = .string s) (h4 : ∃ a l c, c4 = .slice a l c) (h0 : 0 ≤ x) (hx : x ≤ 4611686018427387903) :
  FN Tryz.prog 212 [ptr b] w fun e w' => e = .returned (u64 x) ∧ ∃ v',Blk w' b [v'] ∧ Sl w' 5 v' n rest ∧ slB v' = slB v ∧ Mod (fun k => k = b) w w' := by
 refine FN_enter Tryz.func212 rfl rfl (by kernel_rfl) ?_
 simp
 refine FN.mono (upTou64_t hb hv hne h2 h3 h4 hx (wrap64u _ h0 (by omega))) ?_
 rintro _ w1 ⟨rfl,h⟩
 simp
 exact h
theorem yes_t {w : World} {b : Nat} {v : Value} {n : Nat} {x : Int} {c2 c3 c4 : Value} {rest : List Value} (hb : Blk w b [v]) (hv : Sl w 5 v (n + 1) ([i64 5, u64 x, c2, c3, c4] ++ rest)) (hne : slB v ≠ b) (h2 : ∃ a l c, c2 = .slice a l c) (h3 : ∃ s, c3 = .string s) (h4 : ∃ a l c, c4 = .slice a l c) :
  FN Tryz.prog 211 [ptr b] w fun e w' => e = .returned (.bool (decide (x = 1))) ∧ ∃ v',Blk w' b [v'] ∧ Sl w' 5 v' n rest ∧ slB v' = slB v ∧ Mod (fun k => k = b) w w' := by
 refine FN_enter Tryz.func211 rfl rfl (by kernel_rfl) ?_
 simp
 refine FN.mono (next_t hb hv hne rfl h2 h3 h4) ?_
 rintro _ w1 ⟨rfl,v',hb1,hs1,hsb,hM1⟩
 obtain ⟨a2,l2,c2',rfl⟩ := h2
 obtain ⟨s3,rfl⟩ := h3
 obtain ⟨a4,l4,c4',rfl⟩ := h4
 simp
 have hE2 : Ext w1 (w1.alloc (.cells #[i64 5,u64 x,.slice a2 l2 c2',.string s3,.slice a4 l4 c4'] 160)) := (Ext.refl _).alloc _
 have o2 : Blk (w1.alloc (.cells #[i64 5,u64 x,.slice a2 l2 c2',.string s3,.slice a4 l4 c4'] 160)) w1.heap.size [i64 5,u64 x,.slice a2 l2 c2',.string s3,.slice a4 l4 c4'] := Blk.new w1 _ _
 generalize (w1.alloc (.cells #[i64 5,u64 x,.slice a2 l2 c2',.string s3,.slice a4 l4 c4'] 160)) = w2 at *
 refine FN.mono (must_t 180 w2) ?_
 rintro _ w3 ⟨⟨u,rfl⟩,h3⟩
 subst h3
 simp [beq_dec,o2.cell 1 _ rfl]
 exact ⟨v',hb1.ext hE2,hs1.ext hE2,hsb,hM1.trans hE2.mod⟩
abbrev fnV (f : Nat) : Value := .func (.func f) #[] #[]
def kdL : List (Int × List Value) :=
 [(1, [.string ⟨#[114, 101, 112, 111, 114, 116]⟩, fnV 254, fnV 257, fnV 260]), (2, [.string ⟨#[97, 115, 107]⟩, fnV 201, fnV 204, fnV 207]), (3, [.string ⟨#[116, 101, 108, 108]⟩, fnV 208, fnV 210, fnV 207]),
  (4,[.string ⟨#[102,111,114,101]⟩,fnV 213,fnV 215,fnV 217]),(5,[.string ⟨#[109,101,109,98,101,114]⟩,fnV 219,fnV 220,fnV 207])]
abbrev agE (l : List Value) : Value := .agg l.toArray
theorem krk : KeyEq Tryz.prog 38 (Value.int .i64) := keyEq_int (by simp)
theorem tkd : Tryz.prog.underlying 211 = some (.map 38 210) := by simp
theorem zkd (w : World) : (zeroValue 210).run Tryz.prog w = .ok (agE [.string ⟨#[]⟩,.nilFunc,.nilFunc,.nilFunc]) w := by simp
theorem report_c (w : World) : FN Tryz.prog 200 [] w fun e w' => e = .returned (agE [.string ⟨#[114, 101, 112, 111, 114, 116]⟩, fnV 254, fnV 257, fnV 260]) ∧ Ext w w' := by
 refine FN_enter Tryz.func200 rfl rfl (by kernel_rfl) ?_
 simp
 exact (Ext.refl w).alloc _
theorem kinds_c (w : World) : FN Tryz.prog 151 [] w fun e w' => ∃ r, e = .returned (.map (some r)) ∧ MapAt (Value.int .i64) agE w' r kdL ∧ Ext w w' := by
 refine FN_enter Tryz.func151 rfl rfl (by kernel_rfl) ?_
 simp
 have m0 := MapAt.alloc0 (Value.int .i64) agE w
 have hE1 : Ext w (w.alloc (.map #[] 0)) := (Ext.refl w).alloc _
 obtain ⟨r,hr⟩ : ∃ r,r = w.heap.size := ⟨_,rfl⟩
 rw [← hr] at m0 ⊢
 generalize (w.alloc (.map #[] 0)) = w1 at *
 refine FN.mono (report_c w1) ?_
 rintro _ w2 ⟨rfl,hE2⟩
 have m2 := m0.ext hE2
 obtain ⟨w3,u3,m3,h3,-⟩ := m2.update (P := Tryz.prog) krk tkd 1 [.string ⟨#[114,101,112,111,114,116]⟩,fnV 254,fnV 257,fnV 260]
 obtain ⟨w4,u4,m4,h4,-⟩ := m3.update (P := Tryz.prog) krk tkd 2 [.string ⟨#[97,115,107]⟩,fnV 201,fnV 204,fnV 207]
 obtain ⟨w5,u5,m5,h5,-⟩ := m4.update (P := Tryz.prog) krk tkd 3 [.string ⟨#[116,101,108,108]⟩,fnV 208,fnV 210,fnV 207]
 obtain ⟨w6,u6,m6,h6,-⟩ := m5.update (P := Tryz.prog) krk tkd 4 [.string ⟨#[102,111,114,101]⟩,fnV 213,fnV 215,fnV 217]
 obtain ⟨w7,u7,m7,h7,-⟩ := m6.update (P := Tryz.prog) krk tkd 5 [.string ⟨#[109,101,109,98,101,114]⟩,fnV 219,fnV 220,fnV 207]
 simp [u3,u4,u5,u6,u7]
 refine ⟨m7,?_⟩
 exact (((((((hE1.trans hE2).mod (S := fun k => w.heap.size ≤ k)).trans (h3.weaken fun k hk => by omega)).trans (h4.weaken fun k hk => by omega)).trans (h5.weaken fun k hk => by omega)).trans (h6.weaken fun k hk => by omega)).trans (h7.weaken fun k hk => by omega)).ext fun _ h => h
end Go.Proofs
namespace Go.Proofs
open Pk
set_option maxRecDepth 10000
structure Rd (w0 w : World) (b : Nat) (l : List It) : Prop where
 row : ∃ v css,Blk w b [v] ∧ SlB w0 5 v l.length css.flatten ∧ ItCs w0 l css
 ext : Ext w0 w
 lt : w0.heap.size ≤ b
 nn : ∀ x ∈ l,0 ≤ x.n
theorem Rd.ext' {w0 w w' : World} {b : Nat} {l : List It} (h : Rd w0 w b l) (hM : Mod (fun k => w0.heap.size ≤ k ∧ k ≠ b) w w') : Rd w0 w' b l := by
 obtain ⟨⟨v,css,h1,h2,h3⟩,h4,h5,h6⟩ := h
 exact ⟨⟨v,css,h1.mod hM (fun h => h.2 rfl),h2,h3⟩,((h4.mod (S := fun k => w0.heap.size ≤ k)).trans (hM.weaken fun k hk => hk.1)).ext fun _ h => h,h5,h6⟩
theorem Rd.more {w0 w w' : World} {b : Nat} {l : List It} (h : Rd w0 w b l) (hE : Ext w w') : Rd w0 w' b l := h.ext' hE.mod
def RdPost {α : Type} (w0 w w' : World) (b : Nat) (o : Option (α × List It)) (f : α → Value) (e : Ending) : Prop :=
 Mod (fun k => k = b) w w' ∧ match o with | none => e = .panicked (panV 180) | some (x,r) => e = .returned (f x) ∧ Rd w0 w' b r
theorem SlB.back {w0 w : World} {s : Nat} {v : Value} {n : Nat} {cs : List Value} (h : SlB w s v n cs) (hE : Ext w0 w) (hl : cs ≠ [] → slB v < w0.heap.size) : SlB w0 s v n cs := by
 refine ⟨h.len,h.val,fun j u hj => ?_⟩
 have hb := hl (fun e => by rw [e] at hj; simp at hj)
 have := h.at_ j u hj
 unfold World.cell? at this ⊢
 rw [hE.blk _ hb] at this
 exact this
theorem rd_next {w0 w : World} {b : Nat} {l : List It} (h : Rd w0 w b l) : FN Tryz.prog 259 [ptr b] w fun e w' => Mod (fun k => k = b) w w' ∧
  match l with
  | [] => e = .panicked (panV 180)
  | x :: r => (∃ cs ba bc la lc css,e = .returned (.agg cs.toArray) ∧ ItO w0 x cs (.slice ba x.b.length bc) (.slice la x.l.length lc) css) ∧ Rd w0 w' b r := by
 obtain ⟨⟨v,css,hb,hv,hc⟩,hE,hlt,hn⟩ := h
 cases l with
 | nil =>
  have hcss : css = [] := by simpa [ItPs] using hc
  subst hcss
  obtain ⟨va,vc,rfl⟩ := hv.isSlice
  refine FN_enter Tryz.func259 rfl rfl (by kernel_rfl) ?_
  have hlen := fun ty W => hv.isLen (P := Tryz.prog) (t := 158) (by simp) ty W
  have hE1 := (Ext.refl w).alloc (.cells #[i64 0,u64 0,.slice none 0 0,.string ⟨#[]⟩,.slice none 0 0] 160)
  simp [hb.cell 0 _ rfl]
  generalize (w.alloc (.cells #[i64 0,u64 0,.slice none 0 0,.string ⟨#[]⟩,.slice none 0 0] 160)) = w1 at *
  refine FN.mono (must_f 180 w1) ?_
  rintro _ w2 ⟨rfl,h2⟩
  subst h2
  simp
  exact hE1.mod
 | cons x r =>
  have hc' : ItPs (fun _ => True) w0 (x :: r) css := hc
  rw [ItPs] at hc'
  obtain ⟨c,rs,rfl,hx,hr⟩ := hc'
  obtain ⟨ba,bc,la,lc,css',hO⟩ := itO hx
  have ec := hO.cs
  have hS : Sl w 5 v (r.length + 1) (c ++ rs.flatten) := by
   have := (hv.toSl (by simp)).ext hE
   simpa using this
  have hvb : slB v < w0.heap.size := (hv.toSl (by simp)).lt (by rw [hv.len]; simp)
  refine FN.mono (next_t (k := x.k) (x := x.n) (c2 := .slice ba x.b.length bc) (c3 := .string x.s) (c4 := .slice la x.l.length lc) hb hS (by omega) ec ⟨_,_,_,rfl⟩ ⟨_,rfl⟩ ⟨_,_,_,rfl⟩) ?_
  rintro _ w' ⟨rfl,v',hb',hS',hsb,hM⟩
  have hE' : Ext w0 w' := ((hE.mod (S := fun k => w0.heap.size ≤ k)).trans (hM.weaken fun k hk => by omega)).ext fun _ h => h
  refine ⟨hM,⟨c,ba,bc,la,lc,css',by rw [ec],hO⟩,⟨v',rs,hb',SlB.back hS'.toB hE' (fun _ => by omega),hr⟩,hE',hlt,fun y hy => hn y (List.mem_cons_of_mem _ hy)⟩
def upI (l : List It) (bd : Int) : Option (Int × List It) := match l with | [] => none | x :: r => if x.k = 1 ∧ x.n ≤ bd then some (x.n,r) else none
def yesI (l : List It) : Option (Bool × List It) := match l with | [] => none | x :: r => if x.k = 5 then some (decide (x.n = 1),r) else none
theorem rdUpu64 {w0 w : World} {b : Nat} {l : List It} (h : Rd w0 w b l) (bd : Int) (hbd : ∀ x, 0 ≤ x → x ≤ bd → IntKind.u64.wrap x = x) :
  FN Tryz.prog 205 [ptr b,u64 bd] w fun e w' => RdPost w0 w w' b (upI l bd) (fun x => .int .u64 x) e := by
 refine FN_enter Tryz.func205 rfl rfl (by kernel_rfl) ?_
 simp
 refine FN.mono (rd_next h) ?_
 rintro e w1 ⟨hM1,hp⟩
 cases l with
 | nil =>
  obtain rfl : e = _ := hp
  simp
  exact ⟨hM1,rfl⟩
 | cons x r =>
  obtain ⟨ba, bc, la, lc, rfl, hR⟩ : ∃ ba bc la lc, e = .returned (.agg #[i64 x.k, u64 x.n, .slice ba x.b.length bc, .string x.s, .slice la x.l.length lc]) ∧ Rd w0 w1 b r := by
   obtain ⟨⟨cs,ba,bc,la,lc,css,rfl,hO⟩,hR⟩ := hp
   have := hO.cs
   subst this
   exact ⟨_,_,_,_,rfl,hR⟩
  have hn := h.nn x List.mem_cons_self
  have hE2 : Ext w1 (w1.alloc (.cells #[i64 x.k,u64 x.n,.slice ba x.b.length bc,.string x.s,.slice la x.l.length lc] 160)) := (Ext.refl _).alloc _
  have o2 : Blk (w1.alloc (.cells #[i64 x.k,u64 x.n,.slice ba x.b.length bc,.string x.s,.slice la x.l.length lc] 160)) w1.heap.size [i64 x.k,u64 x.n,.slice ba x.b.length bc,.string x.s,.slice la x.l.length lc] := Blk.new w1 _ _
  simp
  generalize (w1.alloc (.cells #[i64 x.k,u64 x.n,.slice ba x.b.length bc,.string x.s,.slice la x.l.length lc] 160)) = w2 at *
  by_cases hk : x.k = 1 ∧ x.n ≤ bd
  ·have hw := hbd x.n hn hk.2
   have hu : upI (x :: r) bd = some (x.n,r) := if_pos hk
   simp [o2.cell 1 _ rfl,hk.1,hk.2]
   refine FN.mono (must_t 180 w2) ?_
   rintro _ w3 ⟨⟨u,rfl⟩,h3⟩
   subst h3
   simp [o2.cell 1 _ rfl]
   rw [hu]
   exact ⟨hM1.trans hE2.mod,rfl,hR.more hE2⟩
  ·have hu : upI (x :: r) bd = none := if_neg hk
   rw [hu]
   by_cases hk1 : x.k = 1
   ·have hx' : ¬ x.n ≤ bd := fun e => hk ⟨hk1,e⟩
    simp [o2.cell 1 _ rfl,hk1,hx']
    refine FN.mono (must_f 180 w2) ?_
    rintro _ w3 ⟨rfl,h3⟩
    subst h3
    simp
    exact ⟨hM1.trans hE2.mod,rfl⟩
   ·simp [beq_dec,hk1]
    refine FN.mono (must_f 180 w2) ?_
    rintro _ w3 ⟨rfl,h3⟩
    subst h3
    simp
    exact ⟨hM1.trans hE2.mod,rfl⟩
theorem rdUpu32 {w0 w : World} {b : Nat} {l : List It} (h : Rd w0 w b l) (bd : Int) (hbd : ∀ x, 0 ≤ x → x ≤ bd → IntKind.u32.wrap x = x) :
  FN Tryz.prog 262 [ptr b,u64 bd] w fun e w' => RdPost w0 w w' b (upI l bd) (fun x => .int .u32 x) e := by
 refine FN_enter Tryz.func262 rfl rfl (by kernel_rfl) ?_
 simp
 refine FN.mono (rd_next h) ?_
 rintro e w1 ⟨hM1,hp⟩
 cases l with
 | nil =>
  obtain rfl : e = _ := hp
  simp
  exact ⟨hM1,rfl⟩
 | cons x r =>
  obtain ⟨ba, bc, la, lc, rfl, hR⟩ : ∃ ba bc la lc, e = .returned (.agg #[i64 x.k, u64 x.n, .slice ba x.b.length bc, .string x.s, .slice la x.l.length lc]) ∧ Rd w0 w1 b r := by
   obtain ⟨⟨cs,ba,bc,la,lc,css,rfl,hO⟩,hR⟩ := hp
   have := hO.cs
   subst this
   exact ⟨_,_,_,_,rfl,hR⟩
  have hn := h.nn x List.mem_cons_self
  have hE2 : Ext w1 (w1.alloc (.cells #[i64 x.k,u64 x.n,.slice ba x.b.length bc,.string x.s,.slice la x.l.length lc] 160)) := (Ext.refl _).alloc _
  have o2 : Blk (w1.alloc (.cells #[i64 x.k,u64 x.n,.slice ba x.b.length bc,.string x.s,.slice la x.l.length lc] 160)) w1.heap.size [i64 x.k,u64 x.n,.slice ba x.b.length bc,.string x.s,.slice la x.l.length lc] := Blk.new w1 _ _
  simp
  generalize (w1.alloc (.cells #[i64 x.k,u64 x.n,.slice ba x.b.length bc,.string x.s,.slice la x.l.length lc] 160)) = w2 at *
  by_cases hk : x.k = 1 ∧ x.n ≤ bd
  ·have hw := hbd x.n hn hk.2
   have hu : upI (x :: r) bd = some (x.n,r) := if_pos hk
   simp [o2.cell 1 _ rfl,hk.1,hk.2]
   refine FN.mono (must_t 180 w2) ?_
   rintro _ w3 ⟨⟨u,rfl⟩,h3⟩
   subst h3
   simp [o2.cell 1 _ rfl,hw]
   rw [hu]
   exact ⟨hM1.trans hE2.mod,rfl,hR.more hE2⟩
  ·have hu : upI (x :: r) bd = none := if_neg hk
   rw [hu]
   by_cases hk1 : x.k = 1
   ·have hx' : ¬ x.n ≤ bd := fun e => hk ⟨hk1,e⟩
    simp [o2.cell 1 _ rfl,hk1,hx']
    refine FN.mono (must_f 180 w2) ?_
    rintro _ w3 ⟨rfl,h3⟩
    subst h3
    simp
    exact ⟨hM1.trans hE2.mod,rfl⟩
   ·simp [beq_dec,hk1]
    refine FN.mono (must_f 180 w2) ?_
    rintro _ w3 ⟨rfl,h3⟩
    subst h3
    simp
    exact ⟨hM1.trans hE2.mod,rfl⟩
theorem rdUpu8 {w0 w : World} {b : Nat} {l : List It} (h : Rd w0 w b l) (bd : Int) (hbd : ∀ x, 0 ≤ x → x ≤ bd → IntKind.u8.wrap x = x) :
  FN Tryz.prog 216 [ptr b,u64 bd] w fun e w' => RdPost w0 w w' b (upI l bd) (fun x => .int .u8 x) e := by
 refine FN_enter Tryz.func216 rfl rfl (by kernel_rfl) ?_
 simp
 refine FN.mono (rd_next h) ?_
 rintro e w1 ⟨hM1,hp⟩
 cases l with
 | nil =>
  obtain rfl : e = _ := hp
  simp
  exact ⟨hM1,rfl⟩
 | cons x r =>
  obtain ⟨ba, bc, la, lc, rfl, hR⟩ : ∃ ba bc la lc, e = .returned (.agg #[i64 x.k, u64 x.n, .slice ba x.b.length bc, .string x.s, .slice la x.l.length lc]) ∧ Rd w0 w1 b r := by
   obtain ⟨⟨cs,ba,bc,la,lc,css,rfl,hO⟩,hR⟩ := hp
   have := hO.cs
   subst this
   exact ⟨_,_,_,_,rfl,hR⟩
  have hn := h.nn x List.mem_cons_self
  have hE2 : Ext w1 (w1.alloc (.cells #[i64 x.k,u64 x.n,.slice ba x.b.length bc,.string x.s,.slice la x.l.length lc] 160)) := (Ext.refl _).alloc _
  have o2 : Blk (w1.alloc (.cells #[i64 x.k,u64 x.n,.slice ba x.b.length bc,.string x.s,.slice la x.l.length lc] 160)) w1.heap.size [i64 x.k,u64 x.n,.slice ba x.b.length bc,.string x.s,.slice la x.l.length lc] := Blk.new w1 _ _
  simp
  generalize (w1.alloc (.cells #[i64 x.k,u64 x.n,.slice ba x.b.length bc,.string x.s,.slice la x.l.length lc] 160)) = w2 at *
  by_cases hk : x.k = 1 ∧ x.n ≤ bd
  ·have hw := hbd x.n hn hk.2
   have hu : upI (x :: r) bd = some (x.n,r) := if_pos hk
   simp [o2.cell 1 _ rfl,hk.1,hk.2]
   refine FN.mono (must_t 180 w2) ?_
   rintro _ w3 ⟨⟨u,rfl⟩,h3⟩
   subst h3
   simp [o2.cell 1 _ rfl,hw]
   rw [hu]
   exact ⟨hM1.trans hE2.mod,rfl,hR.more hE2⟩
  ·have hu : upI (x :: r) bd = none := if_neg hk
   rw [hu]
   by_cases hk1 : x.k = 1
   ·have hx' : ¬ x.n ≤ bd := fun e => hk ⟨hk1,e⟩
    simp [o2.cell 1 _ rfl,hk1,hx']
    refine FN.mono (must_f 180 w2) ?_
    rintro _ w3 ⟨rfl,h3⟩
    subst h3
    simp
    exact ⟨hM1.trans hE2.mod,rfl⟩
   ·simp [beq_dec,hk1]
    refine FN.mono (must_f 180 w2) ?_
    rintro _ w3 ⟨rfl,h3⟩
    subst h3
    simp
    exact ⟨hM1.trans hE2.mod,rfl⟩
theorem rdUpi64 {w0 w : World} {b : Nat} {l : List It} (h : Rd w0 w b l) (bd : Int) (hbd : ∀ x, 0 ≤ x → x ≤ bd → IntKind.i64.wrap x = x) :
  FN Tryz.prog 222 [ptr b,u64 bd] w fun e w' => RdPost w0 w w' b (upI l bd) (fun x => .int .i64 x) e := by
 refine FN_enter Tryz.func222 rfl rfl (by kernel_rfl) ?_
 simp
 refine FN.mono (rd_next h) ?_
 rintro e w1 ⟨hM1,hp⟩
 cases l with
 | nil =>
  obtain rfl : e = _ := hp
  simp
  exact ⟨hM1,rfl⟩
 | cons x r =>
  obtain ⟨ba, bc, la, lc, rfl, hR⟩ : ∃ ba bc la lc, e = .returned (.agg #[i64 x.k, u64 x.n, .slice ba x.b.length bc, .string x.s, .slice la x.l.length lc]) ∧ Rd w0 w1 b r := by
   obtain ⟨⟨cs,ba,bc,la,lc,css,rfl,hO⟩,hR⟩ := hp
   have := hO.cs
   subst this
   exact ⟨_,_,_,_,rfl,hR⟩
  have hn := h.nn x List.mem_cons_self
  have hE2 : Ext w1 (w1.alloc (.cells #[i64 x.k,u64 x.n,.slice ba x.b.length bc,.string x.s,.slice la x.l.length lc] 160)) := (Ext.refl _).alloc _
  have o2 : Blk (w1.alloc (.cells #[i64 x.k,u64 x.n,.slice ba x.b.length bc,.string x.s,.slice la x.l.length lc] 160)) w1.heap.size [i64 x.k,u64 x.n,.slice ba x.b.length bc,.string x.s,.slice la x.l.length lc] := Blk.new w1 _ _
  simp
  generalize (w1.alloc (.cells #[i64 x.k,u64 x.n,.slice ba x.b.length bc,.string x.s,.slice la x.l.length lc] 160)) = w2 at *
  by_cases hk : x.k = 1 ∧ x.n ≤ bd
  ·have hw := hbd x.n hn hk.2
   have hu : upI (x :: r) bd = some (x.n,r) := if_pos hk
   simp [o2.cell 1 _ rfl,hk.1,hk.2]
   refine FN.mono (must_t 180 w2) ?_
   rintro _ w3 ⟨⟨u,rfl⟩,h3⟩
   subst h3
   simp [o2.cell 1 _ rfl,hw]
   rw [hu]
   exact ⟨hM1.trans hE2.mod,rfl,hR.more hE2⟩
  ·have hu : upI (x :: r) bd = none := if_neg hk
   rw [hu]
   by_cases hk1 : x.k = 1
   ·have hx' : ¬ x.n ≤ bd := fun e => hk ⟨hk1,e⟩
    simp [o2.cell 1 _ rfl,hk1,hx']
    refine FN.mono (must_f 180 w2) ?_
    rintro _ w3 ⟨rfl,h3⟩
    subst h3
    simp
    exact ⟨hM1.trans hE2.mod,rfl⟩
   ·simp [beq_dec,hk1]
    refine FN.mono (must_f 180 w2) ?_
    rintro _ w3 ⟨rfl,h3⟩
    subst h3
    simp
    exact ⟨hM1.trans hE2.mod,rfl⟩
theorem wrap64u (x : Int) (h0 : 0 ≤ x) (h1 : x ≤ 18446744073709551615) : IntKind.u64.wrap x = x := by simp [IntKind.wrap,IntKind.signed,IntKind.bits]; omega
theorem rd_node {w0 w : World} {b : Nat} {l : List It} (h : Rd w0 w b l) : FN Tryz.prog 206 [ptr b] w fun e w' => RdPost w0 w w' b (upI l 4294967295) u32 e := by
 refine FN_enter Tryz.func206 rfl rfl (by kernel_rfl) ?_
 simp
 refine FN.mono (rdUpu32 h 4294967295 fun x h0 h1 => wrap32u x h0 h1) ?_
 rintro e w1 ⟨hM,hp⟩
 cases ho : upI l 4294967295 with
 | none =>
  rw [ho] at hp
  obtain rfl : e = _ := hp
  simp
  exact ⟨hM,rfl⟩
 | some p =>
  obtain ⟨x,r⟩ := p
  rw [ho] at hp
  obtain ⟨rfl,hR⟩ := hp
  simp
  exact ⟨hM,rfl,hR⟩
theorem rd_time {w0 w : World} {b : Nat} {l : List It} (h : Rd w0 w b l) : FN Tryz.prog 212 [ptr b] w fun e w' => RdPost w0 w w' b (upI l 4611686018427387903) u64 e := by
 refine FN_enter Tryz.func212 rfl rfl (by kernel_rfl) ?_
 simp
 refine FN.mono (rdUpu64 h 4611686018427387903 fun x h0 h1 => wrap64u x h0 (by omega)) ?_
 rintro e w1 ⟨hM,hp⟩
 cases ho : upI l 4611686018427387903 with
 | none =>
  rw [ho] at hp
  obtain rfl : e = _ := hp
  simp
  exact ⟨hM,rfl⟩
 | some p =>
  obtain ⟨x,r⟩ := p
  rw [ho] at hp
  obtain ⟨rfl,hR⟩ := hp
  simp
  exact ⟨hM,rfl,hR⟩
theorem rd_yes {w0 w : World} {b : Nat} {l : List It} (h : Rd w0 w b l) : FN Tryz.prog 211 [ptr b] w fun e w' => RdPost w0 w w' b (yesI l) (fun x => .bool x) e := by
 refine FN_enter Tryz.func211 rfl rfl (by kernel_rfl) ?_
 simp
 refine FN.mono (rd_next h) ?_
 rintro e w1 ⟨hM1,hp⟩
 cases l with
 | nil =>
  obtain rfl : e = _ := hp
  simp
  exact ⟨hM1,rfl⟩
 | cons x r =>
  obtain ⟨ba, bc, la, lc, rfl, hR⟩ : ∃ ba bc la lc, e = .returned (.agg #[i64 x.k, u64 x.n, .slice ba x.b.length bc, .string x.s, .slice la x.l.length lc]) ∧ Rd w0 w1 b r := by
   obtain ⟨⟨cs,ba,bc,la,lc,css,rfl,hO⟩,hR⟩ := hp
   have := hO.cs
   subst this
   exact ⟨_,_,_,_,rfl,hR⟩
  have hE2 : Ext w1 (w1.alloc (.cells #[i64 x.k,u64 x.n,.slice ba x.b.length bc,.string x.s,.slice la x.l.length lc] 160)) := (Ext.refl _).alloc _
  have o2 : Blk (w1.alloc (.cells #[i64 x.k,u64 x.n,.slice ba x.b.length bc,.string x.s,.slice la x.l.length lc] 160)) w1.heap.size [i64 x.k,u64 x.n,.slice ba x.b.length bc,.string x.s,.slice la x.l.length lc] := Blk.new w1 _ _
  simp
  generalize (w1.alloc (.cells #[i64 x.k,u64 x.n,.slice ba x.b.length bc,.string x.s,.slice la x.l.length lc] 160)) = w2 at *
  by_cases hk : x.k = 5
  ·have hu : yesI (x :: r) = some (decide (x.n = 1),r) := if_pos hk
   simp [hk]
   refine FN.mono (must_t 180 w2) ?_
   rintro _ w3 ⟨⟨u,rfl⟩,h3⟩
   subst h3
   simp [beq_dec,o2.cell 1 _ rfl]
   rw [hu]
   exact ⟨hM1.trans hE2.mod,rfl,hR.more hE2⟩
  ·have hu : yesI (x :: r) = none := if_neg hk
   rw [hu]
   simp [beq_dec,hk]
   refine FN.mono (must_f 180 w2) ?_
   rintro _ w3 ⟨rfl,h3⟩
   subst h3
   simp
   exact ⟨hM1.trans hE2.mod,rfl⟩
end Go.Proofs