/-
 Contracts of the functions that the law reaches,step by step.
-/
import Derived.Test.YtmmneeomcefgbaaGreatDoorAdI
namespace Go.Proofs
open Pk
set_option maxRecDepth 10000
def boolI (u : Bool) : It := .mk 5 (if u then 1 else 0) [] ⟨#[]⟩ []
theorem LaysI.of {fl : Nat} {r : Rec} {l : List It} {css : List (List Value)} (h : Lays fl r l.length css.flatten) (hI : ∀ (Pd : Nat → Prop) (W : World), ItPs Pd W l css) (h1 : ∀ u ∈ css.flatten, u.oneCell' = true) : LaysI fl r l := fun w => by
 refine FN.mono (h w) ?_
 rintro e w' ⟨v,rfl,hS,hE⟩
 exact ⟨v,css,rfl,hS,hI _ _,h1,hE⟩
def askC (r : Rec) : List Value := leafC 1 r.num ++ (leafC 1 r.node ++ leafC 1 r.reg)
def memC (r : Rec) : List Value := leafC 1 r.node ++ (leafC 1 r.reg ++ (leafC 1 r.num ++ leafC 5 (if r.yes then 1 else 0)))
theorem ask_lay {r : Rec} (hr : RecOk r) : Lays 201 r 3 (askC r) := by
 intro w
 refine FN_enter Tryz.func201 rfl rfl (by kernel_rfl) ?_
 simp
 have hE1 : Ext w (w.alloc (.cells #[i64 r.kind,u32 r.nn,u32 r.ns,u64 r.nt,u32 r.nq,i64 r.what,i64 r.why,u64 r.at',u64 r.num,u32 r.node,u32 r.reg,.bool r.yes,u64 r.fro,u64 r.til,u8 r.lev] 42)) := (Ext.refl w).alloc _
 have o1 : Blk (w.alloc (.cells #[i64 r.kind,u32 r.nn,u32 r.ns,u64 r.nt,u32 r.nq,i64 r.what,i64 r.why,u64 r.at',u64 r.num,u32 r.node,u32 r.reg,.bool r.yes,u64 r.fro,u64 r.til,u8 r.lev] 42)) w.heap.size (recC r) := Blk.new w (recC r) 42
 generalize (w.alloc (.cells #[i64 r.kind,u32 r.nn,u32 r.ns,u64 r.nt,u32 r.nq,i64 r.what,i64 r.why,u64 r.at',u64 r.num,u32 r.node,u32 r.reg,.bool r.yes,u64 r.fro,u64 r.til,u8 r.lev] 42)) = w1 at *
 refine WC_drawC 8 (.F 0 <| .F 1 <| .F 3 <| .F 4 <| .F 6 <| .F 7 <| .C 2 <| .C 5 <| .Z) (fun _ => false) rfl (by kernel_rfl) fun W hW => ?_
 have hWE : Ext w1 W := hW ▸ Ext.drew w1
 have p1 := o1.ext hWE
 simp [p1.cell 8 _ rfl,p1.cell 9 _ rfl,p1.cell 10 _ rfl]
 refine FN.mono (num64_c r.num W hr.num) ?_
 rintro _ w2 ⟨rfl,hE2⟩
 simp
 refine KR_ext hE2 ?_
 simp
 refine FN.mono (num32_c r.node w2 hr.node) ?_
 rintro _ w3 ⟨rfl,hE3⟩
 simp
 refine KR_ext hE3 ?_
 simp
 refine FN.mono (num32_c r.reg w3 hr.reg) ?_
 rintro _ w6 ⟨rfl,hE6⟩
 simp
 have hm := Sl.made w6 (askC r) 160 5 3 rfl
 have hE7 := (Ext.refl w6).alloc (.cells (askC r).toArray 160)
 exact ⟨by simpa [askC] using hm,(hE1.trans (hWE.trans (hE2.trans (hE3.trans hE6)))).trans hE7⟩
theorem mem_lay {r : Rec} (hr : RecOk r) : Lays 219 r 4 (memC r) := by
 intro w
 refine FN_enter Tryz.func219 rfl rfl (by kernel_rfl) ?_
 simp
 have hE1 : Ext w (w.alloc (.cells #[i64 r.kind,u32 r.nn,u32 r.ns,u64 r.nt,u32 r.nq,i64 r.what,i64 r.why,u64 r.at',u64 r.num,u32 r.node,u32 r.reg,.bool r.yes,u64 r.fro,u64 r.til,u8 r.lev] 42)) := (Ext.refl w).alloc _
 have o1 : Blk (w.alloc (.cells #[i64 r.kind,u32 r.nn,u32 r.ns,u64 r.nt,u32 r.nq,i64 r.what,i64 r.why,u64 r.at',u64 r.num,u32 r.node,u32 r.reg,.bool r.yes,u64 r.fro,u64 r.til,u8 r.lev] 42)) w.heap.size (recC r) := Blk.new w (recC r) 42
 generalize (w.alloc (.cells #[i64 r.kind,u32 r.nn,u32 r.ns,u64 r.nt,u32 r.nq,i64 r.what,i64 r.why,u64 r.at',u64 r.num,u32 r.node,u32 r.reg,.bool r.yes,u64 r.fro,u64 r.til,u8 r.lev] 42)) = w1 at *
 refine WC_drawC 11 (.F 0 <| .F 1 <| .F 3 <| .F 4 <| .F 6 <| .F 7 <| .F 9 <| .F 10 <| .C 2 <| .C 5 <| .C 8 <| .Z) (fun _ => false) rfl (by kernel_rfl) fun W hW => ?_
 have hWE : Ext w1 W := hW ▸ Ext.drew w1
 have p1 := o1.ext hWE
 simp [p1.cell 8 _ rfl,p1.cell 9 _ rfl,p1.cell 10 _ rfl,p1.cell 11 _ rfl]
 refine FN.mono (num32_c r.node W hr.node) ?_
 rintro _ w2 ⟨rfl,hE2⟩
 simp
 refine KR_ext hE2 ?_
 simp
 refine FN.mono (num32_c r.reg w2 hr.reg) ?_
 rintro _ w3 ⟨rfl,hE3⟩
 simp
 refine KR_ext hE3 ?_
 simp
 refine FN.mono (num64_c r.num w3 hr.num) ?_
 rintro _ w4 ⟨rfl,hE4⟩
 simp
 refine KR_ext hE4 ?_
 simp
 refine FN.mono (truth_c r.yes w4) ?_
 rintro _ w6 ⟨rfl,hE6⟩
 simp
 have hm := Sl.made w6 (memC r) 160 5 4 rfl
 have hE7 := (Ext.refl w6).alloc (.cells (memC r).toArray 160)
 exact ⟨by simpa [memC] using hm,(hE1.trans (hWE.trans (hE2.trans (hE3.trans (hE4.trans hE6))))).trans hE7⟩
def askI (r : Rec) : List It := [uintI r.num,uintI r.node,uintI r.reg]
def tellI (r : Rec) : List It := [uintI r.num,uintI r.node,uintI r.reg,boolI r.yes,uintI r.til]
def foreI (r : Rec) : List It := [uintI r.node,uintI r.fro,uintI r.til,uintI r.lev]
def memI (r : Rec) : List It := [uintI r.node,uintI r.reg,uintI r.num,boolI r.yes]
def namR (r : Rec) : Nam := ⟨r.nn,r.ns,r.nt,r.nq⟩
def repI (r : Rec) : List It := [nameI (namR r),uintI r.what,uintI r.why,uintI r.at']
theorem leaf_one {css : List (List Value)} (h : ∀ c ∈ css, ∃ k n, c = leafC k n) : ∀ u ∈ css.flatten, u.oneCell' = true := by
 intro u hu
 obtain ⟨c,hc,hu⟩ := List.mem_flatten.1 hu
 obtain ⟨k,n,rfl⟩ := h c hc
 exact one5 u hu
theorem ask_layI {r : Rec} (hr : RecOk r) : LaysI 201 r (askI r) :=
 LaysI.of (css := [leafC 1 r.num,leafC 1 r.node,leafC 1 r.reg]) (ask_lay hr) (fun _ _ => ((itPs_nil.cons (leaf_it 1 _)).cons (leaf_it 1 _)).cons (leaf_it 1 _)) (leaf_one (by simp))
theorem tell_layI {r : Rec} (hr : RecOk r) : LaysI 208 r (tellI r) :=
 LaysI.of (css := [leafC 1 r.num,leafC 1 r.node,leafC 1 r.reg,leafC 5 (if r.yes then 1 else 0),leafC 1 r.til]) (tell_lay hr) (fun _ _ => ((((itPs_nil.cons (leaf_it 1 _)).cons (leaf_it 5 _)).cons (leaf_it 1 _)).cons (leaf_it 1 _)).cons (leaf_it 1 _)) (leaf_one (by simp))
theorem fore_layI {r : Rec} (hr : RecOk r) : LaysI 213 r (foreI r) :=
 LaysI.of (css := [leafC 1 r.node,leafC 1 r.fro,leafC 1 r.til,leafC 1 r.lev]) (fore_lay hr) (fun _ _ => (((itPs_nil.cons (leaf_it 1 _)).cons (leaf_it 1 _)).cons (leaf_it 1 _)).cons (leaf_it 1 _)) (leaf_one (by simp))
theorem mem_layI {r : Rec} (hr : RecOk r) : LaysI 219 r (memI r) :=
 LaysI.of (css := [leafC 1 r.node,leafC 1 r.reg,leafC 1 r.num,leafC 5 (if r.yes then 1 else 0)]) (mem_lay hr) (fun _ _ => (((itPs_nil.cons (leaf_it 5 _)).cons (leaf_it 1 _)).cons (leaf_it 1 _)).cons (leaf_it 1 _)) (leaf_one (by simp))
set_option maxHeartbeats 1000000 in
theorem rep_layI {r : Rec} (hr : RecOk r) (hN : nameE (namR r) = 0) (h1 : 0 ≤ r.what) (h2 : 0 ≤ r.why) : LaysI 254 r (repI r) := by
 intro w
 refine FN_enter Tryz.func254 rfl rfl (by kernel_rfl) ?_
 simp
 have hE1 : Ext w (w.alloc (.cells #[i64 r.kind,u32 r.nn,u32 r.ns,u64 r.nt,u32 r.nq,i64 r.what,i64 r.why,u64 r.at',u64 r.num,u32 r.node,u32 r.reg,.bool r.yes,u64 r.fro,u64 r.til,u8 r.lev] 42)) := (Ext.refl w).alloc _
 have o1 : Blk (w.alloc (.cells #[i64 r.kind,u32 r.nn,u32 r.ns,u64 r.nt,u32 r.nq,i64 r.what,i64 r.why,u64 r.at',u64 r.num,u32 r.node,u32 r.reg,.bool r.yes,u64 r.fro,u64 r.til,u8 r.lev] 42)) w.heap.size (recC r) := Blk.new w (recC r) 42
 have z1 : (w.alloc (.cells #[i64 r.kind,u32 r.nn,u32 r.ns,u64 r.nt,u32 r.nq,i64 r.what,i64 r.why,u64 r.at',u64 r.num,u32 r.node,u32 r.reg,.bool r.yes,u64 r.fro,u64 r.til,u8 r.lev] 42)).heap.size = w.heap.size + 1 := by simp
 generalize (w.alloc (.cells #[i64 r.kind,u32 r.nn,u32 r.ns,u64 r.nt,u32 r.nq,i64 r.what,i64 r.why,u64 r.at',u64 r.num,u32 r.node,u32 r.reg,.bool r.yes,u64 r.fro,u64 r.til,u8 r.lev] 42)) = w1 at *
 have hni := nameItem_c (n := namR r) ⟨hr.nn,hr.ns,hr.nq⟩ w1
 refine FN.mono (hni) ?_
 rintro _ w2 ⟨cs,rfl,hi2,⟨k',x',bv',s',lv',rfl,⟨a1,m1,c1,rfl⟩,⟨a2,m2,c2,rfl⟩⟩,hE2⟩
 rw [if_pos hN] at hi2
 have p1 := o1.ext hE2
 have b3 := Blk.new w2 [i64 k',u64 x',.slice a1 m1 c1,.string s',.slice a2 m2 c2] 160
 have hE3 : Ext w2 (w2.alloc (.cells #[i64 k',u64 x',.slice a1 m1 c1,.string s',.slice a2 m2 c2] 160)) := (Ext.refl _).alloc _
 simp
 generalize (w2.alloc (.cells #[i64 k',u64 x',.slice a1 m1 c1,.string s',.slice a2 m2 c2] 160)) = w3 at *
 refine WC_drawC 10 (.F 0 <| .F 1 <| .F 2 <| .F 4 <| .F 5 <| .F 7 <| .F 8 <| .C 3 <| .C 6 <| .C 9 <| .Z) (fun _ => false) rfl (by kernel_rfl) fun W hW => ?_
 have hWE : Ext w3 W := hW ▸ Ext.drew _
 have p4 := (p1.ext hE3).ext hWE
 have b4 := b3.ext hWE
 simp [p4.cell 5 _ rfl,p4.cell 6 _ rfl,p4.cell 7 _ rfl,b4.cell 0 _ rfl,b4.cell 1 _ rfl,b4.cell 2 _ rfl,b4.cell 3 _ rfl,b4.cell 4 _ rfl]
 refine FN.mono (numi_c r.what W ⟨h1,by have := hr.what; omega⟩) ?_
 rintro _ w5 ⟨rfl,hE5⟩
 simp
 refine KR_ext hE5 ?_
 simp
 refine FN.mono (numi_c r.why w5 ⟨h2,by have := hr.why; omega⟩) ?_
 rintro _ w6 ⟨rfl,hE6⟩
 simp
 refine KR_ext hE6 ?_
 simp
 refine FN.mono (num64_c r.at' w6 hr.at') ?_
 rintro _ w7 ⟨rfl,hE7⟩
 simp
 refine KR_ext hE7 ?_
 simp
 have hX := (hE3.trans hWE).trans (hE5.trans (hE6.trans hE7))
 have hE8 := (Ext.refl w7).alloc (.cells ([[i64 k',u64 x',.slice a1 m1 c1,.string s',.slice a2 m2 c2],leafC 1 r.what,leafC 1 r.why,leafC 1 r.at'].flatten).toArray 160)
 have hm := Sl.made w7 ([[i64 k',u64 x',.slice a1 m1 c1,.string s',.slice a2 m2 c2],leafC 1 r.what,leafC 1 r.why,leafC 1 r.at'].flatten) 160 5 4 rfl
 have hItem : ItP (fun k => w.heap.size ≤ k) w7 (nameI (namR r)) [i64 k',u64 x',.slice a1 m1 c1,.string s',.slice a2 m2 c2] := (hi2.ext hX).go (Mod.refl (fun _ => False) _) fun k _ hk => ⟨by omega,_root_.id⟩
 refine ⟨[[i64 k', u64 x', .slice a1 m1 c1, .string s', .slice a2 m2 c2], leafC 1 r.what, leafC 1 r.why, leafC 1 r.at'], by simpa [repI] using hm, ?_, ?_, ?_⟩
 ·exact (((itPs_nil.cons (leaf_it 1 _)).cons (leaf_it 1 _)).cons (leaf_it 1 _)).cons (hItem.ext hE8)
 ·intro u c hc hu
  have hu' : u ∈ [i64 k', u64 x', .slice a1 m1 c1, .string s', .slice a2 m2 c2] ++ (leafC 1 r.what ++ (leafC 1 r.why ++ leafC 1 r.at')) := by
   have := List.mem_flatten.2 ⟨c,hc,hu⟩
   exact this
  rcases List.mem_append.1 hu' with h | h
  ·simp only [List.mem_cons,List.not_mem_nil,or_false] at h
   rcases h with rfl | rfl | rfl | rfl | rfl <;> rfl
  ·rcases List.mem_append.1 h with h | h
   ·exact one5 u h
   ·rcases List.mem_append.1 h with h | h
    ·exact one5 u h
    ·exact one5 u h
 ·exact (hE1.trans (hE2.trans hX)).trans hE8
end Go.Proofs
namespace Go.Proofs
open Pk
set_option maxRecDepth 10000
def ReadsI (fr : Nat) (k : Int) (l : List It) (o : Option (Rec × List It)) : Prop := ∀ (w0 w : World) (b rb : Nat),Rd w0 w b l → Blk w rb (recC { rec0 with kind := k }) → w0.heap.size ≤ rb → b ≠ rb → FN Tryz.prog fr [ptr b,ptr rb] w fun e w' => RdR w0 w w' b rb o e
def readO (o : Option (Rec × List It)) (fb : Rec → Bool) : Option Rec := o.bind fun p => if p.2.isEmpty && fb p.1 then some p.1 else none
def RcPost (w w' : World) (o : Option Rec) (e : Ending) : Prop := Ext w w' ∧ match o with | none => e = .panicked (panV 180) | some r => e = .returned (recV r)
set_option maxHeartbeats 4000000 in
theorem readI_c {fl fr ff : Nat} {s : ByteArray} {w : World} {t x0 : It} {l : List It} {cs : List Value} {o : Option (Rec × List It)} {fb : Rec → Bool} (ht : ItC w t cs) (h4 : t.k = 4) (hl : t.l = x0 :: l) (h1 : x0.k = 1) (hx0 : 0 ≤ x0.n ∧ x0.n ≤ 5) (hnn : ∀ y ∈ t.l, 0 ≤ y.n)
  (hk : mget kdL x0.n = some [.string s,fnV fl,fnV fr,fnV ff]) (hread : ReadsI fr x0.n l o) (hfine : ∀ r rest,o = some (r,rest) → Fines ff r (fb r)) :
  FN Tryz.prog 156 [.agg cs.toArray] w fun e w' => RcPost w w' (readO o fb) e := by
 obtain ⟨ba,bc,la,lc,css,hO⟩ := itO ht
 have ecs := hO.cs
 rw [show cs.toArray = #[i64 t.k,u64 t.n,.slice ba t.b.length bc,.string t.s,.slice la t.l.length lc] by rw [ecs]]
 rw [h4]
 refine FN_enter Tryz.func156 rfl rfl (by kernel_rfl) ?_
 simp
 have hE1 : Ext w ((w.alloc (.cells #[i64 4,u64 t.n,.slice ba t.b.length bc,.string t.s,.slice la t.l.length lc] 160)).alloc (.cells #[i64 0,u32 0,u32 0,u64 0,u32 0,i64 0,i64 0,u64 0,u64 0,u32 0,u32 0,.bool false,u64 0,u64 0,u8 0] 42)) := ((Ext.refl w).alloc _).alloc _
 have o1 : Blk ((w.alloc (.cells #[i64 4,u64 t.n,.slice ba t.b.length bc,.string t.s,.slice la t.l.length lc] 160)).alloc (.cells #[i64 0,u32 0,u32 0,u64 0,u32 0,i64 0,i64 0,u64 0,u64 0,u32 0,u32 0,.bool false,u64 0,u64 0,u8 0] 42)) w.heap.size [i64 4,u64 t.n,.slice ba t.b.length bc,.string t.s,.slice la t.l.length lc] := (Blk.new w _ _).ext ((Ext.refl _).alloc _)
 have o2 : Blk ((w.alloc (.cells #[i64 4, u64 t.n, .slice ba t.b.length bc, .string t.s, .slice la t.l.length lc] 160)).alloc (.cells #[i64 0, u32 0, u32 0, u64 0, u32 0, i64 0, i64 0, u64 0, u64 0, u32 0, u32 0, .bool false, u64 0, u64 0, u8 0] 42)) (w.heap.size + 1) [i64 0, u32 0, u32 0, u64 0, u32 0, i64 0, i64 0, u64 0, u64 0, u32 0, u32 0, .bool false, u64 0, u64 0, u8 0] := by
  have := Blk.new (w.alloc (.cells #[i64 4,u64 t.n,.slice ba t.b.length bc,.string t.s,.slice la t.l.length lc] 160)) [i64 0,u32 0,u32 0,u64 0,u32 0,i64 0,i64 0,u64 0,u64 0,u32 0,u32 0,.bool false,u64 0,u64 0,u8 0] 42
  simpa using this
 have z1 : ((w.alloc (.cells #[i64 4,u64 t.n,.slice ba t.b.length bc,.string t.s,.slice la t.l.length lc] 160)).alloc (.cells #[i64 0,u32 0,u32 0,u64 0,u32 0,i64 0,i64 0,u64 0,u64 0,u32 0,u32 0,.bool false,u64 0,u64 0,u8 0] 42)).heap.size = w.heap.size + 1 + 1 := by simp
 generalize ((w.alloc (.cells #[i64 4,u64 t.n,.slice ba t.b.length bc,.string t.s,.slice la t.l.length lc] 160)).alloc (.cells #[i64 0,u32 0,u32 0,u64 0,u32 0,i64 0,i64 0,u64 0,u64 0,u32 0,u32 0,.bool false,u64 0,u64 0,u8 0] 42)) = w1 at *
 refine FN.mono (must_t 180 w1) ?_
 rintro _ w2 ⟨⟨u,rfl⟩,h2⟩
 subst h2
 simp [o1.cell 4 _ rfl]
 have hE3 : Ext w2 (w2.alloc (.cells #[.slice la t.l.length lc] 264)) := (Ext.refl _).alloc _
 have o3 : Blk (w2.alloc (.cells #[.slice la t.l.length lc] 264)) w2.heap.size [.slice la t.l.length lc] := Blk.new w2 _ _
 obtain ⟨b,hb⟩ : ∃ b,b = w2.heap.size := ⟨_,rfl⟩
 obtain ⟨rb,hrb⟩ : ∃ rb,rb = w.heap.size + 1 := ⟨_,rfl⟩
 rw [← hb] at o3 ⊢
 rw [← hrb] at o2 ⊢
 have p2 := o2.ext hE3
 generalize (w2.alloc (.cells #[.slice la t.l.length lc] 264)) = w3 at *
 have hblt := o3.lt
 have hR3 : Rd w w3 b (x0 :: l) := by
  refine ⟨⟨.slice la t.l.length lc, css, o3, ?_, ?_⟩, hE1.trans hE3, by have := hE1.size; omega, fun y hy => hnn y (by rw [hl]; exact hy)⟩
  ·have := hO.l; rw [hl] at this ⊢; exact this
  ·have := hO.c; rw [hl] at this; exact this
 refine FN.mono (rdUpi64 hR3 5 fun y h0 h1 => wrap64 y (by omega) (by omega)) ?_
 rintro e4 w4 ⟨hM4,hp4⟩
 have hu4 : upI (x0 :: l) 5 = some (x0.n,l) := if_pos ⟨h1,hx0.2⟩
 rw [hu4] at hp4
 obtain ⟨rfl,hR4⟩ := hp4
 obtain ⟨k,hkk⟩ : ∃ k,k = x0.n := ⟨_,rfl⟩
 rw [← hkk] at hk hread ⊢
 have q2 := p2.mod hM4 (by omega)
 simp [q2.cell 0 _ rfl,q2.thaw]
 have q2' := q2.set 0 (i64 k)
 simp only [List.set_cons_zero] at q2'
 have hM5 : Mod (fun j => j = rb) w4 (w4.setCell ⟨rb,0,none⟩ (i64 k)) := (Mod.refl _ _).setC _ _
 have hR5 := hR4.ext' (hM5.weaken fun j hj => by rw [hj]; exact ⟨by omega,by omega⟩)
 have hsz3 := hE3.size
 have hsz4 := hM4.size
 have hsz5 := hM5.size
 have hEw5 : Ext w (w4.setCell ⟨rb,0,none⟩ (i64 k)) := ((((hE1.trans hE3).mod (S := fun j => w.heap.size ≤ j)).trans (hM4.weaken fun j hj => by omega)).trans (hM5.weaken fun j hj => by omega)).ext fun _ h => h
 generalize (w4.setCell ⟨rb,0,none⟩ (i64 k)) = w5 at *
 refine WC_drawL 9 (.F 1 <| .F 2 <| .D 7 <| .L 0 <| .L 3 <| .F 4 <| .F 5 <| .F 6 <| .W 7 <| .S 8 <| .Z) (fun _ => false) (fun _ => false) (fun _ u W => ∃ j, u = ptr j ∧ w5.heap.size ≤ j ∧ Blk W j [.string ⟨#[]⟩, .nilFunc, .nilFunc, .nilFunc]) rfl (by kernel_rfl) (fun _ h => h)
  (fun _ _ _ _ ⟨j,h1,h2,h3⟩ hA => ⟨j,h1,h2,h3.ext (agr_ext hA)⟩) fun W hW => ?_
 have hWE : Ext w5 W := hW ▸ Ext.drew w5
 have r2 := q2'.ext hWE
 simp [r2.cell 0 _ rfl]
 refine RL_float (fun W' h' => ?_) ?_
 ·simp
  have hs := (hWE.trans (agr_ext h')).size
  exact ⟨(Ext.refl _).alloc _,hs,Blk.new W' [.string ⟨#[]⟩,.nilFunc,.nilFunc,.nilFunc] 210⟩
 simp
 refine RL_loose fun W3 h3 => ?_
 simp
 refine FN.mono (kinds_c W3) ?_
 rintro _ W4 ⟨mr,rfl,hm,hE4⟩
 simp
 refine KR_ext hE4 ?_
 simp
 refine RL_loose fun W5 h5 => ?_
 simp [kd_look hm hk W5 h5]
 refine KR_same ?_
 simp
 refine RL_wait fun v6 W6 h6 ⟨j,hj,hjs,hjb⟩ => ?_
 subst hj
 simp [hjb.cell 0 _ rfl,hjb.cell 1 _ rfl,hjb.cell 2 _ rfl,hjb.cell 3 _ rfl,hjb.thaw,cell_setCell]
 have hrlt := q2'.lt
 have hM7 : Mod (fun i => i = j) W6 ((((W6.setCell ⟨j,0,none⟩ (.string s)).setCell ⟨j,1,none⟩ (fnV fl)).setCell ⟨j,2,none⟩ (fnV fr)).setCell ⟨j,3,none⟩ (fnV ff)) := ((((Mod.refl _ W6).setC 0 _).setC 1 _).setC 2 _).setC 3 _
 have j7 := (((hjb.set 0 (.string s)).set 1 (fnV fl)).set 2 (fnV fr)).set 3 (fnV ff)
 simp only [List.set_cons_zero,List.set_cons_succ] at j7
 refine KR_mk (agr_any (hM7.weaken fun _ _ => trivial)) ?_
 have hE56 := hWE.trans (h3.trans (hE4.trans (h5.trans h6)))
 have hsz6 := hE56.size
 have r3 := (q2'.ext hE56).mod hM7 (by omega)
 have hR7 := (hR5.more hE56).ext' (hM7.weaken fun i hi => by rw [hi]; exact ⟨by have := hEw5.size; omega,by omega⟩)
 have hEw7 : Ext w ((((W6.setCell ⟨j,0,none⟩ (.string s)).setCell ⟨j,1,none⟩ (fnV fl)).setCell ⟨j,2,none⟩ (fnV fr)).setCell ⟨j,3,none⟩ (fnV ff)) := (((hEw5.trans hE56).mod (S := fun j => w.heap.size ≤ j)).trans (hM7.weaken fun i hi => by omega)).ext fun _ h => h
 generalize ((((W6.setCell ⟨j,0,none⟩ (.string s)).setCell ⟨j,1,none⟩ (fnV fl)).setCell ⟨j,2,none⟩ (fnV fr)).setCell ⟨j,3,none⟩ (fnV ff)) = w7 at *
 simp
 refine FN.mono (must_t 180 w7) ?_
 rintro _ w8 ⟨⟨u8,rfl⟩,h8⟩
 subst h8
 simp [j7.cell 2 _ rfl]
 refine FN.mono (hread w w8 b rb hR7 r3 (by omega) (by omega)) ?_
 rintro e9 w9 ⟨hM9,hp9⟩
 have hEw9 : Ext w w9 := ((hEw7.mod (S := fun j => w.heap.size ≤ j)).trans (hM9.weaken fun i hi => by omega)).ext fun _ h => h
 rcases o with _ | ⟨r1, rest⟩
 ·obtain rfl : e9 = _ := hp9
  simp
  exact ⟨hEw9,rfl⟩
 ·obtain ⟨⟨u9,rfl⟩,hR9,r9⟩ := hp9
  obtain ⟨⟨v9,css9,t9,hs9,-⟩,-,-,-⟩ := hR9
  obtain ⟨a9,c9,hv9⟩ := hs9.isSlice
  subst hv9
  have hlen9 := fun ty W => hs9.isLen (P := Tryz.prog) (t := 158) (by simp) ty W
  have j9 := j7.mod hM9 (by omega)
  have hf := hfine r1 rest rfl
  cases rest with
  | nil =>
   simp [t9.cell 0 _ rfl,j9.cell 3 _ rfl,r9.cell 0 _ rfl,r9.cell 1 _ rfl,r9.cell 2 _ rfl,r9.cell 3 _ rfl,r9.cell 4 _ rfl,r9.cell 5 _ rfl,r9.cell 6 _ rfl,r9.cell 7 _ rfl,r9.cell 8 _ rfl,r9.cell 9 _ rfl,r9.cell 10 _ rfl,r9.cell 11 _ rfl,r9.cell 12 _ rfl,r9.cell 13 _ rfl,r9.cell 14 _ rfl]
   refine FN.mono (hf w9) ?_
   rintro _ w10 ⟨rfl,hE10⟩
   have r11 := r9.ext hE10
   cases hfb : fb r1 with
   | true =>
    have ho : readO (some (r1,[])) fb = some r1 := by simp [readO,hfb]
    rw [ho]
    simp
    refine FN.mono (must_t 180 w10) ?_
    rintro _ w11 ⟨⟨u11,rfl⟩,h11⟩
    subst h11
    simp [r11.cell 0 _ rfl,r11.cell 1 _ rfl,r11.cell 2 _ rfl,r11.cell 3 _ rfl,r11.cell 4 _ rfl,r11.cell 5 _ rfl,r11.cell 6 _ rfl,r11.cell 7 _ rfl,r11.cell 8 _ rfl,r11.cell 9 _ rfl,r11.cell 10 _ rfl,r11.cell 11 _ rfl,r11.cell 12 _ rfl,r11.cell 13 _ rfl,r11.cell 14 _ rfl,r11.thaw,setCell_id (r11.cell 0 _ rfl),setCell_id (r11.cell 1 _ rfl),setCell_id (r11.cell 2 _ rfl),setCell_id (r11.cell 3 _ rfl),setCell_id (r11.cell 4 _ rfl),setCell_id (r11.cell 5 _ rfl),setCell_id (r11.cell 6 _ rfl),setCell_id (r11.cell 7 _ rfl),setCell_id (r11.cell 8 _ rfl),setCell_id (r11.cell 9 _ rfl),setCell_id (r11.cell 10 _ rfl),setCell_id (r11.cell 11 _ rfl),setCell_id (r11.cell 12 _ rfl),setCell_id (r11.cell 13 _ rfl),setCell_id (r11.cell 14 _ rfl)]
    exact ⟨hEw9.trans hE10,rfl⟩
   | false =>
    have ho : readO (some (r1,[])) fb = none := by simp [readO,hfb]
    rw [ho]
    simp
    refine FN.mono (must_f 180 w10) ?_
    rintro _ w11 ⟨rfl,h11⟩
    subst h11
    simp
    exact ⟨hEw9.trans hE10,rfl⟩
  | cons y ys =>
   have ho : readO (some (r1,y :: ys)) fb = none := by simp [readO]
   rw [ho]
   have hne : (((ys.length : Int) + 1) == 0) = false := by simp; omega
   simp [t9.cell 0 _ rfl,hne]
   refine FN.mono (must_f 180 w9) ?_
   rintro _ w11 ⟨rfl,h11⟩
   subst h11
   simp
   exact ⟨hEw9,rfl⟩
end Go.Proofs
namespace Go.Proofs
open Pk
set_option maxRecDepth 10000
set_option maxHeartbeats 2000000 in
theorem bareI_c {fl fr ff : Nat} {s : ByteArray} {r r1 : Rec} {l : List It} (hk : mget kdL r.kind = some [.string s, fnV fl, fnV fr, fnV ff]) (hk0 : 0 ≤ r.kind ∧ r.kind ≤ 5) (hl : LaysI fl r l) (hl0 : 0 < l.length) (hn : l.length ≤ 1000) (hnn : ∀ y ∈ l, 0 ≤ y.n)
  (hread : ReadsI fr r.kind l (some (r1,[]))) (hfine : Fines ff r1 true) (w : World) :
  FN Tryz.prog 191 [agE [.string s,fnV fl,fnV fr,fnV ff],recV r] w fun e w' => e = .returned (.bool (decide (r1 = r))) ∧ Ext w w' := by
 refine FN_enter Tryz.func191 rfl rfl (by kernel_rfl) ?_
 simp
 have hE1 : Ext w ((((w.alloc (.cells #[.string s,fnV fl,fnV fr,fnV ff] 210)).alloc (.cells #[i64 r.kind,u32 r.nn,u32 r.ns,u64 r.nt,u32 r.nq,i64 r.what,i64 r.why,u64 r.at',u64 r.num,u32 r.node,u32 r.reg,.bool r.yes,u64 r.fro,u64 r.til,u8 r.lev] 42)).alloc (.cells #[.bool false] 4)).alloc (.cells #[i64 0] 48)) := ((((Ext.refl w).alloc _).alloc _).alloc _).alloc _
 have o2 : Blk ((((w.alloc (.cells #[.string s,fnV fl,fnV fr,fnV ff] 210)).alloc (.cells #[i64 r.kind,u32 r.nn,u32 r.ns,u64 r.nt,u32 r.nq,i64 r.what,i64 r.why,u64 r.at',u64 r.num,u32 r.node,u32 r.reg,.bool r.yes,u64 r.fro,u64 r.til,u8 r.lev] 42)).alloc (.cells #[.bool false] 4)).alloc (.cells #[i64 0] 48)) w.heap.size [.string s,fnV fl,fnV fr,fnV ff] := (Blk.new w _ _).ext ((((Ext.refl _).alloc _).alloc _).alloc _)
 have o3 : Blk ((((w.alloc (.cells #[.string s, fnV fl, fnV fr, fnV ff] 210)).alloc (.cells #[i64 r.kind, u32 r.nn, u32 r.ns, u64 r.nt, u32 r.nq, i64 r.what, i64 r.why, u64 r.at', u64 r.num, u32 r.node, u32 r.reg, .bool r.yes, u64 r.fro, u64 r.til, u8 r.lev] 42)).alloc (.cells #[.bool false] 4)).alloc (.cells #[i64 0] 48)) (w.heap.size + 1) (recC r) := by
  have := (Blk.new (w.alloc (.cells #[.string s,fnV fl,fnV fr,fnV ff] 210)) (recC r) 42).ext (((Ext.refl _).alloc (.cells #[.bool false] 4)).alloc (.cells #[i64 0] 48))
  simpa using this
 have o4 : Blk ((((w.alloc (.cells #[.string s, fnV fl, fnV fr, fnV ff] 210)).alloc (.cells #[i64 r.kind, u32 r.nn, u32 r.ns, u64 r.nt, u32 r.nq, i64 r.what, i64 r.why, u64 r.at', u64 r.num, u32 r.node, u32 r.reg, .bool r.yes, u64 r.fro, u64 r.til, u8 r.lev] 42)).alloc (.cells #[.bool false] 4)).alloc (.cells #[i64 0] 48)) (w.heap.size + 1 + 1) [.bool false] := by
  have := (Blk.new ((w.alloc (.cells #[.string s,fnV fl,fnV fr,fnV ff] 210)).alloc (.cells #[i64 r.kind,u32 r.nn,u32 r.ns,u64 r.nt,u32 r.nq,i64 r.what,i64 r.why,u64 r.at',u64 r.num,u32 r.node,u32 r.reg,.bool r.yes,u64 r.fro,u64 r.til,u8 r.lev] 42)) [.bool false] 4).ext ((Ext.refl _).alloc (.cells #[i64 0] 48))
  simpa using this
 have z1 : ((((w.alloc (.cells #[.string s,fnV fl,fnV fr,fnV ff] 210)).alloc (.cells #[i64 r.kind,u32 r.nn,u32 r.ns,u64 r.nt,u32 r.nq,i64 r.what,i64 r.why,u64 r.at',u64 r.num,u32 r.node,u32 r.reg,.bool r.yes,u64 r.fro,u64 r.til,u8 r.lev] 42)).alloc (.cells #[.bool false] 4)).alloc (.cells #[i64 0] 48)).heap.size = w.heap.size + 1 + 1 + 1 + 1 := by simp
 generalize ((((w.alloc (.cells #[.string s,fnV fl,fnV fr,fnV ff] 210)).alloc (.cells #[i64 r.kind,u32 r.nn,u32 r.ns,u64 r.nt,u32 r.nq,i64 r.what,i64 r.why,u64 r.at',u64 r.num,u32 r.node,u32 r.reg,.bool r.yes,u64 r.fro,u64 r.til,u8 r.lev] 42)).alloc (.cells #[.bool false] 4)).alloc (.cells #[i64 0] 48)) = w1 at *
 refine WC_drawC 5 (.F 0 <| .F 1 <| .F 4 <| .C 2 <| .C 3 <| .Z) (fun _ => false) rfl (by kernel_rfl) fun W hW => ?_
 have hWE : Ext w1 W := hW ▸ Ext.drew w1
 have p2 := o2.ext hWE
 have p3 := o3.ext hWE
 simp [p2.cell 0 _ rfl,p2.cell 1 _ rfl,p2.cell 2 _ rfl,p2.cell 3 _ rfl,p3.cell 0 _ rfl,p3.cell 1 _ rfl,p3.cell 2 _ rfl,p3.cell 3 _ rfl,p3.cell 4 _ rfl,p3.cell 5 _ rfl,p3.cell 6 _ rfl,p3.cell 7 _ rfl,p3.cell 8 _ rfl,p3.cell 9 _ rfl,p3.cell 10 _ rfl,p3.cell 11 _ rfl,p3.cell 12 _ rfl,p3.cell 13 _ rfl,p3.cell 14 _ rfl]
 refine FN.mono (laidI_c hl hl0 hn ⟨hk0.1,by omega⟩ W) ?_
 rintro _ w2 ⟨v,rfl,⟨va,vm,vc,rfl⟩,hI,hE2⟩
 simp
 refine KR_ext hE2 ?_
 simp
 have hrd := readI_c (fb := fun _ => true) (ItP.any hI) rfl rfl rfl hk0 (fun y hy => by
  rcases List.mem_cons.1 hy with rfl | hy
  ·exact hk0.1
  ·exact hnn y hy) hk hread (fun r' rest h => by cases h; exact hfine)
 refine FN.mono hrd ?_
 rintro e3 w3 ⟨hE3,hp3⟩
 have ho : readO (some (r1,[])) (fun _ => true) = some r1 := rfl
 rw [ho] at hp3
 obtain rfl : e3 = _ := hp3
 simp
 refine KR_ext hE3 ?_
 have p4 := o4.ext (hWE.trans (hE2.trans hE3))
 have hq := eqRec r1 r w3
 simp [hq,p4.cell 0 _ rfl,p4.thaw]
 have hM : Mod (fun k => k = w.heap.size + 1 + 1) w3 (w3.setCell ⟨w.heap.size + 1 + 1,0,none⟩ (.bool (decide (r1 = r)))) := (Mod.refl _ _).setC _ _
 have q4 := p4.set 0 (.bool (decide (r1 = r)))
 generalize (w3.setCell ⟨w.heap.size + 1 + 1,0,none⟩ (.bool (decide (r1 = r)))) = w4 at *
 simp only [List.set_cons_zero] at q4
 refine LV_caught ?_
 simp [q4.cell 0 _ rfl]
 exact (((hE1.trans (hWE.trans (hE2.trans hE3))).mod (S := fun k => w.heap.size ≤ k)).trans (hM.weaken fun k hk => by omega)).ext fun _ h => h
end Go.Proofs