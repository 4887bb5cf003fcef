/-
 Contracts of the functions that the law reaches,step by step.
-/
import Derived.Test.YtmmneeomcefgbaaGreatDoorAdG
namespace Go.Proofs
open Pk
set_option maxRecDepth 10000
def LaysI (fl : Nat) (r : Rec) (l : List It) : Prop := ∀ w,FN Tryz.prog fl [recV r] w fun e w' => ∃ v css,e = .returned v ∧ Sl w' 5 v l.length css.flatten ∧ ItPs (fun k => w.heap.size ≤ k) w' l css ∧ (∀ u ∈ css.flatten,u.oneCell' = true) ∧ Ext w w'
set_option maxHeartbeats 1000000 in
theorem laidI_c {fl fr ff : Nat} {s : ByteArray} {r : Rec} {l : List It} (hl : LaysI fl r l) (hl0 : 0 < l.length) (hn : l.length ≤ 1000) (hk : 0 ≤ r.kind ∧ r.kind ≤ 18446744073709551615) (w : World) :
  FN Tryz.prog 150 [agE [.string s,fnV fl,fnV fr,fnV ff],recV r] w fun e w' => ∃ v,e = .returned (.agg #[i64 4,u64 0,.slice none 0 0,.string ⟨#[]⟩,v]) ∧ (∃ a m c,v = .slice a m c) ∧ ItP (fun k => w.heap.size ≤ k) w' (listI (uintI r.kind :: l)) [i64 4,u64 0,.slice none 0 0,.string ⟨#[]⟩,v] ∧ Ext w w' := by
 refine FN_enter Tryz.func150 rfl rfl (by kernel_rfl) ?_
 simp
 have hE1 : Ext w (((w.alloc (.cells #[.string s,fnV fl,fnV fr,fnV ff] 210)).alloc (.cells (recC r).toArray 42)).alloc (.cells #[i64 0,u64 0,.slice none 0 0,.string ⟨#[]⟩,.slice none 0 0] 160)) := (((Ext.refl w).alloc _).alloc _).alloc _
 have o2 : Blk (((w.alloc (.cells #[.string s,fnV fl,fnV fr,fnV ff] 210)).alloc (.cells (recC r).toArray 42)).alloc (.cells #[i64 0,u64 0,.slice none 0 0,.string ⟨#[]⟩,.slice none 0 0] 160)) w.heap.size [.string s,fnV fl,fnV fr,fnV ff] := (Blk.new w _ _).ext (((Ext.refl _).alloc _).alloc _)
 have o3 : Blk (((w.alloc (.cells #[.string s, fnV fl, fnV fr, fnV ff] 210)).alloc (.cells (recC r).toArray 42)).alloc (.cells #[i64 0, u64 0, .slice none 0 0, .string ⟨#[]⟩, .slice none 0 0] 160)) (w.heap.size + 1) (recC r) := by
  have := (Blk.new (w.alloc (.cells #[.string s,fnV fl,fnV fr,fnV ff] 210)) (recC r) 42).ext ((Ext.refl _).alloc (.cells #[i64 0,u64 0,.slice none 0 0,.string ⟨#[]⟩,.slice none 0 0] 160))
  simpa using this
 have o4 : Blk (((w.alloc (.cells #[.string s, fnV fl, fnV fr, fnV ff] 210)).alloc (.cells (recC r).toArray 42)).alloc (.cells #[i64 0, u64 0, .slice none 0 0, .string ⟨#[]⟩, .slice none 0 0] 160)) (w.heap.size + 1 + 1) [i64 0, u64 0, .slice none 0 0, .string ⟨#[]⟩, .slice none 0 0] := by
  have := Blk.new ((w.alloc (.cells #[.string s,fnV fl,fnV fr,fnV ff] 210)).alloc (.cells (recC r).toArray 42)) [i64 0,u64 0,.slice none 0 0,.string ⟨#[]⟩,.slice none 0 0] 160
  simpa using this
 have z1 : (((w.alloc (.cells #[.string s,fnV fl,fnV fr,fnV ff] 210)).alloc (.cells (recC r).toArray 42)).alloc (.cells #[i64 0,u64 0,.slice none 0 0,.string ⟨#[]⟩,.slice none 0 0] 160)).heap.size = w.heap.size + 1 + 1 + 1 := by simp
 generalize (((w.alloc (.cells #[.string s,fnV fl,fnV fr,fnV ff] 210)).alloc (.cells (recC r).toArray 42)).alloc (.cells #[i64 0,u64 0,.slice none 0 0,.string ⟨#[]⟩,.slice none 0 0] 160)) = w1 at *
 refine WC_drawL 8 (.F 0 <| .F 1 <| .F 4 <| .F 5 <| .F 6 <| .C 2 <| .D 3 <| .L 7 <| .W 3 <| .Z) (fun _ => false) (fun _ => false) (fun _ u W => Sl W 5 u 1 (leafC 1 r.kind) ∧ slC u = 1) rfl (by kernel_rfl) (fun _ h => h) (fun _ _ _ _ h1 h2 => ⟨h1.1.ext (agr_ext h2),h1.2⟩) fun W hW => ?_
 have hWE : Ext w1 W := hW ▸ Ext.drew w1
 have p2 := o2.ext hWE
 have p3 := o3.ext hWE
 have p4 := o4.ext hWE
 simp [p2.cell 1 _ rfl,p3.cell 0 _ rfl,p3.cell 1 _ rfl,p3.cell 2 _ rfl,p3.cell 3 _ rfl,p3.cell 4 _ rfl,p3.cell 5 _ rfl,p3.cell 6 _ rfl,p3.cell 7 _ rfl,p3.cell 8 _ rfl,p3.cell 9 _ rfl,p3.cell 10 _ rfl,p3.cell 11 _ rfl,p3.cell 12 _ rfl,p3.cell 13 _ rfl,p3.cell 14 _ rfl]
 refine FN.mono (numk_c r.kind W hk) ?_
 rintro _ W2 ⟨rfl,hE2⟩
 simp
 refine KR_ext hE2 ?_
 simp
 refine RL_float (fun W' h' => ?_) ?_
 ·simp
  exact ⟨(Ext.refl _).alloc _,Sl.made W' (leafC 1 r.kind) 160 5 1 rfl,rfl⟩
 simp
 refine RL_loose fun W3 h3 => ?_
 simp
 refine FN.mono (hl W3) ?_
 rintro _ W4 ⟨vl,css,rfl,hvl,hI4,h1,hE4⟩
 simp
 refine KR_ext hE4 ?_
 simp
 refine RL_wait fun v5 W5 h5 ⟨ho5,hc5⟩ => ?_
 have hE13 := hWE.trans (hE2.trans h3)
 have hE15 := hE13.trans (hE4.trans h5)
 have z3 := hE13.size
 have z5 := hE15.size
 have hIc : ItPs (fun k => w1.heap.size ≤ k) W4 l css := hI4.go (Mod.refl (fun _ => False) W4) fun k _ hk => ⟨by omega,_root_.id⟩
 obtain ⟨cap,cur,w6,hr6,hS6,hE6,-,-⟩ := append_fresh (P := Tryz.prog) (t := 158) (ty := 158) (e := 160) (s := 5) (by simp) (by simp) (by kernel_rfl) ho5 hc5 (hvl.ext h5) h1 (by omega) hl0
 rw [Nat.add_comm 1 l.length] at hS6
 rw [Nat.add_comm 1 l.length] at hr6
 simp [hr6]
 refine FN.mono (list_c _ (l.length + 1) cap w6) ?_
 rintro _ w7 ⟨rfl,hE7⟩
 have hx := hE6.trans hE7
 have p7 := ((o4.ext hE15).ext hE6).ext hE7
 have hItem : ItP (fun k => w1.heap.size ≤ k) w7 (listI (uintI r.kind :: l)) [i64 4, u64 0, .slice none 0 0, .string ⟨#[]⟩, .slice (some ⟨W5.heap.size, 0, none⟩) (l.length + 1) cap] := by
  refine list_it (css := leafC 1 r.kind :: css) ?_ ((hIc.ext (h5.trans hx)).cons (leaf_it 1 r.kind)) (fun _ => z5) (by simp; omega)
  have := (hS6.ext hE7).toB
  simpa using this
 simp [p7.cell 0 _ rfl,p7.cell 1 _ rfl,p7.cell 2 _ rfl,p7.cell 3 _ rfl,p7.cell 4 _ rfl,p7.thaw,cell_setCell]
 exact ⟨hItem.go (five_mod w7 (w.heap.size + 1 + 1) _ _ _ _ _) (fun k _ hk => ⟨by omega,by omega⟩),five_ext (hE1.trans (hE15.trans hx)) (by omega) _ _ _ _ _⟩
end Go.Proofs
namespace Go.Proofs
open Pk
set_option maxRecDepth 10000
def Reads (fr : Nat) (n : Nat) (cs : List Value) (r0 r1 : Rec) : Prop := ∀ (w : World) (b rb : Nat) (v : Value), Blk w b [v] → Sl w 5 v n cs → slB v ≠ b → slB v ≠ rb → b ≠ rb → Blk w rb (recC r0) →
 FN Tryz.prog fr [ptr b,ptr rb] w fun e w' => (∃ u,e = .returned u) ∧ ∃ v',Blk w' b [v'] ∧ Sl w' 5 v' 0 [] ∧ Blk w' rb (recC r1) ∧ Mod (fun j => j = b ∨ j = rb) w w'
def Fines (ff : Nat) (r : Rec) (b : Bool) : Prop := ∀ w,FN Tryz.prog ff [recV r] w fun e w' => e = .returned (.bool b) ∧ Ext w w'
theorem kd_look {r : Nat} {w : World} (hm : MapAt (Value.int .i64) agE w r kdL) {k : Int} {kd : List Value} (hk : mget kdL k = some kd) (W : World) (hW : Ext w W) :
  (Instr.lookup 211 (.map (some r)) (i64 k) true).run Tryz.prog W = .ok (.tuple #[agE kd,.bool true]) W := by
 have := (hm.ext hW).lookup (P := Tryz.prog) krk tkd (zkd W) k true
 rw [hk] at this
 simpa using this
set_option maxHeartbeats 2000000 in
theorem read_t {fl fr ff n : Nat} {s : ByteArray} {k : Int} {cs : List Value} {r1 : Rec} {w : World} {v : Value} {x : Int} {a2 : Option Addr} {l2 c2 : Nat} {s3 : ByteArray} (hv : Sl w 5 v (n + 1) (leafC 1 k ++ cs)) (hk : mget kdL k = some [.string s, fnV fl, fnV fr, fnV ff]) (hk0 : 0 ≤ k ∧ k ≤ 5)
  (hread : Reads fr n cs { rec0 with kind := k } r1) (hfine : Fines ff r1 true) :
  FN Tryz.prog 156 [.agg #[i64 4,u64 x,.slice a2 l2 c2,.string s3,v]] w fun e w' => e = .returned (recV r1) ∧ Ext w w' := by
 refine FN_enter Tryz.func156 rfl rfl (by kernel_rfl) ?_
 obtain ⟨va,vc,hvv⟩ := hv.isSlice
 subst hvv
 simp
 have hE1 : Ext w ((w.alloc (.cells #[i64 4,u64 x,.slice a2 l2 c2,.string s3,.slice va (n + 1) vc] 160)).alloc (.cells #[i64 0,u32 0,u32 0,u64 0,u32 0,i64 0,i64 0,u64 0,u64 0,u32 0,u32 0,.bool false,u64 0,u64 0,u8 0] 42)) := ((Ext.refl w).alloc _).alloc _
 have o1 : Blk ((w.alloc (.cells #[i64 4,u64 x,.slice a2 l2 c2,.string s3,.slice va (n + 1) vc] 160)).alloc (.cells #[i64 0,u32 0,u32 0,u64 0,u32 0,i64 0,i64 0,u64 0,u64 0,u32 0,u32 0,.bool false,u64 0,u64 0,u8 0] 42)) w.heap.size [i64 4,u64 x,.slice a2 l2 c2,.string s3,.slice va (n + 1) vc] := (Blk.new w _ _).ext ((Ext.refl _).alloc _)
 have o2 : Blk ((w.alloc (.cells #[i64 4, u64 x, .slice a2 l2 c2, .string s3, .slice va (n + 1) vc] 160)).alloc (.cells #[i64 0, u32 0, u32 0, u64 0, u32 0, i64 0, i64 0, u64 0, u64 0, u32 0, u32 0, .bool false, u64 0, u64 0, u8 0] 42)) (w.heap.size + 1) [i64 0, u32 0, u32 0, u64 0, u32 0, i64 0, i64 0, u64 0, u64 0, u32 0, u32 0, .bool false, u64 0, u64 0, u8 0] := by
  have := Blk.new (w.alloc (.cells #[i64 4,u64 x,.slice a2 l2 c2,.string s3,.slice va (n + 1) vc] 160)) [i64 0,u32 0,u32 0,u64 0,u32 0,i64 0,i64 0,u64 0,u64 0,u32 0,u32 0,.bool false,u64 0,u64 0,u8 0] 42
  simpa using this
 have z1 : ((w.alloc (.cells #[i64 4,u64 x,.slice a2 l2 c2,.string s3,.slice va (n + 1) vc] 160)).alloc (.cells #[i64 0,u32 0,u32 0,u64 0,u32 0,i64 0,i64 0,u64 0,u64 0,u32 0,u32 0,.bool false,u64 0,u64 0,u8 0] 42)).heap.size = w.heap.size + 1 + 1 := by simp
 generalize ((w.alloc (.cells #[i64 4,u64 x,.slice a2 l2 c2,.string s3,.slice va (n + 1) vc] 160)).alloc (.cells #[i64 0,u32 0,u32 0,u64 0,u32 0,i64 0,i64 0,u64 0,u64 0,u32 0,u32 0,.bool false,u64 0,u64 0,u8 0] 42)) = w1 at *
 have hvlt := hv.lt (by simp)
 refine FN.mono (must_t 180 w1) ?_
 rintro _ w2 ⟨⟨u,rfl⟩,h2⟩
 subst h2
 simp [o1.cell 4 _ rfl]
 have hE3 : Ext w2 (w2.alloc (.cells #[.slice va (n + 1) vc] 264)) := (Ext.refl _).alloc _
 have o3 : Blk (w2.alloc (.cells #[.slice va (n + 1) vc] 264)) w2.heap.size [.slice va (n + 1) vc] := Blk.new w2 _ _
 obtain ⟨b,hb⟩ : ∃ b,b = w2.heap.size := ⟨_,rfl⟩
 obtain ⟨rb,hrb⟩ : ∃ rb,rb = w.heap.size + 1 := ⟨_,rfl⟩
 rw [← hb] at o3 ⊢
 rw [← hrb] at o2 ⊢
 have p2 := o2.ext hE3
 generalize (w2.alloc (.cells #[.slice va (n + 1) vc] 264)) = w3 at *
 refine FN.mono (upToi64_t o3 (hv.ext (hE1.trans hE3)) (by omega) ⟨_,_,_,rfl⟩ ⟨_,rfl⟩ ⟨_,_,_,rfl⟩ hk0.2 (wrap64 _ (by omega) (by omega))) ?_
 rintro _ w4 ⟨rfl,v4,q3,hs4,hsb4,hM4⟩
 have q2 := p2.mod hM4 (by omega)
 simp [q2.cell 0 _ rfl,q2.thaw]
 have q2' := q2.set 0 (i64 k)
 simp only [List.set_cons_zero] at q2'
 have hM5 : Mod (fun j => j = rb) w4 (w4.setCell ⟨rb,0,none⟩ (i64 k)) := (Mod.refl _ _).setC _ _
 have q3' := q3.mod hM5 (by omega)
 have hs5 := hs4.mod hM5 (by rw [hsb4]; omega)
 have hsz3 := hE3.size
 have hsz4 := hM4.size
 have hsz5 := hM5.size
 have hEw5 : Ext w (w4.setCell ⟨rb,0,none⟩ (i64 k)) := ((((hE1.trans hE3).mod (S := fun j => w.heap.size ≤ j)).trans (hM4.weaken fun j hj => by omega)).trans (hM5.weaken fun j hj => by omega)).ext fun _ h => h
 generalize (w4.setCell ⟨rb,0,none⟩ (i64 k)) = w5 at *
 refine WC_drawL 9 (.F 1 <| .F 2 <| .D 7 <| .L 0 <| .L 3 <| .F 4 <| .F 5 <| .F 6 <| .W 7 <| .S 8 <| .Z) (fun _ => false) (fun _ => false) (fun _ u W => ∃ j, u = ptr j ∧ w5.heap.size ≤ j ∧ Blk W j [.string ⟨#[]⟩, .nilFunc, .nilFunc, .nilFunc]) rfl (by kernel_rfl) (fun _ h => h)
  (fun _ _ _ _ ⟨j,h1,h2,h3⟩ hA => ⟨j,h1,h2,h3.ext (agr_ext hA)⟩) fun W hW => ?_
 have hWE : Ext w5 W := hW ▸ Ext.drew w5
 have r2 := q2'.ext hWE
 simp [r2.cell 0 _ rfl]
 refine RL_float (fun W' h' => ?_) ?_
 ·simp
  have hs := (hWE.trans (agr_ext h')).size
  exact ⟨(Ext.refl _).alloc _,hs,Blk.new W' [.string ⟨#[]⟩,.nilFunc,.nilFunc,.nilFunc] 210⟩
 simp
 refine RL_loose fun W3 h3 => ?_
 simp
 refine FN.mono (kinds_c W3) ?_
 rintro _ W4 ⟨mr,rfl,hm,hE4⟩
 simp
 refine KR_ext hE4 ?_
 simp
 refine RL_loose fun W5 h5 => ?_
 simp [kd_look hm hk W5 h5]
 refine KR_same ?_
 simp
 refine RL_wait fun v6 W6 h6 ⟨j,hj,hjs,hjb⟩ => ?_
 subst hj
 simp [hjb.cell 0 _ rfl,hjb.cell 1 _ rfl,hjb.cell 2 _ rfl,hjb.cell 3 _ rfl,hjb.thaw,cell_setCell]
 have hblt := q3'.lt
 have hrlt := q2'.lt
 have hM7 : Mod (fun i => i = j) W6 ((((W6.setCell ⟨j,0,none⟩ (.string s)).setCell ⟨j,1,none⟩ (fnV fl)).setCell ⟨j,2,none⟩ (fnV fr)).setCell ⟨j,3,none⟩ (fnV ff)) := ((((Mod.refl _ W6).setC 0 _).setC 1 _).setC 2 _).setC 3 _
 have j7 := (((hjb.set 0 (.string s)).set 1 (fnV fl)).set 2 (fnV fr)).set 3 (fnV ff)
 simp only [List.set_cons_zero,List.set_cons_succ] at j7
 refine KR_mk (agr_any (hM7.weaken fun _ _ => trivial)) ?_
 have hE56 := hWE.trans (h3.trans (hE4.trans (h5.trans h6)))
 have hsz6 := hE56.size
 have r3 := (q2'.ext hE56).mod hM7 (by omega)
 have t3 := (q3'.ext hE56).mod hM7 (by omega)
 have hs7 := (hs5.ext hE56).mod hM7 (by rw [hsb4]; omega)
 have hEw7 : Ext w ((((W6.setCell ⟨j,0,none⟩ (.string s)).setCell ⟨j,1,none⟩ (fnV fl)).setCell ⟨j,2,none⟩ (fnV fr)).setCell ⟨j,3,none⟩ (fnV ff)) := (((hEw5.trans hE56).mod (S := fun j => w.heap.size ≤ j)).trans (hM7.weaken fun i hi => by omega)).ext fun _ h => h
 generalize ((((W6.setCell ⟨j,0,none⟩ (.string s)).setCell ⟨j,1,none⟩ (fnV fl)).setCell ⟨j,2,none⟩ (fnV fr)).setCell ⟨j,3,none⟩ (fnV ff)) = w7 at *
 simp
 refine FN.mono (must_t 180 w7) ?_
 rintro _ w8 ⟨⟨u8,rfl⟩,h8⟩
 subst h8
 simp [j7.cell 2 _ rfl]
 refine FN.mono (hread w8 b rb v4 t3 hs7 (by rw [hsb4]; omega) (by rw [hsb4]; omega) (by omega) r3) ?_
 rintro _ w9 ⟨⟨u9,rfl⟩,v9,t9,hs9,r9,hM9⟩
 obtain ⟨a9,c9,hv9⟩ := hs9.isSlice
 subst hv9
 have hlen9 := fun ty W => hs9.isLen (P := Tryz.prog) (t := 158) (by simp) ty W
 have j9 := j7.mod hM9 (by omega)
 simp [t9.cell 0 _ rfl,hlen9,j9.cell 3 _ rfl,r9.cell 0 _ rfl,r9.cell 1 _ rfl,r9.cell 2 _ rfl,r9.cell 3 _ rfl,r9.cell 4 _ rfl,r9.cell 5 _ rfl,r9.cell 6 _ rfl,r9.cell 7 _ rfl,r9.cell 8 _ rfl,r9.cell 9 _ rfl,r9.cell 10 _ rfl,r9.cell 11 _ rfl,r9.cell 12 _ rfl,r9.cell 13 _ rfl,r9.cell 14 _ rfl]
 refine FN.mono (hfine w9) ?_
 rintro _ w10 ⟨rfl,hE10⟩
 simp
 refine FN.mono (must_t 180 w10) ?_
 rintro _ w11 ⟨⟨u11,rfl⟩,h11⟩
 subst h11
 have r11 := r9.ext hE10
 simp [r11.cell 0 _ rfl,r11.cell 1 _ rfl,r11.cell 2 _ rfl,r11.cell 3 _ rfl,r11.cell 4 _ rfl,r11.cell 5 _ rfl,r11.cell 6 _ rfl,r11.cell 7 _ rfl,r11.cell 8 _ rfl,r11.cell 9 _ rfl,r11.cell 10 _ rfl,r11.cell 11 _ rfl,r11.cell 12 _ rfl,r11.cell 13 _ rfl,r11.cell 14 _ rfl,r11.thaw,setCell_id (r11.cell 0 _ rfl),setCell_id (r11.cell 1 _ rfl),setCell_id (r11.cell 2 _ rfl),setCell_id (r11.cell 3 _ rfl),setCell_id (r11.cell 4 _ rfl),setCell_id (r11.cell 5 _ rfl),setCell_id (r11.cell 6 _ rfl),setCell_id (r11.cell 7 _ rfl),setCell_id (r11.cell 8 _ rfl),setCell_id (r11.cell 9 _ rfl),setCell_id (r11.cell 10 _ rfl),setCell_id (r11.cell 11 _ rfl),setCell_id (r11.cell 12 _ rfl),setCell_id (r11.cell 13 _ rfl),setCell_id (r11.cell 14 _ rfl)]
 exact (((hEw7.mod (S := fun j => w.heap.size ≤ j)).trans (hM9.weaken fun i hi => by omega)).ext fun _ h => h).trans hE10
end Go.Proofs
namespace Go.Proofs
open Pk
set_option maxRecDepth 10000
theorem fRec : flatA Tryz.prog 42 = some [.int .i64,.int .u32,.int .u32,.int .u64,.int .u32,.int .i64,.int .i64,.int .u64,.int .u64,.int .u32,.int .u32,.bool,.int .u64,.int .u64,.int .u8] := by kernel_rfl
theorem rec_eq (a b : Rec) : eqcs (recC a) (recC b) = decide (a = b) := by
 obtain ⟨a1,a2,a3,a4,a5,a6,a7,a8,a9,a10,a11,a12,a13,a14,a15⟩ := a
 obtain ⟨b1,b2,b3,b4,b5,b6,b7,b8,b9,b10,b11,b12,b13,b14,b15⟩ := b
 rw [Bool.eq_iff_iff]
 simp [eqcs,eqc]
theorem eqRec (a b : Rec) (w : World) : (binOp .eql 42 (recV a) (recV b)).run Tryz.prog w = .ok (.bool (decide (a = b))) w := by
 rw [← rec_eq]
 exact run_eql_flat w fRec _ _ rfl rfl
set_option maxHeartbeats 2000000 in
theorem bare_t {fl fr ff n : Nat} {s : ByteArray} {r r1 : Rec} {cs : List Value} (hk : mget kdL r.kind = some [.string s, fnV fl, fnV fr, fnV ff]) (hk0 : 0 ≤ r.kind ∧ r.kind ≤ 5) (hl : Lays fl r n cs) (h1 : ∀ u ∈ cs, u.oneCell' = true) (hn : n ≤ 1000)
  (hread : Reads fr n cs { rec0 with kind := r.kind } r1) (hfine : Fines ff r1 true) (w : World) :
  FN Tryz.prog 191 [agE [.string s,fnV fl,fnV fr,fnV ff],recV r] w fun e w' => e = .returned (.bool (decide (r1 = r))) ∧ Ext w w' := by
 refine FN_enter Tryz.func191 rfl rfl (by kernel_rfl) ?_
 simp
 have hE1 : Ext w ((((w.alloc (.cells #[.string s,fnV fl,fnV fr,fnV ff] 210)).alloc (.cells #[i64 r.kind,u32 r.nn,u32 r.ns,u64 r.nt,u32 r.nq,i64 r.what,i64 r.why,u64 r.at',u64 r.num,u32 r.node,u32 r.reg,.bool r.yes,u64 r.fro,u64 r.til,u8 r.lev] 42)).alloc (.cells #[.bool false] 4)).alloc (.cells #[i64 0] 48)) := ((((Ext.refl w).alloc _).alloc _).alloc _).alloc _
 have o2 : Blk ((((w.alloc (.cells #[.string s,fnV fl,fnV fr,fnV ff] 210)).alloc (.cells #[i64 r.kind,u32 r.nn,u32 r.ns,u64 r.nt,u32 r.nq,i64 r.what,i64 r.why,u64 r.at',u64 r.num,u32 r.node,u32 r.reg,.bool r.yes,u64 r.fro,u64 r.til,u8 r.lev] 42)).alloc (.cells #[.bool false] 4)).alloc (.cells #[i64 0] 48)) w.heap.size [.string s,fnV fl,fnV fr,fnV ff] := (Blk.new w _ _).ext ((((Ext.refl _).alloc _).alloc _).alloc _)
 have o3 : Blk ((((w.alloc (.cells #[.string s, fnV fl, fnV fr, fnV ff] 210)).alloc (.cells #[i64 r.kind, u32 r.nn, u32 r.ns, u64 r.nt, u32 r.nq, i64 r.what, i64 r.why, u64 r.at', u64 r.num, u32 r.node, u32 r.reg, .bool r.yes, u64 r.fro, u64 r.til, u8 r.lev] 42)).alloc (.cells #[.bool false] 4)).alloc (.cells #[i64 0] 48)) (w.heap.size + 1) (recC r) := by
  have := (Blk.new (w.alloc (.cells #[.string s,fnV fl,fnV fr,fnV ff] 210)) (recC r) 42).ext (((Ext.refl _).alloc (.cells #[.bool false] 4)).alloc (.cells #[i64 0] 48))
  simpa using this
 have o4 : Blk ((((w.alloc (.cells #[.string s, fnV fl, fnV fr, fnV ff] 210)).alloc (.cells #[i64 r.kind, u32 r.nn, u32 r.ns, u64 r.nt, u32 r.nq, i64 r.what, i64 r.why, u64 r.at', u64 r.num, u32 r.node, u32 r.reg, .bool r.yes, u64 r.fro, u64 r.til, u8 r.lev] 42)).alloc (.cells #[.bool false] 4)).alloc (.cells #[i64 0] 48)) (w.heap.size + 1 + 1) [.bool false] := by
  have := (Blk.new ((w.alloc (.cells #[.string s,fnV fl,fnV fr,fnV ff] 210)).alloc (.cells #[i64 r.kind,u32 r.nn,u32 r.ns,u64 r.nt,u32 r.nq,i64 r.what,i64 r.why,u64 r.at',u64 r.num,u32 r.node,u32 r.reg,.bool r.yes,u64 r.fro,u64 r.til,u8 r.lev] 42)) [.bool false] 4).ext ((Ext.refl _).alloc (.cells #[i64 0] 48))
  simpa using this
 have z1 : ((((w.alloc (.cells #[.string s,fnV fl,fnV fr,fnV ff] 210)).alloc (.cells #[i64 r.kind,u32 r.nn,u32 r.ns,u64 r.nt,u32 r.nq,i64 r.what,i64 r.why,u64 r.at',u64 r.num,u32 r.node,u32 r.reg,.bool r.yes,u64 r.fro,u64 r.til,u8 r.lev] 42)).alloc (.cells #[.bool false] 4)).alloc (.cells #[i64 0] 48)).heap.size = w.heap.size + 1 + 1 + 1 + 1 := by simp
 generalize ((((w.alloc (.cells #[.string s,fnV fl,fnV fr,fnV ff] 210)).alloc (.cells #[i64 r.kind,u32 r.nn,u32 r.ns,u64 r.nt,u32 r.nq,i64 r.what,i64 r.why,u64 r.at',u64 r.num,u32 r.node,u32 r.reg,.bool r.yes,u64 r.fro,u64 r.til,u8 r.lev] 42)).alloc (.cells #[.bool false] 4)).alloc (.cells #[i64 0] 48)) = w1 at *
 refine WC_drawC 5 (.F 0 <| .F 1 <| .F 4 <| .C 2 <| .C 3 <| .Z) (fun _ => false) rfl (by kernel_rfl) fun W hW => ?_
 have hWE : Ext w1 W := hW ▸ Ext.drew w1
 have p2 := o2.ext hWE
 have p3 := o3.ext hWE
 simp [p2.cell 0 _ rfl,p2.cell 1 _ rfl,p2.cell 2 _ rfl,p2.cell 3 _ rfl,p3.cell 0 _ rfl,p3.cell 1 _ rfl,p3.cell 2 _ rfl,p3.cell 3 _ rfl,p3.cell 4 _ rfl,p3.cell 5 _ rfl,p3.cell 6 _ rfl,p3.cell 7 _ rfl,p3.cell 8 _ rfl,p3.cell 9 _ rfl,p3.cell 10 _ rfl,p3.cell 11 _ rfl,p3.cell 12 _ rfl,p3.cell 13 _ rfl,p3.cell 14 _ rfl]
 refine FN.mono (laid_c hl h1 hn ⟨hk0.1,by omega⟩ W) ?_
 rintro _ w2 ⟨v,rfl,hv,hE2,-⟩
 simp
 refine KR_ext hE2 ?_
 simp
 refine FN.mono (read_t hv hk hk0 hread hfine) ?_
 rintro _ w3 ⟨rfl,hE3⟩
 simp
 refine KR_ext hE3 ?_
 have p4 := o4.ext (hWE.trans (hE2.trans hE3))
 have hq := eqRec r1 r w3
 simp [hq,p4.cell 0 _ rfl,p4.thaw]
 have hM : Mod (fun k => k = w.heap.size + 1 + 1) w3 (w3.setCell ⟨w.heap.size + 1 + 1,0,none⟩ (.bool (decide (r1 = r)))) := (Mod.refl _ _).setC _ _
 have q4 := p4.set 0 (.bool (decide (r1 = r)))
 generalize (w3.setCell ⟨w.heap.size + 1 + 1,0,none⟩ (.bool (decide (r1 = r)))) = w4 at *
 simp only [List.set_cons_zero] at q4
 refine LV_caught ?_
 simp [q4.cell 0 _ rfl]
 exact (((hE1.trans (hWE.trans (hE2.trans hE3))).mod (S := fun k => w.heap.size ≤ k)).trans (hM.weaken fun k hk => by omega)).ext fun _ h => h
def chk (r : Rec) (fb bb : Bool) : Int := if fb then (if 4294967295 < r.num then 2 else if timesOk [r.at',r.fro,r.til] then (if bb then 0 else 2) else 2) else 2
set_option maxHeartbeats 2000000 in
theorem check_t {fl fr ff : Nat} {s : ByteArray} {r : Rec} {fb bb : Bool} (hk : mget kdL r.kind = some [.string s, fnV fl, fnV fr, fnV ff]) (hfine : Fines ff r fb)
  (hbare : fb = true → ¬ 4294967295 < r.num → timesOk [r.at',r.fro,r.til] = true → ∀ w,FN Tryz.prog 191 [agE [.string s,fnV fl,fnV fr,fnV ff],recV r] w fun e w' => e = .returned (.bool bb) ∧ Ext w w') (w : World) :
  FN Tryz.prog 148 [recV r] w fun e w' => e = .returned (i64 (chk r fb bb)) ∧ Ext w w' := by
 refine FN_enter Tryz.func148 rfl rfl (by kernel_rfl) ?_
 simp
 have hE1 : Ext w (w.alloc (.cells #[i64 r.kind,u32 r.nn,u32 r.ns,u64 r.nt,u32 r.nq,i64 r.what,i64 r.why,u64 r.at',u64 r.num,u32 r.node,u32 r.reg,.bool r.yes,u64 r.fro,u64 r.til,u8 r.lev] 42)) := (Ext.refl w).alloc _
 have o1 : Blk (w.alloc (.cells #[i64 r.kind,u32 r.nn,u32 r.ns,u64 r.nt,u32 r.nq,i64 r.what,i64 r.why,u64 r.at',u64 r.num,u32 r.node,u32 r.reg,.bool r.yes,u64 r.fro,u64 r.til,u8 r.lev] 42)) w.heap.size (recC r) := Blk.new w (recC r) 42
 generalize (w.alloc (.cells #[i64 r.kind,u32 r.nn,u32 r.ns,u64 r.nt,u32 r.nq,i64 r.what,i64 r.why,u64 r.at',u64 r.num,u32 r.node,u32 r.reg,.bool r.yes,u64 r.fro,u64 r.til,u8 r.lev] 42)) = w1 at *
 refine WC_drawL 9 (.F 1 <| .F 2 <| .D 7 <| .L 0 <| .L 3 <| .F 4 <| .F 5 <| .F 6 <| .W 7 <| .S 8 <| .Z) (fun _ => false) (fun _ => false) (fun _ u W => ∃ j, u = ptr j ∧ w1.heap.size ≤ j ∧ Blk W j [.string ⟨#[]⟩, .nilFunc, .nilFunc, .nilFunc]) rfl (by kernel_rfl) (fun _ h => h)
  (fun _ _ _ _ ⟨j,h1,h2,h3⟩ hA => ⟨j,h1,h2,h3.ext (agr_ext hA)⟩) fun W hW => ?_
 have hWE : Ext w1 W := hW ▸ Ext.drew w1
 have r2 := o1.ext hWE
 simp [r2.cell 0 _ rfl]
 refine RL_float (fun W' h' => ?_) ?_
 ·simp
  have hs := (hWE.trans (agr_ext h')).size
  exact ⟨(Ext.refl _).alloc _,hs,Blk.new W' [.string ⟨#[]⟩,.nilFunc,.nilFunc,.nilFunc] 210⟩
 simp
 refine RL_loose fun W3 h3 => ?_
 simp
 refine FN.mono (kinds_c W3) ?_
 rintro _ W4 ⟨mr,rfl,hm,hE4⟩
 simp
 refine KR_ext hE4 ?_
 simp
 refine RL_loose fun W5 h5 => ?_
 simp [kd_look hm hk W5 h5]
 refine KR_same ?_
 simp
 refine RL_wait fun v6 W6 h6 ⟨j,hj,hjs,hjb⟩ => ?_
 subst hj
 simp [hjb.cell 0 _ rfl,hjb.cell 1 _ rfl,hjb.cell 2 _ rfl,hjb.cell 3 _ rfl,hjb.thaw,cell_setCell]
 have hM7 : Mod (fun i => i = j) W6 ((((W6.setCell ⟨j,0,none⟩ (.string s)).setCell ⟨j,1,none⟩ (fnV fl)).setCell ⟨j,2,none⟩ (fnV fr)).setCell ⟨j,3,none⟩ (fnV ff)) := ((((Mod.refl _ W6).setC 0 _).setC 1 _).setC 2 _).setC 3 _
 have j7 := (((hjb.set 0 (.string s)).set 1 (fnV fl)).set 2 (fnV fr)).set 3 (fnV ff)
 simp only [List.set_cons_zero,List.set_cons_succ] at j7
 refine KR_mk (agr_any (hM7.weaken fun _ _ => trivial)) ?_
 have hE56 := hWE.trans (h3.trans (hE4.trans (h5.trans h6)))
 have hsz6 := hE56.size
 have hsz1 := hE1.size
 have hlt1 := o1.lt
 have r3 := (o1.ext hE56).mod hM7 (by omega)
 have hEw7 : Ext w ((((W6.setCell ⟨j,0,none⟩ (.string s)).setCell ⟨j,1,none⟩ (fnV fl)).setCell ⟨j,2,none⟩ (fnV fr)).setCell ⟨j,3,none⟩ (fnV ff)) := (((hE1.trans hE56).mod (S := fun j => w.heap.size ≤ j)).trans (hM7.weaken fun i hi => by omega)).ext fun _ h => h
 generalize ((((W6.setCell ⟨j,0,none⟩ (.string s)).setCell ⟨j,1,none⟩ (fnV fl)).setCell ⟨j,2,none⟩ (fnV fr)).setCell ⟨j,3,none⟩ (fnV ff)) = w7 at *
 simp [j7.cell 3 _ rfl,r3.cell 0 _ rfl,r3.cell 1 _ rfl,r3.cell 2 _ rfl,r3.cell 3 _ rfl,r3.cell 4 _ rfl,r3.cell 5 _ rfl,r3.cell 6 _ rfl,r3.cell 7 _ rfl,r3.cell 8 _ rfl,r3.cell 9 _ rfl,r3.cell 10 _ rfl,r3.cell 11 _ rfl,r3.cell 12 _ rfl,r3.cell 13 _ rfl,r3.cell 14 _ rfl]
 refine FN.mono (hfine w7) ?_
 rintro _ w8 ⟨rfl,hE8⟩
 have r8 := r3.ext hE8
 have j8 := j7.ext hE8
 cases fb with
 | false =>
  simp [chk]
  exact hEw7.trans hE8
 | true =>
  by_cases hnum : 4294967295 < r.num
  ·simp [chk,hnum,r8.cell 8 _ rfl]
   exact hEw7.trans hE8
  ·simp [hnum,r8.cell 8 _ rfl,r8.cell 7 _ rfl,r8.cell 12 _ rfl,r8.cell 13 _ rfl]
   have hsl := Sl.made w8 [u64 r.at',u64 r.fro,u64 r.til] 24 1 3 rfl
   have hE9 := (Ext.refl w8).alloc (.cells #[u64 r.at',u64 r.fro,u64 r.til] 24)
   refine FN.mono (ccheck_c (l := [r.at',r.fro,r.til]) hsl (by simp)) ?_
   rintro _ w9 ⟨rfl,hE10⟩
   have hE910 := hE9.trans hE10
   have r9 := r8.ext hE910
   have j9 := j8.ext hE910
   cases ht : timesOk [r.at',r.fro,r.til] with
   | false =>
    simp [chk,hnum,ht]
    exact (hEw7.trans hE8).trans hE910
   | true =>
    simp [j9.cell 0 _ rfl,j9.cell 1 _ rfl,j9.cell 2 _ rfl,j9.cell 3 _ rfl,r9.cell 0 _ rfl,r9.cell 1 _ rfl,r9.cell 2 _ rfl,r9.cell 3 _ rfl,r9.cell 4 _ rfl,r9.cell 5 _ rfl,r9.cell 6 _ rfl,r9.cell 7 _ rfl,r9.cell 8 _ rfl,r9.cell 9 _ rfl,r9.cell 10 _ rfl,r9.cell 11 _ rfl,r9.cell 12 _ rfl,r9.cell 13 _ rfl,r9.cell 14 _ rfl]
    refine FN.mono (hbare rfl hnum ht w9) ?_
    rintro _ w11 ⟨rfl,hE11⟩
    cases bb with
    | true =>
     simp [chk,hnum,ht]
     exact ((hEw7.trans hE8).trans hE910).trans hE11
    | false =>
     simp [chk,hnum,ht]
     exact ((hEw7.trans hE8).trans hE910).trans hE11
end Go.Proofs
namespace Go.Proofs
open Pk
set_option maxRecDepth 10000
theorem one5 {k n : Int} : ∀ u ∈ leafC k n, u.oneCell' = true := by
 intro u hu
 simp at hu
 rcases hu with rfl | rfl | rfl | rfl | rfl <;> rfl
def tellC (r : Rec) : List Value := leafC 1 r.num ++ (leafC 1 r.node ++ (leafC 1 r.reg ++ (leafC 5 (if r.yes then 1 else 0) ++ leafC 1 r.til)))
theorem tell_one (r : Rec) : ∀ u ∈ tellC r, u.oneCell' = true := by
 intro u hu
 simp only [tellC,List.mem_append] at hu
 rcases hu with h | h | h | h | h
 all_goals exact one5 u h
theorem tell_lay {r : Rec} (hr : RecOk r) : Lays 208 r 5 (tellC r) := by
 intro w
 refine FN_enter Tryz.func208 rfl rfl (by kernel_rfl) ?_
 simp
 have hE1 : Ext w (w.alloc (.cells #[i64 r.kind,u32 r.nn,u32 r.ns,u64 r.nt,u32 r.nq,i64 r.what,i64 r.why,u64 r.at',u64 r.num,u32 r.node,u32 r.reg,.bool r.yes,u64 r.fro,u64 r.til,u8 r.lev] 42)) := (Ext.refl w).alloc _
 have o1 : Blk (w.alloc (.cells #[i64 r.kind,u32 r.nn,u32 r.ns,u64 r.nt,u32 r.nq,i64 r.what,i64 r.why,u64 r.at',u64 r.num,u32 r.node,u32 r.reg,.bool r.yes,u64 r.fro,u64 r.til,u8 r.lev] 42)) w.heap.size (recC r) := Blk.new w (recC r) 42
 generalize (w.alloc (.cells #[i64 r.kind,u32 r.nn,u32 r.ns,u64 r.nt,u32 r.nq,i64 r.what,i64 r.why,u64 r.at',u64 r.num,u32 r.node,u32 r.reg,.bool r.yes,u64 r.fro,u64 r.til,u8 r.lev] 42)) = w1 at *
 refine WC_drawC 14 (.F 0 <| .F 1 <| .F 3 <| .F 4 <| .F 6 <| .F 7 <| .F 9 <| .F 10 <| .F 12 <| .F 13 <| .C 2 <| .C 5 <| .C 8 <| .C 11 <| .Z) (fun _ => false) rfl (by kernel_rfl) fun W hW => ?_
 have hWE : Ext w1 W := hW ▸ Ext.drew w1
 have p1 := o1.ext hWE
 simp [p1.cell 8 _ rfl,p1.cell 9 _ rfl,p1.cell 10 _ rfl,p1.cell 11 _ rfl,p1.cell 13 _ rfl]
 refine FN.mono (num64_c r.num W hr.num) ?_
 rintro _ w2 ⟨rfl,hE2⟩
 simp
 refine KR_ext hE2 ?_
 simp
 refine FN.mono (num32_c r.node w2 hr.node) ?_
 rintro _ w3 ⟨rfl,hE3⟩
 simp
 refine KR_ext hE3 ?_
 simp
 refine FN.mono (num32_c r.reg w3 hr.reg) ?_
 rintro _ w4 ⟨rfl,hE4⟩
 simp
 refine KR_ext hE4 ?_
 simp
 refine FN.mono (truth_c r.yes w4) ?_
 rintro _ w5 ⟨rfl,hE5⟩
 simp
 refine KR_ext hE5 ?_
 simp
 refine FN.mono (num64_c r.til w5 hr.til) ?_
 rintro _ w6 ⟨rfl,hE6⟩
 simp
 have hm := Sl.made w6 (tellC r) 160 5 5 rfl
 have hE7 := (Ext.refl w6).alloc (.cells (tellC r).toArray 160)
 exact ⟨by simpa [tellC] using hm,(hE1.trans (hWE.trans (hE2.trans (hE3.trans (hE4.trans (hE5.trans hE6)))))).trans hE7⟩
theorem there_c (r : Rec) : Fines 207 r (decide (0 < min r.node r.reg)) := by
 intro w
 refine FN_enter Tryz.func207 rfl rfl (by kernel_rfl) ?_
 simp
 exact (Ext.refl w).alloc (.cells #[i64 r.kind,u32 r.nn,u32 r.ns,u64 r.nt,u32 r.nq,i64 r.what,i64 r.why,u64 r.at',u64 r.num,u32 r.node,u32 r.reg,.bool r.yes,u64 r.fro,u64 r.til,u8 r.lev] 42)
set_option maxHeartbeats 1000000 in
theorem tell_read {r : Rec} (hr : RecOk r) (h1 : r.num ≤ 4294967295) (h2 : r.til ≤ 4611686018427387903) : Reads 210 5 (tellC r) { rec0 with kind := r.kind } { rec0 with kind := r.kind, num := r.num, node := r.node, reg := r.reg, yes := r.yes, til := r.til } := by
 intro w b rb v hb hv hn1 hn2 hn3 hR
 refine FN_enter Tryz.func210 rfl rfl (by kernel_rfl) ?_
 simp
 refine FN.mono (upTou64_t hb hv hn1 ⟨_,_,_,rfl⟩ ⟨_,rfl⟩ ⟨_,_,_,rfl⟩ h1 (wrap64u _ hr.num.1 hr.num.2)) ?_
 rintro _ w1 ⟨rfl,v1,b1,s1,e1,M1⟩
 simp
 refine FN.mono (node_t b1 s1 (by rw [e1]; exact hn1) ⟨_,_,_,rfl⟩ ⟨_,rfl⟩ ⟨_,_,_,rfl⟩ hr.node.1 hr.node.2) ?_
 rintro _ w2 ⟨rfl,v2,b2,s2,e2,M2⟩
 simp
 refine FN.mono (node_t b2 s2 (by rw [e2,e1]; exact hn1) ⟨_,_,_,rfl⟩ ⟨_,rfl⟩ ⟨_,_,_,rfl⟩ hr.reg.1 hr.reg.2) ?_
 rintro _ w3 ⟨rfl,v3,b3,s3,e3,M3⟩
 have R3 := ((hR.mod M1 (by omega)).mod M2 (by omega)).mod M3 (by omega)
 simp only [rec0] at R3
 simp [R3.cell 8 _ rfl,R3.cell 9 _ rfl,R3.cell 10 _ rfl,R3.thaw,cell_setCell]
 have M4 : Mod (fun j => j = rb) w3 (((w3.setCell ⟨rb,8,none⟩ (u64 r.num)).setCell ⟨rb,9,none⟩ (u32 r.node)).setCell ⟨rb,10,none⟩ (u32 r.reg)) := (((Mod.refl _ _).setC 8 _).setC 9 _).setC 10 _
 have R4 := ((R3.set 8 (u64 r.num)).set 9 (u32 r.node)).set 10 (u32 r.reg)
 simp only [List.set_cons_zero,List.set_cons_succ] at R4
 have b4 := b3.mod M4 (by omega)
 have s4 := s3.mod M4 (by rw [e3,e2,e1]; exact hn2)
 generalize (((w3.setCell ⟨rb,8,none⟩ (u64 r.num)).setCell ⟨rb,9,none⟩ (u32 r.node)).setCell ⟨rb,10,none⟩ (u32 r.reg)) = w4 at *
 refine FN.mono (yes_t b4 s4 (by rw [e3,e2,e1]; exact hn1) ⟨_,_,_,rfl⟩ ⟨_,rfl⟩ ⟨_,_,_,rfl⟩) ?_
 rintro _ w5 ⟨rfl,v5,b5,s5,e5,M5⟩
 have hyes : decide ((if r.yes = true then (1 : Int) else 0) = 1) = r.yes := by cases r.yes <;> rfl
 rw [hyes]
 have R5 := R4.mod M5 (by omega)
 simp [R5.cell 11 _ rfl,R5.thaw]
 have M6 : Mod (fun j => j = rb) w5 (w5.setCell ⟨rb,11,none⟩ (.bool r.yes)) := (Mod.refl _ _).setC 11 _
 have R6 := R5.set 11 (.bool r.yes)
 simp only [List.set_cons_zero,List.set_cons_succ] at R6
 have b6 := b5.mod M6 (by omega)
 have s6 := s5.mod M6 (by rw [e5,e3,e2,e1]; exact hn2)
 generalize (w5.setCell ⟨rb,11,none⟩ (.bool r.yes)) = w6 at *
 refine FN.mono (time_t (rest := []) b6 (by simpa using s6) (by rw [e5,e3,e2,e1]; exact hn1) ⟨_,_,_,rfl⟩ ⟨_,rfl⟩ ⟨_,_,_,rfl⟩ hr.til.1 h2) ?_
 rintro _ w7 ⟨rfl,v7,b7,s7,e7,M7⟩
 have R7 := R6.mod M7 (by omega)
 simp [R7.cell 13 _ rfl,R7.thaw]
 have M8 : Mod (fun j => j = rb) w7 (w7.setCell ⟨rb,13,none⟩ (u64 r.til)) := (Mod.refl _ _).setC 13 _
 have R8 := R7.set 13 (u64 r.til)
 simp only [List.set_cons_zero,List.set_cons_succ] at R8
 refine ⟨v7,b7.mod M8 (by omega),s7.mod M8 (by rw [e7,e5,e3,e2,e1]; exact hn2),R8,?_⟩
 exact (((((((M1.weaken fun j hj => .inl hj).trans (M2.weaken fun j hj => .inl hj)).trans (M3.weaken fun j hj => .inl hj)).trans (M4.weaken fun j hj => .inr hj)).trans (M5.weaken fun j hj => .inl hj)).trans (M6.weaken fun j hj => .inr hj)).trans (M7.weaken fun j hj => .inl hj)).trans (M8.weaken fun j hj => .inr hj)
def foreC (r : Rec) : List Value := leafC 1 r.node ++ (leafC 1 r.fro ++ (leafC 1 r.til ++ leafC 1 r.lev))
theorem fore_one (r : Rec) : ∀ u ∈ foreC r, u.oneCell' = true := by
 intro u hu
 simp only [foreC,List.mem_append] at hu
 rcases hu with h | h | h | h
 all_goals exact one5 u h
theorem fore_lay {r : Rec} (hr : RecOk r) : Lays 213 r 4 (foreC r) := by
 intro w
 refine FN_enter Tryz.func213 rfl rfl (by kernel_rfl) ?_
 simp
 have hE1 : Ext w (w.alloc (.cells #[i64 r.kind,u32 r.nn,u32 r.ns,u64 r.nt,u32 r.nq,i64 r.what,i64 r.why,u64 r.at',u64 r.num,u32 r.node,u32 r.reg,.bool r.yes,u64 r.fro,u64 r.til,u8 r.lev] 42)) := (Ext.refl w).alloc _
 have o1 : Blk (w.alloc (.cells #[i64 r.kind,u32 r.nn,u32 r.ns,u64 r.nt,u32 r.nq,i64 r.what,i64 r.why,u64 r.at',u64 r.num,u32 r.node,u32 r.reg,.bool r.yes,u64 r.fro,u64 r.til,u8 r.lev] 42)) w.heap.size (recC r) := Blk.new w (recC r) 42
 generalize (w.alloc (.cells #[i64 r.kind,u32 r.nn,u32 r.ns,u64 r.nt,u32 r.nq,i64 r.what,i64 r.why,u64 r.at',u64 r.num,u32 r.node,u32 r.reg,.bool r.yes,u64 r.fro,u64 r.til,u8 r.lev] 42)) = w1 at *
 refine WC_drawC 11 (.F 0 <| .F 1 <| .F 3 <| .F 4 <| .F 6 <| .F 7 <| .F 9 <| .F 10 <| .C 2 <| .C 5 <| .C 8 <| .Z) (fun _ => false) rfl (by kernel_rfl) fun W hW => ?_
 have hWE : Ext w1 W := hW ▸ Ext.drew w1
 have p1 := o1.ext hWE
 simp [p1.cell 9 _ rfl,p1.cell 12 _ rfl,p1.cell 13 _ rfl,p1.cell 14 _ rfl]
 refine FN.mono (num32_c r.node W hr.node) ?_
 rintro _ w2 ⟨rfl,hE2⟩
 simp
 refine KR_ext hE2 ?_
 simp
 refine FN.mono (num64_c r.fro w2 hr.fro) ?_
 rintro _ w3 ⟨rfl,hE3⟩
 simp
 refine KR_ext hE3 ?_
 simp
 refine FN.mono (num64_c r.til w3 hr.til) ?_
 rintro _ w4 ⟨rfl,hE4⟩
 simp
 refine KR_ext hE4 ?_
 simp
 refine FN.mono (num8_c r.lev w4 hr.lev) ?_
 rintro _ w6 ⟨rfl,hE6⟩
 simp
 have hm := Sl.made w6 (foreC r) 160 5 4 rfl
 have hE7 := (Ext.refl w6).alloc (.cells (foreC r).toArray 160)
 exact ⟨by simpa [foreC] using hm,(hE1.trans (hWE.trans (hE2.trans (hE3.trans (hE4.trans hE6))))).trans hE7⟩
def spnOk (a b : Int) : Bool := decide (a ≤ b) && decide (b ≤ 4611686018427387903)
theorem sright1_c (a b : Int) (w : World) : FN Tryz.prog 263 [.agg #[u64 a, u64 b]] w fun e w' => e = .returned (.bool (spnOk a b)) ∧ Ext w w' := by
 refine FN_enter Tryz.func263 rfl rfl (by kernel_rfl) ?_
 simp
 by_cases h : a ≤ b
 ·simp [h,spnOk]
  exact (Ext.refl w).alloc _
 ·simp [h,spnOk]
  exact (Ext.refl w).alloc _
theorem sright_c (a b : Int) (w : World) : FN Tryz.prog 218 [.agg #[u64 a, u64 b]] w fun e w' => e = .returned (.bool (spnOk a b)) ∧ Ext w w' := by
 refine FN_enter Tryz.func218 rfl rfl (by kernel_rfl) ?_
 simp
 have hE := (Ext.refl w).alloc (.cells #[u64 a,u64 b] 31)
 refine FN.mono (sright1_c a b _) ?_
 rintro _ w2 ⟨rfl,hE2⟩
 simp
 exact hE.trans hE2
def foreF (r : Rec) : Bool := decide (0 < r.node) && (spnOk r.fro r.til && decide (r.lev ≤ 3))
theorem fore_fine (r : Rec) : Fines 217 r (foreF r) := by
 intro w
 refine FN_enter Tryz.func217 rfl rfl (by kernel_rfl) ?_
 simp
 have hE1 : Ext w (w.alloc (.cells #[i64 r.kind,u32 r.nn,u32 r.ns,u64 r.nt,u32 r.nq,i64 r.what,i64 r.why,u64 r.at',u64 r.num,u32 r.node,u32 r.reg,.bool r.yes,u64 r.fro,u64 r.til,u8 r.lev] 42)) := (Ext.refl w).alloc _
 have o1 : Blk (w.alloc (.cells #[i64 r.kind,u32 r.nn,u32 r.ns,u64 r.nt,u32 r.nq,i64 r.what,i64 r.why,u64 r.at',u64 r.num,u32 r.node,u32 r.reg,.bool r.yes,u64 r.fro,u64 r.til,u8 r.lev] 42)) w.heap.size (recC r) := Blk.new w (recC r) 42
 generalize (w.alloc (.cells #[i64 r.kind,u32 r.nn,u32 r.ns,u64 r.nt,u32 r.nq,i64 r.what,i64 r.why,u64 r.at',u64 r.num,u32 r.node,u32 r.reg,.bool r.yes,u64 r.fro,u64 r.til,u8 r.lev] 42)) = w1 at *
 by_cases h0 : 0 < r.node
 ·simp [h0,foreF,o1.cell 12 _ rfl,o1.cell 13 _ rfl]
  refine FN.mono (sright_c r.fro r.til w1) ?_
  rintro _ w2 ⟨rfl,hE2⟩
  cases hs : spnOk r.fro r.til with
  | false =>
   simp
   exact hE1.trans hE2
  | true =>
   simp [(o1.ext hE2).cell 14 _ rfl]
   exact ⟨fun _ => h0,hE1.trans hE2⟩
 ·simp [h0,foreF]
  exact hE1
set_option maxHeartbeats 1000000 in
theorem fore_read {r : Rec} (hr : RecOk r) (h1 : r.fro ≤ 4611686018427387903) (h2 : r.til ≤ 4611686018427387903) (h3 : r.lev ≤ 3) : Reads 215 4 (foreC r) { rec0 with kind := r.kind } { rec0 with kind := r.kind, node := r.node, fro := r.fro, til := r.til, lev := r.lev } := by
 intro w b rb v hb hv hn1 hn2 hn3 hR
 refine FN_enter Tryz.func215 rfl rfl (by kernel_rfl) ?_
 simp
 refine FN.mono (node_t hb hv hn1 ⟨_,_,_,rfl⟩ ⟨_,rfl⟩ ⟨_,_,_,rfl⟩ hr.node.1 hr.node.2) ?_
 rintro _ w1 ⟨rfl,v1,b1,s1,e1,M1⟩
 have R1 := hR.mod M1 (by omega)
 simp only [rec0] at R1
 simp [R1.cell 9 _ rfl,R1.thaw]
 have M2 : Mod (fun j => j = rb) w1 (w1.setCell ⟨rb,9,none⟩ (u32 r.node)) := (Mod.refl _ _).setC 9 _
 have R2 := R1.set 9 (u32 r.node)
 simp only [List.set_cons_zero,List.set_cons_succ] at R2
 have b2 := b1.mod M2 (by omega)
 have s2 := s1.mod M2 (by rw [e1]; exact hn2)
 generalize (w1.setCell ⟨rb,9,none⟩ (u32 r.node)) = w2 at *
 refine FN.mono (time_t b2 s2 (by rw [e1]; exact hn1) ⟨_,_,_,rfl⟩ ⟨_,rfl⟩ ⟨_,_,_,rfl⟩ hr.fro.1 h1) ?_
 rintro _ w3 ⟨rfl,v3,b3,s3,e3,M3⟩
 simp
 refine FN.mono (time_t b3 s3 (by rw [e3,e1]; exact hn1) ⟨_,_,_,rfl⟩ ⟨_,rfl⟩ ⟨_,_,_,rfl⟩ hr.til.1 h2) ?_
 rintro _ w4 ⟨rfl,v4,b4,s4,e4,M4⟩
 have R4 := (R2.mod M3 (by omega)).mod M4 (by omega)
 simp [R4.cell 12 _ rfl,R4.cell 13 _ rfl,R4.thaw,cell_setCell]
 have M5 : Mod (fun j => j = rb) w4 ((w4.setCell ⟨rb,12,none⟩ (u64 r.fro)).setCell ⟨rb,13,none⟩ (u64 r.til)) := ((Mod.refl _ _).setC 12 _).setC 13 _
 have R5 := (R4.set 12 (u64 r.fro)).set 13 (u64 r.til)
 simp only [List.set_cons_zero,List.set_cons_succ] at R5
 have b5 := b4.mod M5 (by omega)
 have s5 := s4.mod M5 (by rw [e4,e3,e1]; exact hn2)
 generalize ((w4.setCell ⟨rb,12,none⟩ (u64 r.fro)).setCell ⟨rb,13,none⟩ (u64 r.til)) = w5 at *
 refine FN.mono (upTou8_t (rest := []) b5 (by simpa using s5) (by rw [e4,e3,e1]; exact hn1) ⟨_,_,_,rfl⟩ ⟨_,rfl⟩ ⟨_,_,_,rfl⟩ h3 (wrap8u _ hr.lev.1 hr.lev.2)) ?_
 rintro _ w6 ⟨rfl,v6,b6,s6,e6,M6⟩
 have R6 := R5.mod M6 (by omega)
 simp [R6.cell 14 _ rfl,R6.thaw]
 have M7 : Mod (fun j => j = rb) w6 (w6.setCell ⟨rb,14,none⟩ (u8 r.lev)) := (Mod.refl _ _).setC 14 _
 have R7 := R6.set 14 (u8 r.lev)
 simp only [List.set_cons_zero,List.set_cons_succ] at R7
 refine ⟨v6,b6.mod M7 (by omega),s6.mod M7 (by rw [e6,e4,e3,e1]; exact hn2),R7,?_⟩
 exact ((((((M1.weaken fun j hj => .inl hj).trans (M2.weaken fun j hj => .inr hj)).trans (M3.weaken fun j hj => .inl hj)).trans (M4.weaken fun j hj => .inl hj)).trans (M5.weaken fun j hj => .inr hj)).trans (M6.weaken fun j hj => .inl hj)).trans (M7.weaken fun j hj => .inr hj)
def tellB (r : Rec) : Rec := { rec0 with kind := r.kind,num := r.num,node := r.node,reg := r.reg,yes := r.yes,til := r.til }
def foreB (r : Rec) : Rec := { rec0 with kind := r.kind,node := r.node,fro := r.fro,til := r.til,lev := r.lev }
def tellE (r : Rec) : Int := chk r (decide (0 < min r.node r.reg)) (decide (tellB r = r))
def foreE (r : Rec) : Int := chk r (foreF r) (decide (foreB r = r))
theorem times3 {a b c : Int} (h : timesOk [a, b, c] = true) : a ≤ 4611686018427387903 ∧ b ≤ 4611686018427387903 ∧ c ≤ 4611686018427387903 := by
 simpa [timesOk] using h
theorem check_tell {r : Rec} (hr : RecOk r) (h3 : r.kind = 3) (w : World) : FN Tryz.prog 148 [recV r] w fun e w' => e = .returned (i64 (tellE r)) ∧ Ext w w' := by
 have hk : mget kdL r.kind = some [.string ⟨#[116,101,108,108]⟩,fnV 208,fnV 210,fnV 207] := by rw [h3]; rfl
 refine check_t (fb := decide (0 < min r.node r.reg)) (bb := decide (tellB r = r)) hk (there_c r) (fun hf hn ht w => ?_) w
 have hf' := there_c (tellB r)
 have e : decide (0 < min (tellB r).node (tellB r).reg) = true := hf
 rw [e] at hf'
 exact bare_t hk (by omega) (tell_lay hr) (tell_one r) (by omega) (tell_read hr (by omega) (times3 ht).2.2) hf' w
theorem check_fore {r : Rec} (hr : RecOk r) (h3 : r.kind = 4) (w : World) : FN Tryz.prog 148 [recV r] w fun e w' => e = .returned (i64 (foreE r)) ∧ Ext w w' := by
 have hk : mget kdL r.kind = some [.string ⟨#[102,111,114,101]⟩,fnV 213,fnV 215,fnV 217] := by rw [h3]; rfl
 refine check_t (fb := foreF r) (bb := decide (foreB r = r)) hk (fore_fine r) (fun hf hn ht w => ?_) w
 have hf' := fore_fine (foreB r)
 have e : foreF (foreB r) = true := hf
 rw [e] at hf'
 have hlev : r.lev ≤ 3 := by
  unfold foreF at hf
  simp only [Bool.and_eq_true,decide_eq_true_eq] at hf
  exact hf.2.2
 exact bare_t hk (by omega) (fore_lay hr) (fore_one r) (by omega) (fore_read hr (times3 ht).2.1 (times3 ht).2.2 hlev) hf' w
end Go.Proofs