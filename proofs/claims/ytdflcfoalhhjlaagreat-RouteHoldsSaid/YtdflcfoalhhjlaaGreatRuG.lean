/-
 Contracts of the functions that the law reaches,step by step.
-/
import Derived.Test.YtdflcfoalhhjlaaGreatRuF
import Derived.Test.YtdflcfoalhhjlaaGreatRuA
namespace Go.Proofs
open Pk
set_option maxRecDepth 10000
theorem dbest_best {L : List Ct} {snt : Ct → Int → Option Int} {q : Qu} {x : Wy} {n : Int} (hS : Gr.Sn snt) (h : DBestT L snt (firsts L q) q (Nat.min L.length q.most.toNat) x n) : BestT L snt (firsts L q) q x n := by
 refine ⟨h.bad,fun hb => ?_⟩
 rcases h.ok hb with ⟨t, h1, h2, h3⟩ | ⟨h1, h2, h3⟩
 ·exact .inl ⟨t,h1.more hS (firsts_sub L q),h2,h3⟩
 ·exact .inr ⟨Gr.none_more hS (firsts_sub L q) h1,h2,h3⟩
structure RallT (L : List Ct) (snt : Ct → Int → Option Int) (q : Qu) (til : Int) (l : List Tl) : Prop where
 bad : (badQ q || badE q) = true → l = []
 ok : (badQ q || badE q) = false → WaysOf L snt q til q.no l
structure AI (w w1 : World) (A3 base : Nat) (L : List Ct) (snt : Ct → Int → Option Int) (q : Qu) (til : Int) (W : World) (i : Nat) (pre : List Tl) (no' : List Ct) (nv' vo : Value) : Prop where
 x : Ext w W
 m : Mod (fun k => k = A3) w1 W
 qb : Blk W A3 (quC (qNo q no') nv')
 no : SlB W 5 nv' no'.length (no'.flatMap ctC)
 o : W.ownsRow base 66 8 vo pre.length (pre.flatMap wtC)
 nn : no' ≠ [] → slN vo = false → slB nv' ≠ slB vo
 nq : no' ≠ [] → slB nv' ≠ A3
 eno : no' = q.no ++ pre.map (·.f)
 bad : (badQ q || badE q) = true → pre = []
 ok : (badQ q || badE q) = false → WaysP L snt q til q.no pre
 len : pre.length = i
def AInv (w w1 : World) (A2 A3 base : Nat) (L : List Ct) (snt : Ct → Int → Option Int) (q : Qu) (til : Int) (k : Nat) (ρ : Env) (ds : List Deferred) (W : World) : Prop :=
 ∃ (i : Nat) (pre : List Tl) (no' : List Ct) (nv' vo : Value),AI w w1 A3 base L snt q til W i pre no' nv' vo ∧ (k = L.length + 1 - i ∧ i ≤ L.length) ∧ (ρ 2 = u64 til ∧ ρ 3 = ptr A2 ∧ ρ 4 = ptr A3 ∧ ρ 7 = vo ∧ ρ 8 = i64 i) ∧ ds = []
def RAllE (L : List Ct) (snt : Ct → Int → Option Int) (q : Qu) (til : Int) (w : World) (e : Ending) (w' : World) : Prop :=
 ∃ (vo : Value) (l : List Tl),e = .returned vo ∧ SlB w' 8 vo l.length (l.flatMap wtC) ∧ RallT L snt q til l ∧ (l ≠ [] → w.heap.size ≤ slB vo)
set_option maxHeartbeats 4000000 in
theorem rall_c {w : World} {vp vt vl nv : Value} {L : List Ct} {sl : List St} {ll : List LR} {M : ME} {m : VM} (h : DGr w vp vt vl L sl ll M m) (hg : gdT M) {q : Qu} (hq : QuOk q) (hno : SlB w 5 nv q.no.length (q.no.flatMap ctC)) (hnl : q.no.length ≤ 800) (til : Int) :
  FN Tryz.prog 16 [dgV vp vt vl,quV q nv,u64 til] w fun e w' => RAllE L (gSnt M m q.size) q til w e w' ∧ Ext w w' := by
 refine FN_enter Tryz.func16 rfl rfl (by kernel_rfl) ?_
 obtain ⟨pa,pc,rfl⟩ := h.pl.isSlice
 obtain ⟨ta,tc,rfl⟩ := h.tb.isSlice
 obtain ⟨la,lc,rfl⟩ := h.lg.isSlice
 obtain ⟨na,nc,rfl⟩ := hno.isSlice
 have hSn := gSnt_sn hg m q.size
 obtain ⟨snt,hsnt⟩ : ∃ snt,snt = gSnt M m q.size := ⟨_,rfl⟩
 rw [← hsnt] at hSn ⊢
 have hE : Ext w ((w.alloc (.cells #[(Value.slice pa L.length pc),(Value.slice ta sl.length tc),(Value.slice la ll.length lc)] 43)).alloc (.cells #[u32 q.fr,u32 q.to',u64 q.at_,u64 q.size,i64 q.most,(Value.slice na q.no.length nc)] 29)) := ((Ext.refl w).alloc _).alloc _
 have b2 : Blk ((w.alloc (.cells #[(Value.slice pa L.length pc),(Value.slice ta sl.length tc),(Value.slice la ll.length lc)] 43)).alloc (.cells #[u32 q.fr,u32 q.to',u64 q.at_,u64 q.size,i64 q.most,(Value.slice na q.no.length nc)] 29)) w.heap.size [(Value.slice pa L.length pc),(Value.slice ta sl.length tc),(Value.slice la ll.length lc)] := (Blk.new w [(Value.slice pa L.length pc),(Value.slice ta sl.length tc),(Value.slice la ll.length lc)] 43).ext ((Ext.refl _).alloc _)
 have b3 : Blk ((w.alloc (.cells #[(Value.slice pa L.length pc), (Value.slice ta sl.length tc), (Value.slice la ll.length lc)] 43)).alloc (.cells #[u32 q.fr, u32 q.to', u64 q.at_, u64 q.size, i64 q.most, (Value.slice na q.no.length nc)] 29)) (w.heap.size + 1) (quC q (Value.slice na q.no.length nc)) := by
  have := Blk.new (w.alloc (.cells #[(Value.slice pa L.length pc),(Value.slice ta sl.length tc),(Value.slice la ll.length lc)] 43)) (quC q (Value.slice na q.no.length nc)) 29
  simpa using this
 have hsz : ((w.alloc (.cells #[(Value.slice pa L.length pc),(Value.slice ta sl.length tc),(Value.slice la ll.length lc)] 43)).alloc (.cells #[u32 q.fr,u32 q.to',u64 q.at_,u64 q.size,i64 q.most,(Value.slice na q.no.length nc)] 29)).heap.size = w.heap.size + 1 + 1 := by simp
 simp
 generalize ((w.alloc (.cells #[(Value.slice pa L.length pc),(Value.slice ta sl.length tc),(Value.slice la ll.length lc)] 43)).alloc (.cells #[u32 q.fr,u32 q.to',u64 q.at_,u64 q.size,i64 q.most,(Value.slice na q.no.length nc)] 29)) = w1 at *
 refine WC_loop (fun k ρ ds w' => AInv w w1 w.heap.size (w.heap.size + 1) w1.heap.size L snt q til k ρ ds w') (L.length + 1) ⟨0, [], q.no, (Value.slice na q.no.length nc), .slice none 0 0, ⟨hE, Mod.refl _ _, b3, hno.ext hE, World.ownsRow_nil _ _ _ _, fun _ h => (by simp [slN] at h), fun hn => ?_, by simp, fun _ => rfl, fun _ => .nil _, rfl⟩, ⟨rfl, by omega⟩, by simp, rfl⟩ ?_
 ·have := hno.lt (List.length_pos_iff.2 fun e => hn (by
   cases hq0 : q.no with
   | nil => rfl
   | cons c cs => rw [hq0] at e; simp at e))
  omega
 rintro k ρ ds W ⟨i,pre,no',nv',vo,hI,⟨rfl,hi⟩,⟨e2,e3,e4,e7,e8⟩,rfl⟩
 have zW := hI.x.size
 have hDW := h.ext hI.x
 obtain ⟨na',nc',rfl⟩ := hI.no.isSlice
 obtain ⟨oa,oc,rfl⟩ := own_val hI.o
 have b2W : Blk W w.heap.size [(Value.slice pa L.length pc),(Value.slice ta sl.length tc),(Value.slice la ll.length lc)] := b2.mod hI.m (by omega)
 have hlenP := fun ty W => h.pl.isLen (P := Tryz.prog) (t := 22) (by simp) ty W
 have hnl' : no'.length = q.no.length + pre.length := by rw [hI.eno]; simp
 have hlen := hI.len
 have hbl := h.bl
 have hi' : (i : Int) ≤ (L.length : Int) := by omega
 simp [e3,e4,e8,(b2W).cell 0 _ rfl,(b2W).cell 1 _ rfl,(b2W).cell 2 _ rfl,(hI.qb).cell 0 _ rfl,(hI.qb).cell 1 _ rfl,(hI.qb).cell 2 _ rfl,(hI.qb).cell 3 _ rfl,(hI.qb).cell 4 _ rfl,(hI.qb).cell 5 _ rfl,hlenP,hi']
 refine FN.mono (dbest_c (q := qNo q no') hDW hg hq.no hI.no (by show no'.length ≤ 1000; omega) rfl) ?_
 rintro _ W1 ⟨⟨x,n,rfl,hT0⟩,hE1⟩
 rw [show gSnt M m (qNo q no').size = snt from hsnt.symm] at hT0
 have hT := dbest_best hSn hT0
 have hE2 : Ext W1 (W1.alloc (.cells #[u64 x.a,i64 x.h,u32 x.n,u32 x.f.fr,u32 x.f.to',u64 x.f.sf,u64 x.f.su,u64 x.f.rate] 66)) := (Ext.refl W1).alloc _
 have kx : Blk (W1.alloc (.cells #[u64 x.a,i64 x.h,u32 x.n,u32 x.f.fr,u32 x.f.to',u64 x.f.sf,u64 x.f.su,u64 x.f.rate] 66)) W1.heap.size (wyC x) := Blk.new W1 (wyC x) 66
 simp
 generalize (W1.alloc (.cells #[u64 x.a,i64 x.h,u32 x.n,u32 x.f.fr,u32 x.f.to',u64 x.f.sf,u64 x.f.su,u64 x.f.rate] 66)) = W2 at *
 have hE12 := hE1.trans hE2
 have z12 := hE12.size
 have hXW2 := hI.x.trans hE12
 have done : (n = 0 → til ≤ x.a) → RAllE L snt q til w (.returned (.slice oa pre.length oc)) W2 := fun hn => by
  refine ⟨.slice oa pre.length oc, pre, rfl, ((sl_of_own hI.o).ext hE12).toB, ⟨hI.bad, fun hb => ?_⟩, fun hne => ?_⟩
  ·have h9 := way_none hb hT hn
   rw [hI.eno] at h9
   have := (hI.ok hb).wys h9
   rwa [List.append_nil] at this
  ·have := own_ge hI.o (own_nil hI.o (List.length_pos_iff.2 hne)); omega
 by_cases h0 : n = 0
 case neg =>
  have hn0 : (n != 0) = true := by simp [h0]
  simp [hn0,e7]
  exact ⟨done fun h => (h0 h).elim,hXW2⟩
 subst h0
 by_cases ha : til ≤ x.a
 ·simp [e2,e7,(kx).cell 0 _ rfl,ha]
  exact ⟨done fun _ => ha,hXW2⟩
 have hbq : (badQ q || badE q) = false := by
  cases hb : badQ q || badE q with
  | false => rfl
  | true => have := (hT.bad hb).2; cases this
 obtain ⟨t',rfl,hbest⟩ := way_best hbq hT
 have hp' : WaysP L snt q til q.no (pre ++ [t']) := by
  rw [hI.eno] at hbest
  exact (hI.ok hbq).snoc hbest (by simpa [tlWy] using ha)
 have hplen := hp'.len
 rw [List.length_append,List.length_singleton] at hplen
 simp [e2,e7,(kx).cell 0 _ rfl,(kx).cell 1 _ rfl,(kx).cell 2 _ rfl,(kx).cell 3 _ rfl,(kx).cell 4 _ rfl,(kx).cell 5 _ rfl,(kx).cell 6 _ rfl,(kx).cell 7 _ rfl,ha]
 have hE3 : Ext W2 (W2.alloc (.cells #[u64 (tlWy t').a,i64 (tlWy t').h,u32 (tlWy t').n,u32 (tlWy t').f.fr,u32 (tlWy t').f.to',u64 (tlWy t').f.sf,u64 (tlWy t').f.su,u64 (tlWy t').f.rate] 66)) := (Ext.refl W2).alloc _
 have hone : Sl (W2.alloc (.cells #[u64 (tlWy t').a,i64 (tlWy t').h,u32 (tlWy t').n,u32 (tlWy t').f.fr,u32 (tlWy t').f.to',u64 (tlWy t').f.sf,u64 (tlWy t').f.su,u64 (tlWy t').f.rate] 66)) 8 (.slice (some ⟨W2.heap.size,0,none⟩) 1 1) 1 (wtC t') := Sl.made W2 (wtC t') 66 8 1 rfl
 generalize (W2.alloc (.cells #[u64 (tlWy t').a,i64 (tlWy t').h,u32 (tlWy t').n,u32 (tlWy t').f.fr,u32 (tlWy t').f.to',u64 (tlWy t').f.sf,u64 (tlWy t').f.su,u64 (tlWy t').f.rate] 66)) = W3 at *
 have z3 := hE3.size
 have hE13 := hE12.trans hE3
 have b0 := own_ext hI.o hE13
 obtain ⟨v',W4,hr4,ho4,hM4,hn4⟩ := append_own (P := Tryz.prog) (t := 48) (ty := 48) (e := 66) (s := 8) (by simp) (by simp) (by kernel_rfl) b0 hone (fun u hu => wt_one [t'] u (by simpa using hu)) (by omega) (by have := hI.m.size; omega)
 have hq4 := (hI.qb.ext hE13).mod hM4 (fun ⟨h1,h2⟩ => by have := own_ge hI.o h1; omega)
 have hno4 := (hI.no.ext hE13).mod hM4 (fun hn ⟨h1,h2⟩ => hI.nn (fun e => hn (by rw [e]; rfl)) h1 h2)
 have kx4 := (kx.ext hE3).mod hM4 (fun ⟨h1,h2⟩ => by have := own_lt hI.o h1; have := hE1.size; omega)
 have hX4 : Ext w W4 := ((hXW2.trans hE3).mod (S := fun k => w.heap.size ≤ k)).trans (hM4.weaken fun k ⟨h1,h2⟩ => by have := own_ge hI.o h1; omega) |>.ext fun _ h => h
 have hm4 : Mod (fun k => k = w.heap.size + 1) w1 W4 := ⟨hM4.os.trans (hE13.os.trans hI.m.os),hM4.tape.trans (hE13.tape.trans hI.m.tape),hM4.out.trans (hE13.out.trans hI.m.out),Nat.le_trans hI.m.size (Nat.le_trans hE13.size hM4.size),fun b hb hs => (hM4.blk b (by have := hI.m.size; have := hE13.size; omega) (fun ⟨h1,h2⟩ => by have := own_ge hI.o h1; omega)).trans ((hE13.blk b (by have := hI.m.size; omega)).trans (hI.m.blk b hb hs))⟩
 obtain ⟨oa',oc',rfl⟩ := own_val ho4
 simp [hr4]
 have z4 := hM4.size
 refine WC_drawL 7 (.F 1 <| .F 2 <| .F 4 <| .F 5 <| .D 0 <| .D 6 <| .W 0 <| .L 3 <| .W 6 <| .Z) (fun _ => false) (fun _ => false)
  (fun i u W => if i = 0 then (∃ b,u = .slice (some ⟨b,0,none⟩) 0 0) ∧ W.ownsRow W4.heap.size 64 5 u 0 [] else Sl W 5 u 1 (ctC t'.f)) rfl (by kernel_rfl) (fun _ h => h)
  (fun i u a b h1 h2 => ?_) fun W5 hW5 => ?_
 ·by_cases hi : i = 0
  ·rw [if_pos hi] at h1 ⊢
   exact ⟨h1.1,own_ext h1.2 (agr_ext h2)⟩
  ·rw [if_neg hi] at h1 ⊢
   exact h1.ext (agr_ext h2)
 have hE5 : Ext W4 W5 := hW5 ▸ Ext.drew W4
 have q5 := hq4.ext hE5
 have kx5 := kx4.ext hE5
 simp [e4,(q5).cell 5 _ rfl,(kx5).cell 3 _ rfl,(kx5).cell 4 _ rfl,(kx5).cell 5 _ rfl,(kx5).cell 6 _ rfl,(kx5).cell 7 _ rfl]
 refine RL_float (fun W2 h1 => ?_) ?_
 ·simp
  have hs := (hE5.trans (agr_ext h1)).size
  exact ⟨(Ext.refl _).alloc _,own_empty W2 _ (by omega)⟩
 simp
 refine RL_float (fun W2 h1 => ?_) ?_
 ·simp
  exact ⟨(Ext.refl _).alloc _,Sl.made W2 (ctC t'.f) 64 5 1 rfl⟩
 simp
 refine RL_wait fun v0 W6 h6 ⟨⟨b0,hb0⟩,ho0⟩ => ?_
 subst hb0
 simp
 refine RL_loose fun W7 h7 => ?_
 have hX7 := hE5.trans (h6.trans h7)
 obtain ⟨v1,W8,hr8,ho8,hE8⟩ := append_newB (P := Tryz.prog) (t := 22) (ty := 22) (e := 64) (s := 5) (by simp) (by simp) (by kernel_rfl) (own_ext ho0 h7) (hno4.ext hX7) (cts_one _) (by omega) hX7.size
 simp [hr8]
 refine KR_ext hE8 ?_
 simp
 refine RL_wait fun v5 W9 h9 hs9 => ?_
 have hX9 := hX7.trans (hE8.trans h9)
 obtain ⟨v2,W10,hr10,ho10,hM10,hn10⟩ := append_own (P := Tryz.prog) (t := 22) (ty := 22) (e := 64) (s := 5) (by simp) (by simp) (by kernel_rfl) (own_ext ho8 h9) hs9 (cts_one [t'.f]) (by simp; omega) hX9.size
 obtain ⟨a2,c2,rfl⟩ := own_val ho10
 have q10 := (hq4.ext hX9).mod hM10 (fun ⟨h1,h2⟩ => by have := own_ge ho8 h1; have := hq4.lt; omega)
 have ho10' := (own_ext (own_ext ho4 hX9) (Ext.refl _))
 have o10 := own_keep (w' := W10) ho10' fun hn hl => hM10.blk _ hl fun ⟨h1,h2⟩ => by have := own_ge ho8 h1; have := own_lt ho4 hn; omega
 have hX10 : Ext w W10 := ((hX4.trans hX9).mod (S := fun k => w.heap.size ≤ k)).trans (hM10.weaken fun k ⟨h1,h2⟩ => by have := own_ge ho8 h1; omega) |>.ext fun _ h => h
 have hm10 : Mod (fun k => k = w.heap.size + 1) w1 W10 := ⟨hM10.os.trans (hX9.os.trans hm4.os),hM10.tape.trans (hX9.tape.trans hm4.tape),hM10.out.trans (hX9.out.trans hm4.out),Nat.le_trans hm4.size (Nat.le_trans hX9.size hM10.size),fun b hb hs => (hM10.blk b (by have := hm4.size; have := hX9.size; omega) (fun ⟨h1,h2⟩ => by have := own_ge ho8 h1; have := hm4.size; omega)).trans ((hX9.blk b (by have := hm4.size; omega)).trans (hm4.blk b hb hs))⟩
 have hn2 := own_nil ho10 (by omega)
 have hge2 := own_ge ho10 hn2
 have hMs := Mod.setCell (S := fun k => k = w.heap.size + 1) (Mod.refl _ W10) ⟨w.heap.size + 1,5,none⟩ (.slice a2 (no'.length + 1) c2) (.inl rfl)
 have q11 := q10.set 5 (.slice a2 (no'.length + 1) c2)
 have o11 := own_keep (w' := W10.setCell ⟨w.heap.size + 1,5,none⟩ (.slice a2 (no'.length + 1) c2)) o10 fun hn hl => hMs.blk _ hl fun e => by have := own_ge ho4 hn; have := hI.m.size; omega
 have hwrap : IntKind.i64.wrap ((i : Int) + 1) = ((i + 1 : Nat) : Int) := by rw [wrap64 _ (by omega) (by omega)]; rfl
 simp [hr10,e4,e8,(q10).cell 5 _ rfl,q10.thaw,hwrap]
 have hq4l := hq4.lt
 refine ⟨L.length + 1 - (i + 1), by omega, i + 1, pre ++ [t'], no' ++ [t'.f], .slice a2 (no'.length + 1) c2, .slice oa' (pre.length + 1) oc', ⟨hX10.setCell _ _ (by simp only; omega), hm10.trans hMs, q11, ?_, ?_, fun _ hn => ?_, fun _ => ?_, by rw [hI.eno]; simp, fun hb => (by rw [hbq] at hb; cases hb), fun _ => hp', by simp [hlen]⟩, ⟨rfl, by omega⟩, ?_, rfl⟩
 ·have := ((sl_of_own ho10).mod hMs (fun e => by omega)).toB
  simpa [List.flatMap_append] using this
 ·simpa [List.flatMap_append] using o11
 ·have := own_lt ho4 hn
  intro e
  omega
 ·omega
 ·simp [e2,e3,e4]
end Go.Proofs
namespace Go.Proofs
open Pk
set_option maxRecDepth 10000
theorem fWay : flatA Tryz.prog 66 = some [.int .u64,.int .i64,.int .u32,.int .u32,.int .u32,.int .u64,.int .u64,.int .u64] := by kernel_rfl
theorem way_eq (a b : Wy) : eqcs (wyC a) (wyC b) = decide (a = b) := by
 obtain ⟨a1,a2,a3,a4,a5,a6,a7,a8⟩ := a
 obtain ⟨b1,b2,b3,b4,b5,b6,b7,b8⟩ := b
 rw [Bool.eq_iff_iff]
 simp [eqcs,eqc]
theorem eqWy (a b : Wy) (w : World) : (binOp .eql 66 (wyV a) (wyV b)).run Tryz.prog w = .ok (.bool (decide (a = b))) w := by
 rw [← way_eq]
 exact run_eql_flat w fWay _ _ rfl rfl
theorem neqWy (a b : Wy) (w : World) : (binOp .neq 66 (wyV a) (wyV b)).run Tryz.prog w = .ok (.bool !(decide (a = b))) w := by
 rw [← way_eq]
 exact run_neq_flat w fWay _ _ rfl rfl
structure C8 (w : World) (b o : Nat) (x : Wy) : Prop where
 c0 : w.cell? ⟨b,o,none⟩ = some (u64 x.a)
 c1 : w.cell? ⟨b,o + 1,none⟩ = some (i64 x.h)
 c2 : w.cell? ⟨b,o + 2,none⟩ = some (u32 x.n)
 c3 : w.cell? ⟨b,o + 3,none⟩ = some (u32 x.f.fr)
 c4 : w.cell? ⟨b,o + 4,none⟩ = some (u32 x.f.to')
 c5 : w.cell? ⟨b,o + 5,none⟩ = some (u64 x.f.sf)
 c6 : w.cell? ⟨b,o + 6,none⟩ = some (u64 x.f.su)
 c7 : w.cell? ⟨b,o + 7,none⟩ = some (u64 x.f.rate)
theorem wyRow {w : World} {v : Value} {l : List Wy} (h : Sl w 8 v l.length (l.flatMap wyC)) {i : Nat} (hi : i < l.length) : C8 w (slB v) (slO v + i * 8) l[i] := by
 have hx : l[i]? = some l[i] := by simp [hi]
 have f := fun j hj => flat_at wyC (s := 8) (fun _ => rfl) l i j _ hx hj
 have a := fun j u hj => h.at_ (i * 8 + j) u hj
 refine ⟨a 0 _ (f 0 (by omega)), ?_, ?_, ?_, ?_, ?_, ?_, ?_⟩
 ·have := a 1 _ (f 1 (by omega)); rwa [← Nat.add_assoc] at this
 ·have := a 2 _ (f 2 (by omega)); rwa [← Nat.add_assoc] at this
 ·have := a 3 _ (f 3 (by omega)); rwa [← Nat.add_assoc] at this
 ·have := a 4 _ (f 4 (by omega)); rwa [← Nat.add_assoc] at this
 ·have := a 5 _ (f 5 (by omega)); rwa [← Nat.add_assoc] at this
 ·have := a 6 _ (f 6 (by omega)); rwa [← Nat.add_assoc] at this
 ·have := a 7 _ (f 7 (by omega)); rwa [← Nat.add_assoc] at this
theorem wyIndex {w : World} {v : Value} {l : List Wy} (h : Sl w 8 v l.length (l.flatMap wyC)) (i : Nat) (hi : i < l.length) (W : World) : (Instr.indexAt 48 v (.int .i64 (i : Int))).run Tryz.prog W = .ok (.pointer (some ⟨slB v, slO v + i * 8, none⟩)) W := by
 have := Sl.index (P := Tryz.prog) (t := 48) h (by simp) .i64 i (by omega) (by omega) W
 simpa using this
theorem same_go {a b : List Wy} (hl : a.length = b.length) {i : Nat} (hi : i ≤ a.length) (h : ∀ j (h1 : j < a.length) (h2 : j < b.length), j < i → a[j] = b[j]) (he : i = a.length) : a = b :=
 List.ext_getElem hl fun j h1 h2 => h j h1 h2 (by omega)
theorem same_c {w : World} {v1 v2 : Value} {a b : List Wy} (h1 : SlB w 8 v1 a.length (a.flatMap wyC)) (h2 : SlB w 8 v2 b.length (b.flatMap wyC)) (hl : a.length ≤ 1000) : FN Tryz.prog 13 [v1, v2] w fun e w' => e = .returned (.bool (decide (a = b))) ∧ Ext w w' := by
 refine FN_enter Tryz.func13 rfl rfl (by kernel_rfl) ?_
 have len1 := fun ty W => h1.isLen (P := Tryz.prog) (t := 48) (by simp) ty W
 have len2 := fun ty W => h2.isLen (P := Tryz.prog) (t := 48) (by simp) ty W
 by_cases hne : a.length = b.length
 case neg =>
  have hne' : ¬ (a.length : Int) = (b.length : Int) := by omega
  have hd : ¬ a = b := fun e => hne (by rw [e])
  have hb : ((a.length : Int) != (b.length : Int)) = true := by simp [hne']
  simp [len1,len2,hb,hd]
  exact Ext.refl w
 simp [len1,len2,hne]
 refine WC_loop (fun k ρ ds w' => ∃ i : Nat,(k = a.length - i ∧ i ≤ a.length) ∧ (ρ 0 = v1 ∧ ρ 1 = v2 ∧ ρ 5 = i64 i) ∧ ds = [] ∧ Ext w w' ∧ ∀ j (h1 : j < a.length) (h2 : j < b.length),j < i → a[j] = b[j]) a.length ⟨0,⟨by simp,by simp⟩,by simp,rfl,Ext.refl w,fun j _ _ h => by omega⟩ ?_
 rintro k ρ ds W ⟨i,⟨rfl,hi⟩,⟨e0,e1,e5⟩,rfl,hX,hno⟩
 by_cases hlt : i < a.length
 ·have hlt2 : i < b.length := by omega
  simp [e0,e5,len1,hlt]
  refine WC_drawC 8 (.F 0 <| .F 1 <| .F 2 <| .F 3 <| .F 4 <| .F 5 <| .F 6 <| .F 7 <| .Z) (fun _ => false) rfl (by kernel_rfl) fun W2 hW2 => ?_
  have hE2 : Ext W W2 := hW2 ▸ Ext.drew _
  have s1 := (h1.ext (hX.trans hE2)).toSl (by omega)
  have s2 := (h2.ext (hX.trans hE2)).toSl (by omega)
  have r1 := wyRow s1 hlt
  have r2 := wyRow s2 hlt2
  have x1 := wyIndex s1 i hlt W2
  have x2 := wyIndex s2 i hlt2 W2
  have hq := neqWy a[i] b[i] W2
  have hwrap : IntKind.i64.wrap ((i : Int) + 1) = ((i + 1 : Nat) : Int) := by rw [wrap64 _ (by omega) (by omega)]; rfl
  simp [e0,e1,e5,x1,x2,r1.c0,r1.c1,r1.c2,r1.c3,r1.c4,r1.c5,r1.c6,r1.c7,r2.c0,r2.c1,r2.c2,r2.c3,r2.c4,r2.c5,r2.c6,r2.c7,hq]
  by_cases he : a[i] = b[i]
  ·simp [he,e5,hwrap]
   refine ⟨a.length - (i + 1),by omega,i + 1,⟨rfl,by omega⟩,by simp [e0,e1],hX.trans hE2,fun j h1 h2 hj => ?_⟩
   rcases Nat.lt_succ_iff_lt_or_eq.1 hj with h | rfl
   ·exact hno j h1 h2 h
   ·exact he
  ·have hd : ¬ a = b := fun e => he (by subst e; rfl)
   simp [he,hd]
   exact hX.trans hE2
 ·have : i = a.length := by omega
  subst this
  have hd : a = b := same_go hne (Nat.le_refl _) hno rfl
  simp [e0,e5,len1,hd]
  exact hX
theorem rdways_c {w : World} {vp vt vl nv : Value} {L : List Ct} {sl : List St} {ll : List LR} {M : ME} {m : VM} (h : DGr w vp vt vl L sl ll M m) (hg : gdT M) {q : Qu} (hq : QuOk q) (hno : SlB w 5 nv q.no.length (q.no.flatMap ctC)) (hnl : q.no.length ≤ 800) (til many : Int) :
  FN Tryz.prog 12 [dgV vp vt vl,quV q nv,u64 til,i64 many] w fun e w' => WaysE L (gSnt M m q.size) q til many w e w' ∧ Ext w w' := by
 refine FN_enter Tryz.func12 rfl rfl (by kernel_rfl) ?_
 obtain ⟨pa,pc,rfl⟩ := h.pl.isSlice
 obtain ⟨ta,tc,rfl⟩ := h.tb.isSlice
 obtain ⟨la,lc,rfl⟩ := h.lg.isSlice
 obtain ⟨na,nc,rfl⟩ := hno.isSlice
 obtain ⟨snt,hsnt⟩ : ∃ snt,snt = gSnt M m q.size := ⟨_,rfl⟩
 rw [← hsnt]
 have hE : Ext w ((w.alloc (.cells #[(Value.slice pa L.length pc),(Value.slice ta sl.length tc),(Value.slice la ll.length lc)] 43)).alloc (.cells #[u32 q.fr,u32 q.to',u64 q.at_,u64 q.size,i64 q.most,(Value.slice na q.no.length nc)] 29)) := ((Ext.refl w).alloc _).alloc _
 have b2 : Blk ((w.alloc (.cells #[(Value.slice pa L.length pc),(Value.slice ta sl.length tc),(Value.slice la ll.length lc)] 43)).alloc (.cells #[u32 q.fr,u32 q.to',u64 q.at_,u64 q.size,i64 q.most,(Value.slice na q.no.length nc)] 29)) w.heap.size [(Value.slice pa L.length pc),(Value.slice ta sl.length tc),(Value.slice la ll.length lc)] := (Blk.new w [(Value.slice pa L.length pc),(Value.slice ta sl.length tc),(Value.slice la ll.length lc)] 43).ext ((Ext.refl _).alloc _)
 have b3 : Blk ((w.alloc (.cells #[(Value.slice pa L.length pc), (Value.slice ta sl.length tc), (Value.slice la ll.length lc)] 43)).alloc (.cells #[u32 q.fr, u32 q.to', u64 q.at_, u64 q.size, i64 q.most, (Value.slice na q.no.length nc)] 29)) (w.heap.size + 1) (quC q (Value.slice na q.no.length nc)) := by
  have := Blk.new (w.alloc (.cells #[(Value.slice pa L.length pc),(Value.slice ta sl.length tc),(Value.slice la ll.length lc)] 43)) (quC q (Value.slice na q.no.length nc)) 29
  simpa using this
 simp
 generalize ((w.alloc (.cells #[(Value.slice pa L.length pc),(Value.slice ta sl.length tc),(Value.slice la ll.length lc)] 43)).alloc (.cells #[u32 q.fr,u32 q.to',u64 q.at_,u64 q.size,i64 q.most,(Value.slice na q.no.length nc)] 29)) = w1 at *
 refine FN.mono (dright_c q hq (Value.slice na q.no.length nc) ⟨_,_,_,rfl⟩ w1) ?_
 rintro _ w2 ⟨rfl,hE2⟩
 have hX2 := hE.trans hE2
 have badE' : ∀ (W : World), badM q til many = true → WaysE L snt q til many w (.returned (.tuple #[.slice none 0 0, i64 2])) W := fun W hb =>
  ⟨.slice none 0 0,[],2,rfl,SlB.nil _ _ _,⟨fun _ => ⟨rfl,rfl⟩,fun h => by rw [hb] at h; cases h⟩,fun h => (h rfl).elim⟩
 cases hbad : badQ q || badE q with
 | true =>
  simp
  exact ⟨badE' _ (by unfold badM badW; simp [hbad]),hX2⟩
 | false =>
  by_cases htil : 4611686018427387903 < til
  ·simp [htil]
   exact ⟨badE' _ (by unfold badM badW; simp; omega),hX2⟩
  by_cases hm1 : many < 1
  ·simp [htil,hm1]
   exact ⟨badE' _ (by unfold badM; simp [hm1]),hX2⟩
  by_cases hm2 : 32 < many
  ·simp [htil,hm1,hm2]
   exact ⟨badE' _ (by unfold badM; simp [hm2]),hX2⟩
  have hbM : badM q til many = false := by unfold badM badW; rw [hbad]; simp; omega
  simp [htil,hm1,hm2,(b2.ext hE2).cell 0 _ rfl,(b2.ext hE2).cell 1 _ rfl,(b2.ext hE2).cell 2 _ rfl,(b3.ext hE2).cell 0 _ rfl,(b3.ext hE2).cell 1 _ rfl,(b3.ext hE2).cell 2 _ rfl,(b3.ext hE2).cell 3 _ rfl,(b3.ext hE2).cell 4 _ rfl,(b3.ext hE2).cell 5 _ rfl]
  refine FN.mono (rall_c (h.ext hX2) hg hq (hno.ext hX2) hnl til) ?_
  rintro _ w3 ⟨⟨vo,l,rfl,hS,hA,hge⟩,hE3⟩
  rw [← hsnt] at hA
  have hX3 := hX2.trans hE3
  have hAl := hA.ok hbad
  have z2 := hX2.size
  have lenO := fun ty W => hS.isLen (P := Tryz.prog) (t := 48) (by simp) ty W
  obtain ⟨oa,oc,hvo⟩ := hS.isSlice
  by_cases hl0 : l = []
  ·subst hl0
   simp [lenO]
   exact ⟨⟨.slice none 0 0,[],310,rfl,SlB.nil _ _ _,⟨fun h => (by rw [hbM] at h; cases h),fun _ => ⟨hAl.wyp,by simp; omega,fun _ => hAl,rfl⟩⟩,fun h => (h rfl).elim⟩,hX3⟩
  ·have hlp := List.length_pos_iff.2 hl0
   have hne : ¬ (l.length : Int) = 0 := by omega
   have hSl := hS.toSl hlp
   obtain ⟨k,hk⟩ : ∃ k : Nat,(k : Int) = min many (l.length : Int) := ⟨(min many (l.length : Int)).toNat,by omega⟩
   have sH := fun W => hSl.sliceH (P := Tryz.prog) (t := 48) (by simp) .i64 (k : Int) (by omega) (by omega) W
   have hT := hSl.takeH k (by omega)
   rw [← flat_take wtC (s := 8) (fun _ => rfl)] at hT
   simp at sH
   simp [lenO,hl0,beq_dec,← hk,sH]
   have hkl : (l.take k).length = k := by rw [List.length_take]; omega
   have hk0 : ¬ l.take k = [] := fun e => by rw [e] at hkl; simp at hkl; omega
   refine ⟨⟨slcH vo k, l.take k, 0, rfl, ?_, ⟨fun h => (by rw [hbM] at h; cases h), fun _ => ⟨hAl.wyp.take k, by rw [hkl]; omega, fun h => ?_, by rw [if_neg hk0]⟩⟩, fun _ => ?_⟩, hX3⟩
   ·rw [hkl]
    exact hT.toB
   ·rw [hkl] at h
    rw [List.take_of_length_le (by omega)]
    exact hAl
   ·have := hge hl0
    have e : slB (slcH vo k) = slB vo := by rw [hvo]; rcases oa with _ | ⟨b,o,sp⟩ <;> rfl
    omega
theorem wt_map (l : List Tl) : l.flatMap wtC = (l.map tlWy).flatMap wyC := by rw [List.flatMap_map]
end Go.Proofs