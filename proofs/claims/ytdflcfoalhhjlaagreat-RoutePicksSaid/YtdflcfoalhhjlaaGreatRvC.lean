/-
 Contracts of the functions that the law reaches,step by step.
-/
import Derived.Test.YtdflcfoalhhjlaaGreatRvA
namespace Go.Proofs
open Pk St
set_option maxRecDepth 10000
def tagF (l : List Wy) : Nat → Wy × Nat := fun i => (l.getD i wyZ,i)
theorem lst_tag (l : List Wy) : lst (tagF l) l.length = l := by
 unfold lst tagF
 apply List.ext_getElem
 ·simp
 ·intro i h1 h2
  simp at h1
  simp [h1]
theorem wy_one (l : List Wy) : ∀ u ∈ l.flatMap wyC, u.oneCell' = true := by
 intro u hu
 obtain ⟨x,-,hx⟩ := List.mem_flatMap.1 hu
 simp [wyC] at hx
 rcases hx with rfl | rfl | rfl | rfl | rfl | rfl | rfl | rfl <;> rfl
theorem wclone_c {w : World} {v : Value} {l : List Wy} (h : Sl w 8 v l.length (l.flatMap wyC)) (hb : l.length ≤ 1000) : FN Tryz.prog 60 [v] w fun e w' => ∃ v', e = .returned v' ∧ w'.ownsRow w.heap.size 66 8 v' l.length (l.flatMap wyC) ∧ Ext w w' := by
 refine FN_enter Tryz.func60 rfl rfl (by kernel_rfl) ?_
 have hnl := h.isNil (P := Tryz.prog) (t := 48) (by simp) w
 cases hn : slN v with
 | true =>
  rw [hn] at hnl
  simp [hnl]
  have h0 : l = [] := by
   rcases h.val with ⟨c, rfl, h1⟩ | ⟨b, o, c, rfl, -⟩
   ·exact List.eq_nil_of_length_eq_zero h1
   ·simp [slN] at hn
  subst h0
  exact ⟨World.ownsRow_nil _ _ _ _,Ext.refl w⟩
 | false =>
  rw [hn] at hnl
  simp [hnl]
  have hE1 : Ext w (w.alloc (.cells #[] 66)) := (Ext.refl w).alloc _
  have ho := own_empty (e := 66) (s := 8) w w.heap.size (Nat.le_refl _)
  generalize (w.alloc (.cells #[] 66)) = w1 at *
  obtain ⟨v',w2,hr,ho2,hE2⟩ := append_newB (P := Tryz.prog) (t := 48) (ty := 48) (e := 66) (s := 8) (by simp) (by simp) (by kernel_rfl) ho (h.ext hE1).toB (wy_one l) (by omega) hE1.size
  simp [hr]
  exact ⟨ho2,hE1.trans hE2⟩
theorem insert0_c (w : World) (v : Value) : FN Tryz.prog 134 [v, i64 0, i64 0, (Value.func (.func 62) #[] #[])] w fun e w' => (∃ u, e = .returned u) ∧ w' = w := by
 refine FN_enter Tryz.func134 rfl rfl (by kernel_rfl) ?_
 have w1 : IntKind.i64.wrap 1 = 1 := by decide
 simp [w1]
 refine WC_loop (fun k ρ ds W => k = 0 ∧ (ρ 2 = i64 0 ∧ ρ 8 = i64 1) ∧ ds = [] ∧ W = w) 0 ⟨rfl,by simp,rfl,rfl⟩ ?_
 rintro k ρ ds W ⟨rfl,⟨e2,e8⟩,rfl,rfl⟩
 simp [e2,e8]
theorem stable0_c (w : World) (v : Value) : FN Tryz.prog 110 [v, i64 0, (Value.func (.func 62) #[] #[])] w fun e w' => (∃ u, e = .returned u) ∧ w' = w := by
 refine FN_enter Tryz.func110 rfl rfl (by kernel_rfl) ?_
 simp
 refine WC_loop (fun k ρ ds W => k = 0 ∧ (ρ 0 = v ∧ ρ 1 = i64 0 ∧ ρ 2 = (Value.func (.func 62) #[] #[]) ∧ ρ 6 = i64 20 ∧ ρ 7 = i64 0 ∧ ρ 8 = i64 20) ∧ ds = [] ∧ W = w) 0 ⟨rfl,by simp,rfl,rfl⟩ ?_
 rintro k ρ ds W ⟨rfl,⟨e0,e1,e2,e6,e7,e8⟩,rfl,rfl⟩
 simp [e0,e1,e2,e7,e8]
 refine FN.mono (insert0_c W v) ?_
 rintro _ W2 ⟨⟨u,rfl⟩,rfl⟩
 simp
 refine WC_loop (fun k ρ ds W' => k = 0 ∧ (ρ 1 = i64 0 ∧ ρ 6 = i64 20) ∧ ds = [] ∧ W' = W2) 0 ⟨rfl,by simp [e1,e6],rfl,rfl⟩ ?_
 rintro k ρ ds W ⟨rfl,⟨f1,f6⟩,rfl,rfl⟩
 simp [f1,f6]
def SortedE (l : List Wy) (w : World) (e : Ending) (w' : World) : Prop := ∃ (v : Value) (G : Nat → Wy × Nat),e = .returned v ∧ SlB w' 8 v (lst G l.length).length ((lst G l.length).flatMap wyC) ∧ Sd wyLt G 0 l.length ∧ PM G (tagF l) l.length
theorem rsorted_c {w : World} {v : Value} {l : List Wy} (h : Sl w 8 v l.length (l.flatMap wyC)) (hb : l.length ≤ 30) : FN Tryz.prog 26 [v] w fun e w' => SortedE l w e w' ∧ Ext w w' := by
 refine FN_enter Tryz.func26 rfl rfl (by kernel_rfl) ?_
 simp
 refine FN.mono (wclone_c h (by omega)) ?_
 rintro _ w1 ⟨v1,rfl,ho,hE1⟩
 obtain ⟨a1,c1,rfl⟩ := own_val ho
 simp
 by_cases h0 : l = []
 ·subst h0
  have h00 : FN Tryz.prog 61 [.slice a1 0 c1, (Value.func (.func 62) #[] #[])] w1 fun e w' => (∃ u, e = .returned u) ∧ w' = w1 := by
   refine FN_enter Tryz.func61 rfl rfl (by kernel_rfl) ?_
   simp
   refine FN.mono (stable0_c w1 _) ?_
   rintro _ w2 ⟨⟨u,rfl⟩,rfl⟩
   simp
  refine FN.mono (h00) ?_
  rintro _ w2 ⟨⟨u,rfl⟩,rfl⟩
  simp
  exact ⟨⟨_,tagF [],rfl,(sl_of_own ho).toB,fun i j h1 h2 h3 => by simp at h3,PM.refl _ _⟩,hE1⟩
 ·have hR : RF w1 w.heap.size (.slice a1 l.length c1) l.length (tagF l) := by unfold RF; rw [lst_tag]; exact ho
  have hnil := own_nil ho (List.length_pos_iff.2 h0)
  have hge := own_ge ho hnil
  refine FN.mono (stableF_c hR hb (fun p q h1 h2 => h1)) ?_
  rintro _ w2 ⟨⟨u,rfl⟩,G,hR2,hS,hP,hM⟩
  simp
  exact ⟨⟨_,G,rfl,hR2.sl.toB,hS,hP⟩,((hE1.mod (S := fun k => w.heap.size ≤ k)).trans (hM.weaken fun k hk => by omega)).ext fun _ h => h⟩
end Go.Proofs
namespace Go.Proofs
open Pk St
set_option maxRecDepth 10000
def shf (G : Nat → Wy × Nat) (i k : Nat) : Nat → Wy × Nat := fun x => if k < x ∧ x ≤ i then G (x - 1) else G x
theorem shf_0 (G : Nat → Wy × Nat) (i : Nat) : shf G i i = G := by
 funext x
 unfold shf
 rw [if_neg (by omega)]
theorem shf_lo (G : Nat → Wy × Nat) {i k x : Nat} (h : x ≤ k) : shf G i k x = G x := by
 unfold shf
 rw [if_neg (by omega)]
theorem shf_step (G : Nat → Wy × Nat) {i k : Nat} (h0 : 0 < k) (hk : k ≤ i) : up (shf G i k) k (G (k - 1)) = shf G i (k - 1) := by
 funext x
 unfold up shf
 by_cases h1 : x = k
 ·rw [if_pos h1,if_pos (by omega),h1]
 ·rw [if_neg h1]
  by_cases h2 : k < x ∧ x ≤ i
  ·rw [if_pos h2,if_pos (by omega)]
  ·rw [if_neg h2,if_neg (by omega)]
theorem shf_end (G : Nat → Wy × Nat) {i k : Nat} : up (shf G i k) k (G i) = mv2 G i k := by
 funext x
 unfold up shf mv2
 by_cases h1 : x = k
 ·rw [if_pos h1,if_neg (by omega),if_pos h1]
 ·rw [if_neg h1]
  by_cases h2 : k < x ∧ x ≤ i
  ·rw [if_pos h2,if_pos h2]
  ·rw [if_neg h2,if_neg h2,if_neg h1]
theorem pm_mv2 (F : Nat → Wy × Nat) {m N : Nat} (hm : m < N) : ∀ (d k : Nat), k + d = m → PM (mv2 F m k) F N := by
 intro d
 induction d with
 | zero => intro k hk; obtain rfl : k = m := by omega
           rw [mv2_0]; exact PM.refl _ _
 | succ d ih =>
  intro k hk
  have := mv2_step F (m := m) (k := k + 1) (by omega) (by omega)
  rw [Nat.add_sub_cancel] at this
  rw [← this]
  exact (ih (k + 1) (by omega)).sw (by omega) (by omega)
theorem lst_snoc (G : Nat → Wy × Nat) (i : Nat) (x : Wy × Nat) : lst (up G i x) (i + 1) = lst G i ++ [x.1] := by
 unfold lst
 rw [List.range_succ,List.map_append]
 congr 1
 ·refine List.map_congr_left fun y hy => ?_
  have := List.mem_range.1 hy
  unfold up
  rw [if_neg (by omega)]
 ·simp [up]
theorem pm_snoc {G F : Nat → Wy × Nat} {i : Nat} (h : PM G F i) : PM (up G i (F i)) F (i + 1) := by
 unfold PM at *
 rw [List.range_succ,List.map_append,List.map_append]
 refine List.Perm.append ?_ (by simp [up])
 have : (List.range i).map (up G i (F i)) = (List.range i).map G := List.map_congr_left fun y hy => by
  have := List.mem_range.1 hy
  unfold up
  rw [if_neg (by omega)]
 rw [this]
 exact h
def DsI (base : Nat) (v : Value) (l : List Wy) (w : World) (k : Nat) (ρ : Env) (ds : List Deferred) (W : World) : Prop :=
 ∃ (i : Nat) (G : Nat → Wy × Nat) (vo : Value),(k = l.length - i ∧ i ≤ l.length) ∧ (ρ 0 = v ∧ ρ 3 = vo ∧ ρ 4 = i64 i) ∧ ds = [] ∧ RF W base vo i G ∧ Sd wyLt G 0 i ∧ PM G (tagF l) i ∧ Ext w W
def DsJ (base : Nat) (v vo : Value) (i : Nat) (G : Nat → Wy × Nat) (w : World) (k : Nat) (ρ : Env) (ds : List Deferred) (W : World) : Prop :=
 ∃ kk : Nat,(k = kk ∧ kk ≤ i) ∧ (ρ 0 = v ∧ ρ 3 = vo ∧ ρ 4 = i64 i ∧ ρ 5 = i64 kk) ∧ ds = [] ∧ RF W base vo (i + 1) (shf G i kk) ∧ (∀ c,kk ≤ c → c < i → wyLt (G i).1 (G c).1) ∧ Ext w W
set_option maxHeartbeats 4000000 in
theorem rdsorted_c {w : World} {v : Value} {l : List Wy} (h : SlB w 8 v l.length (l.flatMap wyC)) (hb : l.length ≤ 30) : FN Tryz.prog 27 [v] w fun e w' => SortedE l w e w' ∧ Ext w w' := by
 refine FN_enter Tryz.func27 rfl rfl (by kernel_rfl) ?_
 have hlen := fun ty W => h.isLen (P := Tryz.prog) (t := 48) (by simp) ty W
 simp
 refine WC_loop (DsI w.heap.size v l w) l.length ⟨0,tagF l,.slice none 0 0,⟨by simp,by simp⟩,by simp,rfl,World.ownsRow_nil _ _ _ _,fun i j h1 h2 h3 => by omega,PM.refl _ _,Ext.refl w⟩ ?_
 rintro k ρ ds W ⟨i,G,vo,⟨rfl,hi⟩,⟨e0,e3,e4⟩,rfl,hR,hS,hP,hX⟩
 obtain ⟨oa,oc,rfl⟩ := hR.len
 by_cases hlt : i < l.length
 ·have hs := (h.ext hX).toSl (by omega)
  have r1 := wyRow hs hlt
  have x1 := fun W => wyIndex hs i hlt W
  have et : (tagF l i).1 = l[i] := by simp [tagF,hlt]
  simp [e0,e3,e4,hlen,hlt,x1,r1.c0,r1.c1,r1.c2,r1.c3,r1.c4,r1.c5,r1.c6,r1.c7]
  have hE1 : Ext W (W.alloc (.cells #[u64 l[i].a,i64 l[i].h,u32 l[i].n,u32 l[i].f.fr,u32 l[i].f.to',u64 l[i].f.sf,u64 l[i].f.su,u64 l[i].f.rate] 66)) := (Ext.refl W).alloc _
  have hone : Sl (W.alloc (.cells #[u64 l[i].a,i64 l[i].h,u32 l[i].n,u32 l[i].f.fr,u32 l[i].f.to',u64 l[i].f.sf,u64 l[i].f.su,u64 l[i].f.rate] 66)) 8 (.slice (some ⟨W.heap.size,0,none⟩) 1 1) 1 (wyC l[i]) := Sl.made W (wyC l[i]) 66 8 1 rfl
  generalize (W.alloc (.cells #[u64 l[i].a,i64 l[i].h,u32 l[i].n,u32 l[i].f.fr,u32 l[i].f.to',u64 l[i].f.sf,u64 l[i].f.su,u64 l[i].f.rate] 66)) = W1 at *
  have zX := hX.size
  have zE := hE1.size
  obtain ⟨v',W2,hr2,ho2,hM2,hn2⟩ := append_own (P := Tryz.prog) (t := 48) (ty := 48) (e := 66) (s := 8) (by simp) (by simp) (by kernel_rfl) (own_ext hR hE1) hone (fun u hu => wy_one [l[i]] u (by simpa using hu)) (by omega) (by omega)
  have hX2 : Ext w W2 := (((hX.trans hE1).mod (S := fun k => w.heap.size ≤ k)).trans (hM2.weaken fun k ⟨h1,h2⟩ => by have := own_ge hR h1; omega)).ext fun _ h => h
  have hR2 : RF W2 w.heap.size v' (i + 1) (up G i (tagF l i)) := by
   unfold RF
   rw [lst_snoc,et,List.flatMap_append]
   simpa using ho2
  have hG1 : ∀ x,x < i → up G i (tagF l i) x = G x := fun x hx => by unfold up; rw [if_neg (by omega)]
  have hGi : up G i (tagF l i) i = tagF l i := by simp [up]
  have hP2 := pm_snoc hP
  have hMg : Mg wyLt (up G i (tagF l i)) 0 i (i + 1) := by
   refine ⟨fun p q h1 h2 h3 => ?_, fun p q h1 h2 h3 => by omega, fun p q h1 h2 h3 h4 => ?_⟩
   ·rw [hG1 p (by omega),hG1 q h3]; exact hS p q h1 h2 h3
   ·obtain rfl : q = i := by omega
    rw [hG1 p h2,hGi]
    have hm : G p ∈ (List.range q).map (tagF l) := hP.mem_iff.1 (List.mem_map.2 ⟨p,List.mem_range.2 h2,rfl⟩)
    obtain ⟨p',hp',e⟩ := List.mem_map.1 hm
    have := List.mem_range.1 hp'
    rw [← e]
    exact this
  generalize up G i (tagF l i) = G2 at *
  obtain ⟨oa',oc',rfl⟩ := hR2.len
  simp [hr2]
  refine WC_loop (DsJ w.heap.size v (.slice oa' (i + 1) oc') i G2 w) i ⟨i,⟨rfl,Nat.le_refl _⟩,by simp [e0,e4],rfl,by rw [shf_0]; exact hR2,fun c h1 h2 => by omega,hX2⟩ ?_
  clear e0 e3 e4 hX2 hR2 hX hR
  rintro kk ρ2 ds2 W3 ⟨kq,⟨rfl,hk⟩,⟨f0,f3,f4,f5⟩,rfl,hR3,hlt3,hX3⟩
  refine WC_drawC 12 (.F 0 <| .F 1 <| .F 2 <| .F 3 <| .F 4 <| .F 5 <| .F 6 <| .F 7 <| .F 8 <| .F 9 <| .F 10 <| .F 11 <| .Z) (fun _ => false) rfl (by kernel_rfl) fun W4 hW4 => ?_
  have hE4 : Ext W3 W4 := hW4 ▸ Ext.drew W3
  have hX4 := hX3.trans hE4
  have hs4 := (h.ext hX4).toSl (by omega)
  have q1 := wyRow hs4 hlt
  have y1 := fun W => wyIndex hs4 i hlt W
  have hR4 := hR3.ext hE4
  have th4 := fun k => hR4.thaw (by omega) k
  have hge4 := own_ge hR4 (own_nil hR4 (by omega))
  have nwi : IntKind.i64.wrap ((i : Int) + 1) = ((i + 1 : Nat) : Int) := by rw [wrap64 _ (by omega) (by omega)]; rfl
  have fini : ∀ (W5 : World), Ext W4 W5 → (∀ c, c < kk → ¬ wyLt (G2 i).1 (G2 c).1) → RF (putC W5 (slB (.slice oa' (i + 1) oc')) (slO (.slice oa' (i + 1) oc') + kk * 8) (wyC (G2 i).1)) w.heap.size (.slice oa' (i + 1) oc') (i + 1) (mv2 G2 i kk) ∧ Sd wyLt (mv2 G2 i kk) 0 (i + 1) ∧ PM (mv2 G2 i kk) (tagF l) (i + 1) ∧ Ext w (putC W5 (slB (.slice oa' (i + 1) oc')) (slO (.slice oa' (i + 1) oc') + kk * 8) (wyC (G2 i).1)) := by
   intro W5 hE5 hno
   have hp := (hR4.ext hE5).put (i := kk) (by omega) (G2 i)
   rw [shf_end] at hp
   refine ⟨hp,hMg.two swo_wy ⟨Nat.zero_le _,hk⟩ (fun c _ h2 => hno c h2) (fun c h1 h2 => hlt3 c h1 h2),(pm_mv2 G2 (by omega) (i - kk) kk (by omega)).trans hP2,?_⟩
   exact (((hX4.trans hE5).mod (S := fun k => w.heap.size ≤ k)).trans ((putC_mod (b := slB (.slice oa' (i + 1) oc')) _ _ (Mod.refl _ _)).weaken fun k hk => by omega)).ext fun _ h => h
  have eGi : (G2 i).1 = l[i] := by rw [hGi]; exact et
  by_cases hk0 : 0 < kk
  ·have sub1 : IntKind.i64.wrap ((kk : Int) - 1) = ((kk - 1 : Nat) : Int) := by rw [wrap64 _ (by omega) (by omega)]; omega
   have rk := hR4.row (i := kk - 1) (by omega)
   have xk := fun W => hR4.ix (i := kk - 1) (k := ((kk - 1 : Nat) : Int)) rfl (by omega) W
   have xK := fun W => hR4.ix (i := kk) (k := (kk : Int)) rfl (by omega) W
   rw [shf_lo G2 (by omega)] at rk
   simp [f0,f3,f4,f5,hk0,sub1,y1,q1.c0,q1.c1,q1.c2,q1.c3,q1.c4,q1.c5,q1.c6,q1.c7,xk,rk.c0,rk.c1,rk.c2,rk.c3,rk.c4,rk.c5,rk.c6,rk.c7]
   refine FN.mono (dbetter_c l[i] (G2 (kk - 1)).1 W4) ?_
   rintro _ W5 ⟨rfl,hE5⟩
   have hR5 := hR4.ext hE5
   have rk5 := hR5.row (i := kk - 1) (by omega)
   have rK5 := hR5.row (i := kk) (by omega)
   rw [shf_lo G2 (by omega)] at rk5
   have th5 := fun k => hR5.thaw (by omega) k
   by_cases hl : wyLt l[i] (G2 (kk - 1)).1
   ·have hp := hR5.put (i := kk) (by omega) (G2 (kk - 1))
    rw [shf_step G2 hk0 hk] at hp
    have hMp : Mod (fun k => k = slB (.slice oa' (i + 1) oc')) W5 (putC W5 (slB (.slice oa' (i + 1) oc')) (slO (.slice oa' (i + 1) oc') + kk * 8) (wyC (G2 (kk - 1)).1)) := putC_mod _ _ (Mod.refl _ _)
    have hX6 : Ext w (putC W5 (slB (.slice oa' (i + 1) oc')) (slO (.slice oa' (i + 1) oc') + kk * 8) (wyC (G2 (kk - 1)).1)) := (((hX4.trans hE5).mod (S := fun k => w.heap.size ≤ k)).trans (hMp.weaken fun k hk => by omega)).ext fun _ h => h
    simp [hl,f3,f5,sub1,xk,xK,rk5.c0,rk5.c1,rk5.c2,rk5.c3,rk5.c4,rk5.c5,rk5.c6,rk5.c7,rK5.c0,rK5.c1,rK5.c2,rK5.c3,rK5.c4,rK5.c5,rK5.c6,rK5.c7,th5,cell_setCell]
    generalize hW6 : World.setCell _ ⟨slB (.slice oa' (i + 1) oc'),slO (.slice oa' (i + 1) oc') + kk * 8 + 7,none⟩ _ = W6
    have e' : putC W5 (slB (.slice oa' (i + 1) oc')) (slO (.slice oa' (i + 1) oc') + kk * 8) (wyC (G2 (kk - 1)).1) = W6 := hW6
    rw [e'] at hp hX6
    refine ⟨kk - 1,by omega,kk - 1,⟨rfl,by omega⟩,by simp [f0,f3,f4],rfl,hp,fun c c1 c2 => ?_,hX6⟩
    by_cases hc : c = kk - 1
    ·rw [hc,eGi]; exact hl
    ·exact hlt3 c (by omega) c2
   ·obtain ⟨k1,k2,k3,k4⟩ := fini W5 hE5 fun c hc => hMg.two_nlt swo_wy (c := kk - 1) (Nat.zero_le _) (by omega) (by omega) (by rw [eGi]; exact hl)
    rw [eGi] at k1 k4
    have hs5 := (h.ext (hX4.trans hE5)).toSl (by omega)
    have p1 := wyRow hs5 hlt
    simp [hl,f0,f3,f4,f5,y1,xK,p1.c0,p1.c1,p1.c2,p1.c3,p1.c4,p1.c5,p1.c6,p1.c7,rK5.c0,rK5.c1,rK5.c2,rK5.c3,rK5.c4,rK5.c5,rK5.c6,rK5.c7,th5,cell_setCell]
    generalize hW6 : World.setCell _ ⟨slB (.slice oa' (i + 1) oc'),slO (.slice oa' (i + 1) oc') + kk * 8 + 7,none⟩ _ = W6
    have e' : putC W5 (slB (.slice oa' (i + 1) oc')) (slO (.slice oa' (i + 1) oc') + kk * 8) (wyC l[i]) = W6 := hW6
    rw [e'] at k1 k4
    exact ⟨l.length - (i + 1),by omega,i + 1,_,.slice oa' (i + 1) oc',⟨rfl,by omega⟩,by simp [f0,f3,nwi],rfl,k1,k2,k3,k4⟩
  ·obtain rfl : kk = 0 := by omega
   obtain ⟨k1,k2,k3,k4⟩ := fini W4 (Ext.refl _) fun c hc => by omega
   have rK := hR4.row (i := 0) (by omega)
   have xK := fun W => hR4.ix (i := 0) (k := 0) rfl (by omega) W
   rw [eGi] at k1 k4
   obtain ⟨z0,z1,z2,z3,z4,z5,z6,z7⟩ := rK
   simp only [Nat.zero_mul,Nat.add_zero] at z0 z1 z2 z3 z4 z5 z6 z7 xK k1 k4
   simp [f0,f3,f4,f5,y1,xK,q1.c0,q1.c1,q1.c2,q1.c3,q1.c4,q1.c5,q1.c6,q1.c7,z0,z1,z2,z3,z4,z5,z6,z7,th4,cell_setCell]
   generalize hW6 : World.setCell _ ⟨slB (.slice oa' (i + 1) oc'),slO (.slice oa' (i + 1) oc') + 7,none⟩ _ = W6
   have e' : putC W4 (slB (.slice oa' (i + 1) oc')) (slO (.slice oa' (i + 1) oc')) (wyC l[i]) = W6 := hW6
   rw [e'] at k1 k4
   exact ⟨l.length - (i + 1),by omega,i + 1,_,.slice oa' (i + 1) oc',⟨rfl,by omega⟩,by simp [f0,f3,nwi],rfl,k1,k2,k3,k4⟩
 ·have hil : i = l.length := by omega
  subst hil
  simp [e0,e3,e4,hlen]
  exact ⟨⟨_,G,rfl,hR.sl.toB,hS,hP⟩,hX⟩
end Go.Proofs
namespace Go.Proofs
open Pk St
set_option maxRecDepth 10000
set_option maxHeartbeats 4000000 in
theorem RoutePicks_c {w : World} {v vb : Value} {l : List Wy} {but : List Int} (hs : SlB w 8 v l.length (l.flatMap wyC)) (hb : SlB w 1 vb but.length (but.map u32)) : FN Tryz.prog 6 [v, vb] w fun e w' => e = .returned (.bool true) ∧ Ext w w' := by
 refine FN_enter Tryz.func6 rfl rfl (by kernel_rfl) ?_
 obtain ⟨a1,c1,rfl⟩ := hs.isSlice
 obtain ⟨a2,c2,rfl⟩ := hb.isSlice
 by_cases h30 : (30 : Int) < (l.length : Int)
 ·have h30' : 30 < l.length := by omega
  simp [h30]
  refine FN.mono (works_c w) ?_
  rintro _ w2 ⟨rfl,hE2⟩
  simp
  exact hE2
 by_cases h10 : (10 : Int) < (but.length : Int)
 ·have h10' : 10 < but.length := by omega
  have h30' : ¬ 30 < l.length := by omega
  simp [h30,h10]
  refine FN.mono (works_c w) ?_
  rintro _ w2 ⟨rfl,hE2⟩
  simp
  exact hE2
 have h10' : ¬ 10 < but.length := by omega
 have h30' : ¬ 30 < l.length := by omega
 simp [h30,h10]
 refine FN.mono (rpick_c hb hs (by omega) (by omega)) ?_
 rintro _ w1 ⟨⟨x,n,rfl,hP1⟩,hE1⟩
 have hE2 : Ext w1 (w1.alloc (.cells #[u64 x.a,i64 x.h,u32 x.n,u32 x.f.fr,u32 x.f.to',u64 x.f.sf,u64 x.f.su,u64 x.f.rate] 66)) := (Ext.refl w1).alloc _
 have k2 : Blk (w1.alloc (.cells #[u64 x.a,i64 x.h,u32 x.n,u32 x.f.fr,u32 x.f.to',u64 x.f.sf,u64 x.f.su,u64 x.f.rate] 66)) w1.heap.size (wyC x) := Blk.new w1 (wyC x) 66
 simp
 generalize (w1.alloc (.cells #[u64 x.a,i64 x.h,u32 x.n,u32 x.f.fr,u32 x.f.to',u64 x.f.sf,u64 x.f.su,u64 x.f.rate] 66)) = w2 at *
 have hX2 := hE1.trans hE2
 refine FN.mono (dpick_c (hb.ext hX2) (hs.ext hX2) (by omega) (by omega)) ?_
 rintro _ w3 ⟨⟨y,m,rfl,hP2⟩,hE3⟩
 obtain ⟨hxy,hnm⟩ := hP1.uniq hP2
 subst hxy hnm
 have hE4 : Ext w3 (w3.alloc (.cells #[u64 x.a,i64 x.h,u32 x.n,u32 x.f.fr,u32 x.f.to',u64 x.f.sf,u64 x.f.su,u64 x.f.rate] 66)) := (Ext.refl w3).alloc _
 have k4 : Blk (w3.alloc (.cells #[u64 x.a,i64 x.h,u32 x.n,u32 x.f.fr,u32 x.f.to',u64 x.f.sf,u64 x.f.su,u64 x.f.rate] 66)) w3.heap.size (wyC x) := Blk.new w3 (wyC x) 66
 have z4 : (w3.alloc (.cells #[u64 x.a,i64 x.h,u32 x.n,u32 x.f.fr,u32 x.f.to',u64 x.f.sf,u64 x.f.su,u64 x.f.rate] 66)).heap.size = w3.heap.size + 1 := by simp
 have hE5 : Ext (w3.alloc (.cells #[u64 x.a,i64 x.h,u32 x.n,u32 x.f.fr,u32 x.f.to',u64 x.f.sf,u64 x.f.su,u64 x.f.rate] 66)) ((w3.alloc (.cells #[u64 x.a,i64 x.h,u32 x.n,u32 x.f.fr,u32 x.f.to',u64 x.f.sf,u64 x.f.su,u64 x.f.rate] 66)).alloc (.cells #[] 66)) := (Ext.refl _).alloc _
 have ho5 := own_empty (e := 66) (s := 8) (w3.alloc (.cells #[u64 x.a,i64 x.h,u32 x.n,u32 x.f.fr,u32 x.f.to',u64 x.f.sf,u64 x.f.su,u64 x.f.rate] 66)) w3.heap.size (by omega)
 have hX5 := hX2.trans (hE3.trans (hE4.trans hE5))
 rw [z4] at ho5
 have k2' := (k2.ext hE3).ext (hE4.trans hE5)
 have k4' := k4.ext hE5
 simp
 generalize ((w3.alloc (.cells #[u64 x.a,i64 x.h,u32 x.n,u32 x.f.fr,u32 x.f.to',u64 x.f.sf,u64 x.f.su,u64 x.f.rate] 66)).alloc (.cells #[] 66)) = w5 at *
 obtain ⟨vo,w6,hr6,ho6,hE6⟩ := append_newB (P := Tryz.prog) (t := 48) (ty := 48) (e := 66) (s := 8) (by simp) (by simp) (by kernel_rfl) ho5 (hs.ext hX5) (wy_one l) (by omega) (by have := (hE4.trans hE5).size; omega)
 have k2'' := k2'.ext hE6
 have k4'' := k4'.ext hE6
 have hX6 := hX5.trans hE6
 have hq := eqWy x x w6
 simp at hq
 obtain ⟨oa,oc,rfl⟩ := own_val ho6
 have ho := sl_of_own ho6
 simp [hr6,(k2'').cell 0 _ rfl,(k2'').cell 1 _ rfl,(k2'').cell 2 _ rfl,(k2'').cell 3 _ rfl,(k2'').cell 4 _ rfl,(k2'').cell 5 _ rfl,(k2'').cell 6 _ rfl,(k2'').cell 7 _ rfl,(k4'').cell 0 _ rfl,(k4'').cell 1 _ rfl,(k4'').cell 2 _ rfl,(k4'').cell 3 _ rfl,(k4'').cell 4 _ rfl,(k4'').cell 5 _ rfl,(k4'').cell 6 _ rfl,(k4'').cell 7 _ rfl,hq]
 refine FN.mono (knum_c n w6) ?_
 rintro _ _ ⟨rfl,rfl⟩
 rename_i w6
 simp
 refine FN.mono (rsorted_c (l := l) ho (by omega)) ?_
 rintro _ w7 ⟨⟨v7,G1,rfl,hS7,hd1,hp1⟩,hE7⟩
 simp
 refine FN.mono (rdsorted_c (hs.ext (hX6.trans hE7)) (by omega)) ?_
 rintro _ w8 ⟨⟨v8,G2,rfl,hS8,hd2,hp2⟩,hE8⟩
 have hll : lst G1 l.length = lst G2 l.length := by
  have := uniq swo_wy hd1 hd2 (hp1.trans hp2.symm)
  have h2 := congrArg (List.map (·.1)) this
  simpa [lst,List.map_map,Function.comp_def] using h2
 rw [hll] at hS7
 simp
 refine FN.mono (same_c (hS7.ext hE8) hS8 (by rw [lst_len]; omega)) ?_
 rintro _ w9 ⟨rfl,hE9⟩
 simp
 have hX69 := hE7.trans (hE8.trans hE9)
 refine FN.mono (same_c (ho.toB.ext hX69) (hs.ext (hX6.trans hX69)) (by omega)) ?_
 rintro _ w10 ⟨rfl,hE10⟩
 simp
 refine FN.mono (works_c w10) ?_
 rintro _ w11 ⟨rfl,hE11⟩
 simp
 exact hX6.trans (hX69.trans (hE10.trans hE11))
end Go.Proofs