/-
 Contracts of the functions that the law reaches,step by step.
-/
import Derived.Test.YtdflcfoalhhjlaaGreatGeC
namespace Go.Proofs
open Pk
set_option maxRecDepth 10000
theorem mem_key {m : ML} {k : Int} (h : k ∈ m.map (·.1)) : (mget m k).isSome = true := by
 cases hg : mget m k with
 | some v => rfl
 | none =>
  obtain ⟨p,hp,rfl⟩ := List.mem_map.1 h
  exact absurd rfl (kget_none hg p hp)
theorem gdT_of {w : World} {t R : Nat} {M : ME} (ht : TabAt w t R M) (h : ∀ q, gdI (sps M q)) : gdT M := by
 intro x hx
 have := h x.1
 rw [sps,(kget_iff ht.map.nodup).2 (show (x.1,x.2) ∈ M from hx)] at this
 exact this
theorem RelT.gdT {w : World} {t R : Nat} {M : ME} {l : List St} (h : RelT M l) (ht : TabAt w t R M) : gdT M := by
 refine gdT_of ht fun q p hp => ?_
 have hn : ((sps M q).map (·.1)).Nodup := by
  have := ht.inn q
  exact this.nodup
 have h1 := (kget_iff hn (k := p.1) (v := p.2)).2 hp
 have h2 := (h.get ⟨q.1,q.2,p.1,p.2⟩).1 h1
 obtain ⟨h3,h4⟩ := h.ok _ h2
 have := h3.a
 have := h3.k
 unfold badS at h4
 simp only [Bool.or_eq_false_iff,decide_eq_false_iff_not] at h4
 simp only at *
 omega
theorem isKey {M : ME} {l : List St} (h : RelT M l) (f g k : Int) : k ∈ (sps M (f, g)).map (·.1) ↔ ∃ s ∈ l, s.f = f ∧ s.t = g ∧ s.a = k := by
 constructor
 ·intro hk
  have := mem_key hk
  obtain ⟨v,hv⟩ := Option.isSome_iff_exists.1 this
  exact ⟨⟨f,g,k,v⟩,(h.get ⟨f,g,k,v⟩).1 hv,rfl,rfl,rfl⟩
 ·rintro ⟨s,hs,rfl,rfl,rfl⟩
  have := (h.get s).2 hs
  exact List.mem_map.2 ⟨_,kget_mem this,rfl⟩
def tkP (l : List St) (f g a : Int) (st : Int × Int × Bool) : Prop :=
 (st.2.2 = false → st.1 = 0 ∧ ∀ s ∈ l,s.f = f → s.t = g → ¬ s.a ≤ a) ∧ (st.2.2 = true → (⟨f,g,st.2.1,st.1⟩ : St) ∈ l ∧ st.2.1 ≤ a ∧ ∀ s ∈ l,s.f = f → s.t = g → s.a ≤ a → s.a ≤ st.2.1)
theorem tkP_all (l : List St) (f g a : Int) : ∀ i, i ≤ l.length → tkP (l.take i) f g a (rtkF (l.take i) f g a)
 | 0,_ => ⟨fun _ => ⟨rfl,by simp⟩,fun h => by simp [rtkF] at h⟩
 | i + 1, hi => by
  have ih := tkP_all l f g a i (by omega)
  have hil : i < l.length := by omega
  rw [rtkF_succ hil]
  have htk : l.take (i + 1) = l.take i ++ [l[i]] := by rw [List.take_add_one,List.getElem?_eq_getElem hil]; rfl
  rw [htk]
  generalize rtkF (l.take i) f g a = st at *
  obtain ⟨n,la,is⟩ := st
  generalize l[i] = x
  have skip : (¬ (x.f = f ∧ x.t = g ∧ x.a ≤ a)) → tkP (l.take i ++ [x]) f g a (n, la, is) := by
   intro hx
   refine ⟨fun e => ⟨(ih.1 e).1, fun s hs h1 h2 h3 => ?_⟩, fun e => ⟨by simp [(ih.2 e).1], (ih.2 e).2.1, fun s hs h1 h2 h3 => ?_⟩⟩
   ·rcases List.mem_append.1 hs with hs | hs
    ·exact (ih.1 e).2 s hs h1 h2 h3
    ·simp at hs; subst hs; exact hx ⟨h1,h2,h3⟩
   ·rcases List.mem_append.1 hs with hs | hs
    ·exact (ih.2 e).2.2 s hs h1 h2 h3
    ·simp at hs; subst hs; exact absurd ⟨h1,h2,h3⟩ hx
  unfold tkS
  by_cases b0 : x.f = f
  ·by_cases b1 : x.t = g
   ·by_cases b2 : x.a ≤ a
    ·subst b0 b1
     rw [if_pos rfl,if_pos rfl,if_pos b2]
     cases is with
     | false =>
      simp only [if_true]
      refine ⟨fun e => (by cases e),fun _ => ⟨by simp,b2,fun s hs h1 h2 h3 => ?_⟩⟩
      rcases List.mem_append.1 hs with hs | hs
      ·exact absurd h3 ((ih.1 rfl).2 s hs h1 h2)
      ·simp at hs; subst hs; exact Int.le_refl _
     | true =>
      by_cases b3 : la ≤ x.a
      ·simp only [Bool.true_eq_false,if_false,b3,if_true]
       refine ⟨fun e => (by cases e),fun _ => ⟨by simp,b2,fun s hs h1 h2 h3 => ?_⟩⟩
       rcases List.mem_append.1 hs with hs | hs
       ·have := (ih.2 rfl).2.2 s hs h1 h2 h3
        simp only at this ⊢
        omega
       ·simp at hs; subst hs; exact Int.le_refl _
      ·simp only [Bool.true_eq_false,if_false,b3]
       refine ⟨fun e => (by cases e),fun _ => ⟨by simp [(ih.2 rfl).1],(ih.2 rfl).2.1,fun s hs h1 h2 h3 => ?_⟩⟩
       rcases List.mem_append.1 hs with hs | hs
       ·exact (ih.2 rfl).2.2 s hs h1 h2 h3
       ·simp at hs; subst hs; simp only; omega
    ·rw [if_pos b0,if_pos b1,if_neg b2]; exact skip fun h => b2 h.2.2
   ·rw [if_pos b0,if_neg b1]; exact skip fun h => b1 h.2.1
  ·rw [if_neg b0]; exact skip fun h => b0 h.1
theorem RelT.tk {M : ME} {l : List St} (h : RelT M l) (f g a : Int) : tk (sps M (f, g)) a = rtk l f g a := by
 have h1 := tkP_all l f g a l.length (Nat.le_refl _)
 rw [List.take_length] at h1
 have h2 := lk_last a ((sps M (f,g)).map (·.1))
 unfold Go.Proofs.tk rtk
 generalize hst : rtkF l f g a = st at *
 obtain ⟨n,la,is⟩ := st
 cases is with
 | false =>
  obtain ⟨h3,h4⟩ := h1.1 rfl
  have : isLast ((sps M (f, g)).map (·.1)) a none := fun k hk => by
   obtain ⟨s,hs,e1,e2,rfl⟩ := (isKey h f g k).1 hk
   have := h4 s hs e1 e2
   omega
  rw [h2.uniq this]
  exact h3.symm
 | true =>
  obtain ⟨h3,h4,h5⟩ := h1.2 rfl
  have : isLast ((sps M (f, g)).map (·.1)) a (some la) := by
   refine ⟨(isKey h f g la).2 ⟨_,h3,rfl,rfl,rfl⟩,h4,fun k hk hka => ?_⟩
   obtain ⟨s,hs,e1,e2,rfl⟩ := (isKey h f g k).1 hk
   exact h5 s hs e1 e2 hka
  rw [h2.uniq this]
  have := (h.get ⟨f,g,la,n⟩).2 h3
  simp only at this ⊢
  rw [this]
  rfl
theorem RelT.lnd {M : ME} {l : List St} (h : RelT M l) (f g a : Int) : lnd (sps M (f, g)) a = rlnd l f g a := by
 unfold Go.Proofs.lnd rlnd
 rw [h.tk]
theorem RelT.steps {M : ME} {l : List St} (h : RelT M l) (ht : ∀ q, ((sps M q).map (·.1)).Nodup) {f g : Int} {ys : List Int} (hy : isKeys (sps M (f, g)) ys) {rs : List St} (hr : isSteps l f g rs) :
  rs.map (·.a) = ys ∧ ∀ x ∈ rs,Pk.mget (sps M (f,g)) x.a = some x.k := by
 have hmem : ∀ x, x ∈ rs ↔ x ∈ l ∧ x.f = f ∧ x.t = g := fun x => by
  rw [hr.2.mem_iff,List.mem_filter]
  simp [ofFG]
 have hnd : (rs.map (·.a)).Nodup := by
  have h1 : ((l.filter (ofFG f g)).map (·.a)).Nodup := by
   have h2 : ((l.filter (ofFG f g)).map keyS).Nodup := h.uni.sublist (List.filter_sublist.map keyS)
   have h3 : ((l.filter (ofFG f g)).map keyS) = ((l.filter (ofFG f g)).map (·.a)).map fun a => (f, g, a) := by
    rw [List.map_map]
    refine List.map_congr_left fun x hx => ?_
    have := (List.mem_filter.1 hx).2
    simp [ofFG] at this
    simp [keyS,this]
   rw [h3] at h2
   exact (List.pairwise_map.1 h2).imp fun h e => h (by rw [e])
  exact ((hr.2.map _).nodup_iff).2 h1
 have hnk : ((sps M (f,g)).map (·.1)).Nodup := ht (f,g)
 refine ⟨?_, fun x hx => ?_⟩
 ·refine List.Perm.eq_of_pairwise (le := (· ≤ ·)) (fun a b _ _ h1 h2 => Int.le_antisymm h1 h2) (List.pairwise_map.2 hr.1) hy.2 ?_
  refine List.Perm.trans ?_ hy.1.symm
  rw [List.perm_ext_iff_of_nodup hnd hnk]
  intro k
  rw [isKey h,List.mem_map]
  constructor
  ·rintro ⟨x,hx,rfl⟩
   obtain ⟨h1,h2,h3⟩ := (hmem x).1 hx
   exact ⟨x,h1,h2,h3,rfl⟩
  ·rintro ⟨x,h1,h2,h3,rfl⟩
   exact ⟨x,(hmem x).2 ⟨h1,h2,h3⟩,rfl⟩
 ·obtain ⟨h1,rfl,rfl⟩ := (hmem x).1 hx
  exact (h.get x).2 h1
end Go.Proofs
namespace Go.Proofs
open Pk
set_option maxRecDepth 10000
theorem kboth_c (x y : Sp2) (w : World) : FN Tryz.prog 78 [spV x, spV y] w fun e w' => e = .returned (.tuple #[spV (bothS x y), .bool (bothB x y)]) ∧ Ext w w' := by
 refine FN_enter Tryz.func78 rfl rfl (by kernel_rfl) ?_
 have hE : Ext w ((((w.alloc (.cells #[u64 x.from',u64 x.til] 62)).alloc (.cells #[u64 y.from',u64 y.til] 62)).alloc (.cells #[u64 0,u64 0] 62)).alloc (.cells #[u64 (max x.from' y.from'),u64 (min x.til y.til)] 62)) := ((((Ext.refl w).alloc _).alloc _).alloc _).alloc _
 have bx : Blk ((((w.alloc (.cells #[u64 x.from',u64 x.til] 62)).alloc (.cells #[u64 y.from',u64 y.til] 62)).alloc (.cells #[u64 0,u64 0] 62)).alloc (.cells #[u64 (max x.from' y.from'),u64 (min x.til y.til)] 62)) w.heap.size [u64 x.from',u64 x.til] := (Blk.new w [u64 x.from',u64 x.til] 62).ext ((((Ext.refl _).alloc _).alloc _).alloc _)
 have by' : Blk ((((w.alloc (.cells #[u64 x.from', u64 x.til] 62)).alloc (.cells #[u64 y.from', u64 y.til] 62)).alloc (.cells #[u64 0, u64 0] 62)).alloc (.cells #[u64 (max x.from' y.from'), u64 (min x.til y.til)] 62)) (w.heap.size + 1) [u64 y.from', u64 y.til] := by
  have := (Blk.new (w.alloc (.cells #[u64 x.from',u64 x.til] 62)) [u64 y.from',u64 y.til] 62).ext (((Ext.refl _).alloc (.cells #[u64 0,u64 0] 62)).alloc (.cells #[u64 (max x.from' y.from'),u64 (min x.til y.til)] 62))
  simpa using this
 have b4 : Blk ((((w.alloc (.cells #[u64 x.from', u64 x.til] 62)).alloc (.cells #[u64 y.from', u64 y.til] 62)).alloc (.cells #[u64 0, u64 0] 62)).alloc (.cells #[u64 (max x.from' y.from'), u64 (min x.til y.til)] 62)) (w.heap.size + 1 + 1) [u64 0, u64 0] := by
  have := (Blk.new ((w.alloc (.cells #[u64 x.from',u64 x.til] 62)).alloc (.cells #[u64 y.from',u64 y.til] 62)) [u64 0,u64 0] 62).ext ((Ext.refl _).alloc (.cells #[u64 (max x.from' y.from'),u64 (min x.til y.til)] 62))
  simpa using this
 have b6 : Blk ((((w.alloc (.cells #[u64 x.from', u64 x.til] 62)).alloc (.cells #[u64 y.from', u64 y.til] 62)).alloc (.cells #[u64 0, u64 0] 62)).alloc (.cells #[u64 (max x.from' y.from'), u64 (min x.til y.til)] 62)) (w.heap.size + 1 + 1 + 1) [u64 (max x.from' y.from'), u64 (min x.til y.til)] := by
  have := Blk.new (((w.alloc (.cells #[u64 x.from',u64 x.til] 62)).alloc (.cells #[u64 y.from',u64 y.til] 62)).alloc (.cells #[u64 0,u64 0] 62)) [u64 (max x.from' y.from'),u64 (min x.til y.til)] 62
  simpa using this
 have hsz : ((((w.alloc (.cells #[u64 x.from',u64 x.til] 62)).alloc (.cells #[u64 y.from',u64 y.til] 62)).alloc (.cells #[u64 0,u64 0] 62)).alloc (.cells #[u64 (max x.from' y.from'),u64 (min x.til y.til)] 62)).heap.size = w.heap.size + 1 + 1 + 1 + 1 := by simp
 simp
 generalize ((((w.alloc (.cells #[u64 x.from',u64 x.til] 62)).alloc (.cells #[u64 y.from',u64 y.til] 62)).alloc (.cells #[u64 0,u64 0] 62)).alloc (.cells #[u64 (max x.from' y.from'),u64 (min x.til y.til)] 62)) = w1 at *
 refine FN.mono (kright_c x w1) ?_
 rintro _ w2 ⟨rfl,h2⟩
 have fin : ∀ (W : World) (a b : Value),Ext w W → Ext w ((W.setCell ⟨w.heap.size + 1 + 1,0,none⟩ a).setCell ⟨w.heap.size + 1 + 1,1,none⟩ b) := fun W a b hX => (hX.setCell _ _ (by simp only; omega)).setCell _ _ (by simp only; omega)
 cases hx : spOk x with
 | false =>
  have d4 := b4.ext h2
  simp [d4.cell 0 _ rfl,d4.cell 1 _ rfl,d4.thaw,cell_setCell,bothS,bothB,hx]
  exact fin _ _ _ (hE.trans h2)
 | true =>
  simp [(by'.ext h2).cell 0 _ rfl,(by'.ext h2).cell 1 _ rfl]
  refine FN.mono (kright_c y w2) ?_
  rintro _ w3 ⟨rfl,h3⟩
  have d4 := (b4.ext h2).ext h3
  have d6 := (b6.ext h2).ext h3
  have hX := (hE.trans h2).trans h3
  cases hy : spOk y with
  | false =>
   simp [d4.cell 0 _ rfl,d4.cell 1 _ rfl,d4.thaw,cell_setCell,bothS,bothB,hx,hy]
   exact fin _ _ _ hX
  | true =>
   by_cases hlt : max x.from' y.from' < min x.til y.til
   ·have hn : ¬ min x.til y.til ≤ max x.from' y.from' := by omega
    have hd : decide (min x.til y.til ≤ max x.from' y.from') = false := decide_eq_false hn
    rw [show bothS x y = ⟨max x.from' y.from',min x.til y.til⟩ from by simp [bothS,bothB,hx,hy,hlt],show bothB x y = true from by simp [bothB,hx,hy,hlt]]
    generalize max x.from' y.from' = u at *
    generalize min x.til y.til = z at *
    simp [d6.cell 0 _ rfl,d6.cell 1 _ rfl,hn,d4.cell 0 _ rfl,d4.cell 1 _ rfl,d4.thaw,cell_setCell]
    exact fin _ _ _ hX
   ·have hn : min x.til y.til ≤ max x.from' y.from' := by omega
    rw [show bothS x y = ⟨0,0⟩ from by simp [bothS,bothB,hx,hy,hlt],show bothB x y = false from by simp [bothB,hx,hy,hlt]]
    generalize max x.from' y.from' = u at *
    generalize min x.til y.til = z at *
    simp [d6.cell 0 _ rfl,d6.cell 1 _ rfl,hn,d4.cell 0 _ rfl,d4.cell 1 _ rfl,d4.thaw,cell_setCell]
    exact fin _ _ _ hX
theorem nright_c (c : Ct) (hc : CtOk c) (w : World) : FN Tryz.prog 47 [ctV c] w fun e w' => e = .returned (.bool (ctRight c)) ∧ Ext w w' := by
 refine FN_enter Tryz.func47 rfl rfl (by kernel_rfl) ?_
 have hE := (Ext.refl w).alloc (.cells #[u32 c.fr,u32 c.to',u64 c.sf,u64 c.su,u64 c.rate] 64)
 have hB : Blk (w.alloc (.cells #[u32 c.fr,u32 c.to',u64 c.sf,u64 c.su,u64 c.rate] 64)) w.heap.size (ctC c) := Blk.new w (ctC c) 64
 have h0 := hc.fr.1
 have h1 := hc.to'.1
 have e : ctRight c = (decide (0 < c.fr) && (decide (0 < c.to') && ((c.fr != c.to') && (spOk ⟨c.sf, c.su⟩ && (decide (c.sf < c.su) && (decide (1 ≤ c.rate) && decide (c.rate ≤ 4294967295))))))) := by
  unfold ctRight spOk
  rw [Bool.eq_iff_iff]
  simp
  omega
 rw [e]
 simp
 generalize (w.alloc (.cells #[u32 c.fr,u32 c.to',u64 c.sf,u64 c.su,u64 c.rate] 64)) = w1 at *
 by_cases a0 : 0 < c.fr
 ·by_cases a1 : 0 < c.to'
  ·by_cases a2 : c.fr = c.to'
   ·simp [a1,a2,(hB).cell 0 _ rfl,(hB).cell 1 _ rfl]
    exact hE
   ·simp [bne_dec,a0,a1,a2,(hB).cell 0 _ rfl,(hB).cell 1 _ rfl,(hB).cell 2 _ rfl,(hB).cell 3 _ rfl]
    refine FN.mono (kright_c ⟨c.sf,c.su⟩ w1) ?_
    rintro _ w2 ⟨rfl,h2⟩
    have hB2 := hB.ext h2
    cases hsp : spOk ⟨c.sf,c.su⟩ with
    | false => simp; exact hE.trans h2
    | true =>
     by_cases a3 : c.sf < c.su
     ·by_cases a4 : 1 ≤ c.rate
      ·simp [(hB2).cell 2 _ rfl,(hB2).cell 3 _ rfl,(hB2).cell 4 _ rfl,a0,a1,a2,bne_dec,a3,a4]
       exact hE.trans h2
      ·simp [(hB2).cell 2 _ rfl,(hB2).cell 3 _ rfl,(hB2).cell 4 _ rfl,a0,a1,a2,bne_dec,a3,a4]
       exact hE.trans h2
     ·simp [(hB2).cell 2 _ rfl,(hB2).cell 3 _ rfl,a0,a1,a2,bne_dec,a3]
      exact hE.trans h2
  ·simp [a0,a1,(hB).cell 1 _ rfl]
   exact hE
 ·simp [a0]
  exact hE
theorem nahead_c (a b : Ct) (w : World) : FN Tryz.prog 50 [ctV a, ctV b] w fun e w' => e = .returned (.bool (decide (aheadP a b))) ∧ Ext w w' := by
 refine FN_enter Tryz.func50 rfl rfl (by kernel_rfl) ?_
 have hE : Ext w ((w.alloc (.cells #[u32 a.fr,u32 a.to',u64 a.sf,u64 a.su,u64 a.rate] 64)).alloc (.cells #[u32 b.fr,u32 b.to',u64 b.sf,u64 b.su,u64 b.rate] 64)) := ((Ext.refl w).alloc _).alloc _
 have hA : Blk ((w.alloc (.cells #[u32 a.fr,u32 a.to',u64 a.sf,u64 a.su,u64 a.rate] 64)).alloc (.cells #[u32 b.fr,u32 b.to',u64 b.sf,u64 b.su,u64 b.rate] 64)) w.heap.size (ctC a) := (Blk.new w (ctC a) 64).ext ((Ext.refl _).alloc _)
 have hB : Blk ((w.alloc (.cells #[u32 a.fr, u32 a.to', u64 a.sf, u64 a.su, u64 a.rate] 64)).alloc (.cells #[u32 b.fr, u32 b.to', u64 b.sf, u64 b.su, u64 b.rate] 64)) (w.heap.size + 1) (ctC b) := by
  have := Blk.new (w.alloc (.cells #[u32 a.fr,u32 a.to',u64 a.sf,u64 a.su,u64 a.rate] 64)) (ctC b) 64
  simpa using this
 simp
 generalize ((w.alloc (.cells #[u32 a.fr,u32 a.to',u64 a.sf,u64 a.su,u64 a.rate] 64)).alloc (.cells #[u32 b.fr,u32 b.to',u64 b.sf,u64 b.su,u64 b.rate] 64)) = w1 at *
 by_cases a0 : a.fr = b.fr
 ·by_cases a1 : a.to' = b.to'
  ·rw [show decide (aheadP a b) = decide (a.sf < b.sf) from by simp [aheadP,a0,a1]]
   simp [(hA).cell 1 _ rfl,(hA).cell 2 _ rfl,(hB).cell 1 _ rfl,(hB).cell 2 _ rfl,a0,a1]
   exact hE
  ·rw [show decide (aheadP a b) = decide (a.to' < b.to') from by simp [aheadP,a0,a1]]
   simp [bne_dec,(hA).cell 1 _ rfl,(hB).cell 1 _ rfl,a0,a1]
   exact hE
 ·rw [show decide (aheadP a b) = decide (a.fr < b.fr) from by simp [aheadP,a0]]
  simp [bne_dec,(hA).cell 0 _ rfl,(hB).cell 0 _ rfl,a0]
  exact hE
end Go.Proofs