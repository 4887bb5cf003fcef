/-
 Contracts of the functions that the law reaches,step by step.
-/
import Derived.Test.YtmmneeomcefgbaaGreatDoorAdM
import Derived.Lib.AppendZerosOnto
import Derived.RecoverIn
namespace Go.Proofs
open Pk
set_option maxRecDepth 10000
attribute [local simp] beq_dec bne_dec prod_eta
inductive Fine : It → Prop
 | uint (n : Int) : Fine (uintI n)
 | bool (n : Int) (h : n ≤ 1) : Fine (.mk 5 n [] ⟨#[]⟩ [])
 | list (l : List It) (h : ∀ x ∈ l,Fine x) : Fine (listI l)
def fineK (k n : Int) (l : List It) : Prop := k = 1 ∧ l = [] ∨ k = 5 ∧ n ≤ 1 ∧ l = [] ∨ k = 4 ∧ n = 0
set_option maxHeartbeats 2000000 in
theorem right_n {k n : Int} {l : List It} (hf : fineK k n l) (ih : ∀ x ∈ l, ∀ (w : World) (cs : List Value), ItC w x cs → FN Tryz.prog 194 [.agg cs.toArray] w fun e w' => (∃ u, e = .returned u) ∧ Ext w w')
  {w : World} {cs : List Value} (ht : ItC w (.mk k n [] ⟨#[]⟩ l) cs) : FN Tryz.prog 194 [.agg cs.toArray] w fun e w' => (∃ u,e = .returned u) ∧ Ext w w' := by
 obtain ⟨bv,lv,css,rfl,hb,hl,hc,hb1,hl1⟩ := itC_mk.1 ht
 obtain ⟨⟨ba,bm,bc,rfl⟩,⟨la,lm,lc,rfl⟩⟩ := itC_slices ht
 refine FN_enter Tryz.func194 rfl rfl (by kernel_rfl) ?_
 simp
 have hE1 : Ext w (w.alloc (.cells #[i64 k,u64 n,.slice ba bm bc,.string ⟨#[]⟩,.slice la lm lc] 160)) := (Ext.refl w).alloc _
 have x1 : ItBx (w.alloc (.cells #[i64 k,u64 n,.slice ba bm bc,.string ⟨#[]⟩,.slice la lm lc] 160)) w.heap.size k n (.slice ba bm bc) ⟨#[]⟩ (.slice la lm lc) := ItBx.new w _ _ _ _ _ 160
 generalize (w.alloc (.cells #[i64 k,u64 n,.slice ba bm bc,.string ⟨#[]⟩,.slice la lm lc] 160)) = w1 at *
 obtain ⟨b1,hb1'⟩ : ∃ b1,b1 = w.heap.size := ⟨_,rfl⟩
 rw [← hb1'] at x1 ⊢
 refine WC_drawC 8 (.F 1 <| .F 2 <| .C 0 <| .C 3 <| .F 4 <| .F 5 <| .F 6 <| .F 7 <| .Z) (fun _ => false) rfl (by kernel_rfl) fun W hW => ?_
 have hWE : Ext w1 W := hW ▸ Ext.drew _
 have x2 := x1.ext hWE
 simp [x2.c0]
 refine FN.mono (writes_c W) ?_
 rintro _ w2 ⟨r,rfl,hm,hE2⟩
 simp
 refine KR_ext hE2 ?_
 have hz : ∃ z,∀ w,(zeroValue 180).run Tryz.prog w = .ok z w := ⟨_,fun w => by simp; rfl⟩
 obtain ⟨z,hz⟩ := hz
 have hlk := hm.lookup (P := Tryz.prog) kKind twm (hz w2) k true
 obtain ⟨f, hf1⟩ : ∃ f, mget wrM k = some f := by
  rcases hf with ⟨rfl,-⟩ | ⟨rfl,-⟩ | ⟨rfl,-⟩ <;> exact ⟨_,rfl⟩
 rw [hf1] at hlk
 simp at hlk
 simp [hlk]
 refine KR_same ?_
 have x3 := x2.ext hE2
 have hEw2 := hE1.trans (hWE.trans hE2)
 simp [x3.c0]
 refine with_tail (T := ∀ (σ : Env) (W : World) (b4 : Nat) (yl : Option Addr) (ym yc : Nat), (σ 1 = ptr b1 ∧ σ 3 = .bool true ∧ σ 4 = ptr b4) → ItBx W b1 k n (.slice ba bm bc) ⟨#[]⟩ (.slice la lm lc) → ItBx W b4 k n (.slice none 0 0) ⟨#[]⟩ (.slice yl ym yc) →
  SlB W 5 (.slice yl ym yc) l.length css.flatten → Ext w2 W → FNt Tryz.prog 249 [.string ⟨#[]⟩] W (RC ?dA ?KA ?QA σ []) Tok.mk) (fun tail => ?br) ?jn
 case br =>
  by_cases hk : k = 1
  ·have hl0 : l = [] := by
    rcases hf with h | h | h
    ·exact h.2
    ·omega
    ·omega
   have hcs : css = [] := List.eq_nil_of_length_eq_zero (by have := (itCs_iff.1 hc).1; rw [hl0] at this; simpa using this)
   rw [show decide (k = 1) = true from by simp [hk]]
   simp [x3.c1,x3.c3]
   refine tail _ _ w2.heap.size none 0 0 ?_ (x3.ext ((Ext.refl _).alloc _)) (ItBx.new w2 k n _ _ _ 160) ?_ ((Ext.refl _).alloc _)
   ·simp
   ·rw [hl0,hcs]; exact SlB.nil _ 5 0
  by_cases hk5 : k = 5
  ·have hl0 : l = [] := by
    rcases hf with h | h | h
    ·omega
    ·exact h.2.2
    ·omega
   have hcs : css = [] := List.eq_nil_of_length_eq_zero (by have := (itCs_iff.1 hc).1; rw [hl0] at this; simpa using this)
   rw [show decide (k = 1) = false from by simp [hk]]
   simp
   rw [show decide (k = 5) = true from by simp [hk5]]
   simp [x3.c1,x3.c3]
   refine tail _ _ w2.heap.size none 0 0 ?_ (x3.ext ((Ext.refl _).alloc _)) (ItBx.new w2 k n _ _ _ 160) ?_ ((Ext.refl _).alloc _)
   ·simp
   ·rw [hl0,hcs]; exact SlB.nil _ 5 0
  ·have hk4 : k = 4 ∧ n = 0 := by
    rcases hf with h | h | h
    ·omega
    ·omega
    ·exact h
   have hn := hk4.2
   rw [show decide (k = 1) = false from by simp [hk]]
   simp
   rw [show decide (k = 5) = false from by simp [hk5]]
   simp
   rw [show decide (k = 2) = false from by simp [hk4.1]]
   simp
   rw [show decide (k = 3) = false from by simp [hk4.1]]
   simp
   rw [show decide (k = 4) = true from by simp [hk4.1]]
   simp [x3.c4,x3.c3]
   refine tail _ _ w2.heap.size la lm lc ?_ (x3.ext ((Ext.refl _).alloc _)) (hn ▸ ItBx.new w2 k 0 _ _ _ 160) (SlB.ext hl (hEw2.trans ((Ext.refl _).alloc _))) ((Ext.refl _).alloc _)
   simp
 case jn =>
  rintro σ w3 b4 yl ym yc ⟨e1,e3,e4⟩ hx hy hyl hE3
  refine FN.mono (runes_c w3) ?_
  rintro _ w4 ⟨rfl,hE4⟩
  have hx4 := hx.ext hE4
  have hy4 := hy.ext hE4
  simp [e1,e3,e4,hx4.c0,hx4.c1,hx4.c2,hx4.c3,hx4.c4,hy4.c0,hy4.c1,hy4.c2,hy4.c3,hy4.c4]
  have hE04 := hEw2.trans (hE3.trans hE4)
  have hyt : ItC w4 (.mk k n [] ⟨#[]⟩ l) [i64 k,u64 n,.slice none 0 0,.string ⟨#[]⟩,.slice yl ym yc] := itC_mk.2 ⟨_,_,css,rfl,SlB.nil w4 1 0,SlB.ext hyl hE4,ItPs.ext hc hE04,by simp,hl1⟩
  refine FN.mono (same_c (ItC.ext ht hE04) hyt) ?_
  rintro _ w5 ⟨rfl,hE5⟩
  have hx5 := hx4.ext hE5
  have hk5 : (k = 5 → n ≤ 1) := fun h => by rcases hf with h' | h' | h' <;> omega
  have hE05 := hE04.trans hE5
  refine with_tail (T := ∀ (σ : Env) (W : World),(σ 1 = ptr b1) → ItBx W b1 k n (.slice ba bm bc) ⟨#[]⟩ (.slice la lm lc) → Ext w5 W → FNt Tryz.prog 195 [.bool true,i64 2] W (RC ?dB ?KB ?QB σ []) Tok.mk) (fun tail => ?br2) ?jn2
  case br2 =>
   by_cases h5 : k = 5
   ·have hn1 := hk5 h5
    simp [e1,hx5.c0,hx5.c1,h5,hn1]
    refine tail _ _ ?_ hx5 (Ext.refl _)
    simp [e1]
   ·simp [e1,hx5.c0,h5]
    refine tail _ _ ?_ hx5 (Ext.refl _)
    simp [e1]
  case jn2 =>
   rintro σ w6 e1 hx6 hE6
   refine FN.mono (must_c 2 w6) ?_
   rintro _ w7 ⟨⟨u,rfl⟩,hw⟩
   subst hw
   simp [e1,hx6.c4]
   have hE06 := hE05.trans hE6
   have hl6 := SlB.ext hl hE06
   have hc6 := ItPs.ext hc hE06
   refine FN.mono (vals_c (a := la) (n := lm) (c := lc)) ?_
   rintro _ w8 ⟨bv,rfl,vv,hE8,hbv⟩
   simp
   have hE68 := hE06.trans hE8
   obtain ⟨xs,hxs,hxl⟩ := itPs_ic hc
   have hcl : css.length = l.length := (itCs_iff.1 hc).1
   have hsl8 : SlB w8 5 (.slice la lm lc) xs.length (xs.flatMap IC.cs) := by
    have := SlB.ext hl6 hE8
    rw [hxs] at this
    rw [hxl]
    simpa [List.flatMap_def] using this
   have hit := vals_it vv hsl8 (by omega)
   refine WC_rangeFuncA (gf := 287) (first := #[]) (caps := #[ptr bv]) (enc := fun x : IC => [.agg x.cs.toArray]) (by simp) (fun _ _ => callFunc_enter Tryz.func287 rfl rfl _ _) hit (fun x => rfl) (fun _ => False)
    (fun C pre W => (∀ k,¬ C k) ∧ Ext w8 W) (fun _ _ _ _ => False)
    (fun k hk => ?_) (fun k hk => hk.elim) ?_ (fun _ _ _ _ _ h _ => h.elim) ⟨fun _ h => h,Ext.refl _⟩ (fun x B ρ' W' => ∃ b,ρ' 7 = ptr b ∧ B ≤ b ∧ ItBx W' b x.k x.n (.slice x.a x.m x.c) x.s (.slice x.a' x.m' x.c')) ?_ ?_ ?_ ?_ (fun _ _ _ _ _ h _ => h.elim)
   ·rcases hk with rfl | ⟨hne, rfl⟩
    ·exact ⟨vv.lt,id⟩
    ·have h0 := List.length_pos_iff.2 hne
     exact ⟨hsl8.lt (by have := hsl8.len; omega),id⟩
   ·rintro C pre W W' ⟨h1,h2⟩ hag
    exact ⟨h1,((h2.mod (S := fun _ => False)).agr_old hag).ext fun _ h => h.elim⟩
   ·rintro x B ρ' W W' ⟨b,h1,h2,h3⟩ hag
    exact ⟨b,h1,h2,h3.keep (hag.blk b h3.lt h2)⟩
   ·intro lp x W
    simp
    exact ⟨(Ext.refl W).alloc _,ItBx.new W _ _ _ _ _ 160⟩
   ·rintro lp C pre x B ρ' W hsp ⟨h1,h2⟩ hl1' hl2 - hBW ⟨b,e7,hB,hx⟩
    obtain ⟨_,suf,hsuf⟩ := hsp
    have hql : pre.length < xs.length := by rw [hsuf]; simp
    have hxq : xs[pre.length]? = some x := by rw [hsuf]; simp
    have hcx : css[pre.length]? = some x.cs := by rw [hxs,List.getElem?_map,hxq]; rfl
    have hlq : pre.length < l.length := by omega
    have hix := (itCs_iff.1 hc).2 pre.length l[pre.length] x.cs (List.getElem?_eq_getElem hlq) hcx
    simp [e7,hx.c0,hx.c1,hx.c2,hx.c3,hx.c4]
    refine FN.mono (ih l[pre.length] (List.getElem_mem hlq) W x.cs (ItC.ext hix (hE68.trans h2))) ?_
    rintro _ W2 ⟨⟨u2,rfl⟩,hE⟩
    simp
    exact ⟨C,⟨h1,h2.trans hE⟩,Own.of_mod (hE.mod (S := C))⟩
   ·rintro C ys W rfl ⟨h1,h2⟩ hD
    simp
    refine LV_mark hD (by simp) ?_
    simp
    exact ((hE68.trans h2).mod (S := fun k => w.heap.size ≤ k)).trans ((Mod.putObj w8.heap.size (.deferred none)).weaken fun k hk => by have := hE68.size; omega) |>.ext fun _ h => h
end Go.Proofs
namespace Go.Proofs
open Pk
set_option maxRecDepth 10000
attribute [local simp] beq_dec bne_dec prod_eta
theorem cright_c {t : It} (h : Fine t) : ∀ {w : World} {cs : List Value}, ItC w t cs → FN Tryz.prog 194 [.agg cs.toArray] w fun e w' => (∃ u, e = .returned u) ∧ Ext w w' := by
 induction h with
 | uint n => intro w cs ht; exact right_n (.inl ⟨rfl,rfl⟩) (fun x hx => by simp at hx) ht
 | bool n h => intro w cs ht; exact right_n (.inr (.inl ⟨rfl,h,rfl⟩)) (fun x hx => by simp at hx) ht
 | list l h ih => intro w cs ht; exact right_n (.inr (.inr ⟨rfl,rfl⟩)) (fun x hx w cs hc => ih x hx hc) ht
theorem max_c {w : World} {v : Value} {ms : List Int} (h : Sl w 1 v ms.length (ms.map i64)) (h0 : 0 < ms.length) (hb : ms.length ≤ 9223372036854775807) {d : Int} (hd : ∀ m ∈ ms, 0 ≤ m ∧ m ≤ d) :
  FN Tryz.prog 252 [v] w fun e w' => ∃ m,e = .returned (i64 m) ∧ 0 ≤ m ∧ m ≤ d ∧ w' = w := by
 refine FN_enter Tryz.func252 rfl rfl (by kernel_rfl) ?_
 have hlen := fun ty W => h.isLen (P := Tryz.prog) (t := 191) (by simp) ty W
 have h1 : ¬ ((ms.length : Int) < 1) := by omega
 have ix0 := fun W => h.index (P := Tryz.prog) (t := 191) (by simp) .i64 0 (by omega) (by omega) W
 have a0 := h.at_ 0 (i64 ms[0]) (by rw [List.getElem?_map,List.getElem?_eq_getElem h0]; rfl)
 simp at ix0 a0
 simp [hlen,h1,ix0,a0]
 refine WC_loop (fun k ρ ds w' => ∃ (i : Nat) (m : Int),k = ms.length - i ∧ 1 ≤ i ∧ i ≤ ms.length ∧ ρ 0 = v ∧ ρ 3 = i64 m ∧ ρ 4 = i64 i ∧ ds = [] ∧ w' = w ∧ 0 ≤ m ∧ m ≤ d) (ms.length - 1) ⟨1,ms[0],rfl,by omega,by omega,by simp,by simp,by simp,rfl,rfl,hd _ (List.getElem_mem h0)⟩ ?_
 rintro k ρ ds w1 ⟨i,m,rfl,h1',hi,e0,e3,e4,rfl,rfl,hm⟩
 by_cases hlt : i < ms.length
 ·have ix := h.index (P := Tryz.prog) (t := 191) (by simp) .i64 i (by omega) (by omega) w1
  have a := h.at_ i (i64 ms[i]) (by rw [List.getElem?_map,List.getElem?_eq_getElem hlt]; rfl)
  simp at ix
  have hmi := hd _ (List.getElem_mem hlt)
  simp [e0,e3,e4,hlen,hlt,ix,a]
  exact ⟨ms.length - (i + 1),by omega,i + 1,rfl,by omega,by omega,by rw [wrap64 _ (by omega) (by omega)]; rfl,by omega,by omega⟩
 ·have : i = ms.length := by omega
  simp [e0,e3,e4,hlen,hlt]
  exact hm
theorem madei_c {w : World} {v : Value} {l : List It} {css : List (List Value)} {f : FuncId} {d : Int} (h : SlB w 5 v l.length css.flatten) (hc : ItCs w l css) (hb : l.length ≤ 1000000)
  (hf : ∀ x ∈ l,∀ (W : World) (cs : List Value),ItC W x cs → FN Tryz.prog f [.agg cs.toArray] W fun e W' => ∃ m,e = .returned (i64 m) ∧ 1 ≤ m ∧ m ≤ d ∧ Ext W W') :
  FN Tryz.prog 253 [v,.func (.func f) #[] #[]] w fun e w' => ∃ (v' : Value) (ms : List Int),e = .returned v' ∧ w'.ownsRow w.heap.size 3 1 v' l.length (ms.map i64) ∧ ms.length = l.length ∧ (∀ m ∈ ms,1 ≤ m ∧ m ≤ d) ∧ Ext w w' := by
 refine FN_enter Tryz.func253 rfl rfl (by kernel_rfl) ?_
 have hlen := fun ty W => h.isLen (P := Tryz.prog) (t := 158) (by simp) ty W
 simp [hlen]
 refine WC_loop (fun k ρ ds w' => ∃ (i : Nat) (u : Value) (ms : List Int), k = l.length - i ∧ i ≤ l.length ∧ ρ 1 = .func (.func f) #[] #[] ∧ ρ 4 = u ∧ ρ 7 = v ∧ ρ 8 = i64 l.length ∧ ρ 9 = i64 i ∧ ds = [] ∧ Ext w w' ∧ w'.ownsRow w.heap.size 3 1 u i (ms.map i64) ∧ ms.length = i ∧ ∀ m ∈ ms, 1 ≤ m ∧ m ≤ d) l.length
  ⟨0,.slice none 0 0,[],by simp,by simp,by simp,by simp,by simp,by simp,by simp,rfl,Ext.refl _,World.ownsRow_nil _ _ _ _,rfl,fun _ h => by simp at h⟩ ?_
 rintro k ρ ds w1 ⟨i,u,ms,rfl,hi,e1,e4,e7,e8,e9,rfl,hE,ho,hml,hms⟩
 by_cases hlt : i < l.length
 ·obtain ⟨bv,lv,g1,g2,g3⟩ := itRow' (h.ext hE) (ItPs.ext hc hE) hlt
  obtain ⟨⟨ba,bm,bc,rfl⟩,⟨la,lm,lc,rfl⟩⟩ := itC_slices g2
  have ix := fun W => h.index (P := Tryz.prog) (t := 158) (by simp) .i64 i (by omega) (by omega) W
  simp at ix
  simp [e1,e4,e7,e8,e9,hlt,ix,g3.c0,g3.c1,g3.c2,g3.c3,g3.c4]
  have hE2 : Ext w1 (w1.alloc (.cells #[i64 l[i].k,u64 l[i].n,.slice ba bm bc,.string l[i].s,.slice la lm lc] 160)) := (Ext.refl w1).alloc _
  generalize (w1.alloc (.cells #[i64 l[i].k,u64 l[i].n,.slice ba bm bc,.string l[i].s,.slice la lm lc] 160)) = w2 at *
  refine FN.mono (hf l[i] (List.getElem_mem hlt) w2 _ (g2.ext hE2)) ?_
  rintro _ w3 ⟨m,rfl,hm1,hm2,hE3⟩
  simp
  have hE4 : Ext w3 (w3.alloc (.cells #[i64 m] 3)) := (Ext.refl w3).alloc _
  have h1 : Sl (w3.alloc (.cells #[i64 m] 3)) 1 (.slice (some ⟨w3.heap.size,0,none⟩) 1 1) 1 [i64 m] := Sl.made w3 [i64 m] 3 1 1 rfl
  have s0 := hE.size
  have s4 := (hE2.trans (hE3.trans hE4)).size
  have ho4 := own_ext ho (hE2.trans (hE3.trans hE4))
  obtain ⟨v',w5,hr,ho5,hM5,-⟩ := append_own (P := Tryz.prog) (t := 191) (ty := 191) (e := 3) (s := 1) (by simp) (by simp) (by kernel_rfl) ho4 h1 (fun u hu => by simp at hu; rw [hu]; rfl) (by omega) (by omega)
  simp [hr,e1,e7,e8,e9]
  refine ⟨l.length - (i + 1), by omega, i + 1, rfl, by omega, by rw [wrap64 _ (by omega) (by omega)]; rfl, ?_, ms ++ [m], by simpa using ho5, by simp [hml], fun z hz => ?_⟩
  ·exact (((hE.trans (hE2.trans (hE3.trans hE4))).mod (S := fun k => w.heap.size ≤ k)).trans (hM5.weaken fun k hk => by have := own_ge ho hk.1; omega)).ext fun _ h => h
  ·rcases List.mem_append.1 hz with hz | hz
   ·exact hms z hz
   ·simp at hz; subst hz; exact ⟨hm1,hm2⟩
 ·have : i = l.length := by omega
  subst this
  simp [e4,e8,e9]
  exact ⟨ms,ho,hml,hms,hE⟩
def DepLe : Nat → It → Prop
 | 0,_ => False
 | d + 1,t => (∀ x ∈ t.l,DepLe d x) ∧ t.l.length ≤ 1000000
theorem depth_c : ∀ (d : Nat) (t : It), d ≤ 1000 → DepLe d t → ∀ (w : World) (cs : List Value), ItC w t cs → FN Tryz.prog 196 [.agg cs.toArray] w fun e w' => ∃ m, e = .returned (i64 m) ∧ 1 ≤ m ∧ m ≤ d ∧ Ext w w'
 | 0,t,_,h => by exact h.elim
 | d + 1, t, hd, h => by
  intro w cs ht
  obtain ⟨k,n,b,s,l⟩ := t
  obtain ⟨bv,lv,css,rfl,hb,hl,hc,hb1,hl1⟩ := itC_mk.1 ht
  obtain ⟨⟨ba,bm,bc,rfl⟩,⟨la,lm,lc,rfl⟩⟩ := itC_slices ht
  obtain ⟨h1,h2⟩ := h
  simp only [It.l] at h1 h2
  refine FN_enter Tryz.func196 rfl rfl (by kernel_rfl) ?_
  simp
  have hE1 : Ext w (w.alloc (.cells #[i64 k,u64 n,.slice ba bm bc,.string s,.slice la lm lc] 160)) := (Ext.refl w).alloc _
  generalize (w.alloc (.cells #[i64 k,u64 n,.slice ba bm bc,.string s,.slice la lm lc] 160)) = w1 at *
  refine FN.mono (madei_c (d := d) (SlB.ext hl hE1) (ItPs.ext hc hE1) h2 (fun x hx W cs hcs => depth_c d x (by omega) (h1 x hx) W cs hcs)) ?_
  rintro _ w2 ⟨u,ms,rfl,ho,hml,hms,hE2⟩
  simp
  have hE3 : Ext w2 (w2.alloc (.cells #[i64 0] 3)) := (Ext.refl w2).alloc _
  have hz : Sl (w2.alloc (.cells #[i64 0] 3)) 1 (.slice (some ⟨w2.heap.size,0,none⟩) 1 1) 1 [i64 0] := Sl.made w2 [i64 0] 3 1 1 rfl
  have s2 := hE2.size
  have s3 := hE3.size
  obtain ⟨v',w4,hr,ho4,hM4,-⟩ := append_own (P := Tryz.prog) (t := 191) (ty := 191) (e := 3) (s := 1) (by simp) (by simp) (by kernel_rfl) (own_ext ho hE3) hz (fun u hu => by simp at hu; rw [hu]; rfl) (by omega) (by omega)
  simp [hr]
  have hrow : Sl w4 1 v' (ms ++ [0]).length ((ms ++ [0]).map i64) := by
   have := sl_of_own ho4
   simpa [hml] using this
  have hmx : ∀ m ∈ ms ++ [0], 0 ≤ m ∧ m ≤ (d : Int) := fun m hm => by
   rcases List.mem_append.1 hm with hm | hm
   ·have := hms m hm; omega
   ·simp at hm; subst hm; omega
  refine FN.mono (max_c (d := d) hrow (by simp) (by simp; omega) hmx) ?_
  rintro _ w5 ⟨m,rfl,hm0,hm1,hw⟩
  subst hw
  simp
  rw [wrap64 _ (by omega) (by omega)]
  refine ⟨by omega,by omega,?_⟩
  exact (((hE1.trans (hE2.trans hE3)).mod (S := fun k => w.heap.size ≤ k)).trans (hM4.weaken fun k hk => by have := own_ge ho hk.1; have := hE1.size; omega)).ext fun _ h => h
@[simp] theorem r_cap_slice (P : Program) (w : World) (t ty : TypeId) (a : Option Addr) (n c : Nat) (h : isS (P.underlying t) = true) : (Builtin.cap_ #[t] ty #[.slice a n c]).run P w = .ok (.int .i64 c) w := by
 have h' := run_und (isS_inv h) w
 simp [Builtin.cap_,h',goInt]
theorem sl_h {P : Program} {t : TypeId} (hs : isS (P.underlying t) = true) (a : Option Addr) (n c : Nat) (k : IntKind) (h : Int) (h0 : 0 ≤ h) (h1 : h ≤ c) (W : World) :
  (Instr.sliceAt t (.slice a n c) none (some (.int k h)) none).run P W = ((Go.sizeOf (elemT (P.underlying t))).run P W).andThen fun s w => .ok (sliced a 0 h.toNat c s) w := by
 rw [run_sliceAt_slice W t _ _ _ _ (elem_of hs),elemT_of hs,run_slice_h W t a n c (elem_of hs) k h h0 h1]
theorem grow_c (n : Nat) (hn : n ≤ 1000000) (w : World) : FN Tryz.prog 329 [.slice none 0 0, i64 n] w fun e w' => ∃ v, e = .returned v ∧ w'.ownsRow w.heap.size 5 1 v 0 [] ∧ Ext w w' := by
 refine FN_enter Tryz.func329 rfl rfl (by kernel_rfl) ?_
 have h1 : ¬ ((n : Int) < 0) := by omega
 have q0 : IntKind.i64.wrap 0 = 0 := by decide
 have q1 : IntKind.i64.wrap (n : Int) = n := wrap64 _ (by omega) (by omega)
 by_cases h0 : n = 0
 ·subst h0
  simp [q0]
  exact ⟨World.ownsRow_nil w _ _ _,Ext.refl w⟩
 ·have hn0 : 0 < n := by omega
  have e0 := (Sl.nil w 1 0).sliceH (P := Tryz.prog) (t := 27) (by simp) .i64 0 (by omega) (by omega) w
  simp [slcH] at e0
  obtain ⟨⟨i,z,hi1,hi2,hi3,hi4,hi5⟩,hsz⟩ := elOk_inv (show elOk (Tryz.prog.info? 5) 1 = true by kernel_rfl)
  have hold : (Builtin.firstCells i.size 0 (.slice none 0 0)).run Tryz.prog w.drew = .ok ([] : List Value).toArray w.drew := run_firstCells_none _ _ _ _ _
  have hfit : Builtin.nextslicecap (0 + n) 0 * i.bytes ≤ 281474976710656 := growslice_fits (by omega) (by have := Nat.mul_le_mul (show 0 + n ≤ 1048576 by omega) hi5; omega)
  have hr := Go.Lib.run_append_grow_zeros (P := Tryz.prog) w 27 3 27 5 i z .i64 .i64 (by simp) (by simp) hi1 hi2 none 0 0 [] hold n hn0 (by omega) (by omega) (by omega) (by have := Nat.mul_le_mul (show n ≤ 1048576 by omega) hi5; omega) hfit
  rw [Nat.zero_add] at hr
  have hcap := grownCap_ge w n 0 5
  have hcapm := grownCap_le_maxLen w n 0 5 (by simp only [maxLen]; omega)
  generalize grownCap w n 0 5 = cap at *
  obtain ⟨cur,hcur⟩ : ∃ cur,cur = (([] : List Value).toArray ++ Builtin.zeroCells z.cells n ++ Builtin.zeroCells z.cells (cap - n)) := ⟨_,rfl⟩
  have hcs : cur.size = cap * 1 := by
   rw [hcur]
   have zs : ∀ m,(Builtin.zeroCells z.cells m).size = m * 1 := fun m => by rw [size_zeroCells,hi4]
   rw [Array.size_append,Array.size_append,zs,zs]
   simp
   omega
  rw [← hcur] at hr
  have hE : Ext w (w.drew.alloc (.cells cur 5)) := (Ext.drew w).alloc _
  have hob : (w.drew.alloc (.cells cur 5)).heap[w.heap.size]? = some (.cells cur 5 (0,0)) := by simpa using World.alloc_heap_new w.drew (.cells cur 5)
  have e1 := sl_h (P := Tryz.prog) (t := 27) (by simp) (some ⟨w.heap.size,0,none⟩) n cap .i64 0 (by omega) (by omega) (w.drew.alloc (.cells cur 5))
  simp [sliced] at e1
  simp [h1,q0,q1,hn0,e0,hr,e1]
  exact ⟨⟨rfl,.inr ⟨w.heap.size,cap,cur,rfl,Nat.le_refl _,hob,Nat.zero_le _,hcapm,hcs,by simp⟩⟩,hE⟩
def BRows (W : World) (vs : List Value) (bs : List (List Int)) : Prop := vs.length = bs.length ∧ ∀ (i : Nat) (x : Value) (b : List Int),vs[i]? = some x → bs[i]? = some b → Sl W 1 x b.length (b.map u8)
theorem len_take_le (bs : List (List Int)) (i : Nat) : (bs.take i).flatten.length ≤ bs.flatten.length := by
 have : bs.flatten = (bs.take i).flatten ++ (bs.drop i).flatten := by rw [← List.flatten_append,List.take_append_drop]
 rw [this,List.length_append]; omega
def btot (bs : List (List Int)) (i : Nat) : Nat := (bs.take i).flatten.length
theorem btot_le (bs : List (List Int)) (i : Nat) : btot bs i ≤ bs.flatten.length := len_take_le bs i
theorem btake (bs : List (List Int)) {i : Nat} (h : i < bs.length) : (bs.take (i + 1)).flatten = (bs.take i).flatten ++ bs[i] := by
 have : bs.take (i + 1) = bs.take i ++ [bs[i]] := by rw [List.take_add_one,List.getElem?_eq_getElem h]; rfl
 rw [this,List.flatten_append]
 simp
theorem btot_next (bs : List (List Int)) {i : Nat} (h : i < bs.length) : btot bs (i + 1) = btot bs i + bs[i].length := by
 unfold btot
 rw [btake bs h,List.length_append]
theorem btot_all (bs : List (List Int)) : btot bs bs.length = bs.flatten.length := by unfold btot; rw [List.take_length]
set_option maxHeartbeats 1000000 in
theorem concat_c {w : World} {v : Value} {vs : List Value} {bs : List (List Int)} (h : Sl w 1 v vs.length vs) (hv : BRows w vs bs) (hl : vs.length ≤ 1000000) (hb : bs.flatten.length ≤ 1000000) :
  FN Tryz.prog 308 [v] w fun e w' => ∃ v',e = .returned v' ∧ w'.ownsRow w.heap.size 5 1 v' bs.flatten.length (bs.flatten.map u8) ∧ Ext w w' := by
 refine FN_enter Tryz.func308 rfl rfl (by kernel_rfl) ?_
 have hlen := fun ty W => h.isLen (P := Tryz.prog) (t := 327) (by simp) ty W
 have hlb := hv.1
 have ix := fun (i : Nat) (hi : i < vs.length) W => h.index (P := Tryz.prog) (t := 327) (by simp) .i64 i (by omega) (by omega) W
 simp [hlen]
 refine WC_loop (fun k ρ ds w' => ∃ i : Nat,k = vs.length - i ∧ i ≤ vs.length ∧ ρ 0 = v ∧ ρ 3 = i64 (btot bs i) ∧ ρ 9 = v ∧ ρ 10 = i64 vs.length ∧ ρ 11 = i64 i ∧ ds = [] ∧ w' = w) vs.length ⟨0,by simp,by simp,by simp,by simp [btot],by simp,by simp,by simp,rfl,rfl⟩ ?_
 rintro k ρ ds w1 ⟨i,rfl,hi,e0,e3,e9,e10,e11,rfl,rfl⟩
 by_cases hlt : i < vs.length
 ·have hib : i < bs.length := by omega
  have hq := List.getElem?_eq_getElem hlt
  have hqb := List.getElem?_eq_getElem hib
  have hx := hv.2 i _ _ hq hqb
  have hxl := fun ty W => hx.isLen (P := Tryz.prog) (t := 27) (by simp) ty W
  have a := h.at_ i vs[i] hq
  have ix1 := ix i hlt w1
  simp at ix1
  have hle := btot_le bs (i + 1)
  have hnx := btot_next bs hib
  have wq : IntKind.i64.wrap ((btot bs i : Int) + (bs[i].length : Int)) = (btot bs (i + 1) : Int) := by rw [wrap64 _ (by omega) (by omega)]; omega
  have hneg : ¬ ((btot bs (i + 1) : Int) < 0) := by omega
  simp [e0,e3,e9,e10,e11,hlt,ix1,a,hxl,wq,hneg]
  exact ⟨vs.length - (i + 1),by omega,i + 1,rfl,by omega,rfl,by rw [wrap64 _ (by omega) (by omega)]; rfl⟩
 ·have : i = vs.length := by omega
  subst this
  simp [e3,e10,e11]
  have hbb := btot_le bs vs.length
  refine FN.mono (grow_c (btot bs vs.length) (by omega) w1) ?_
  rintro _ w2 ⟨u0,rfl,ho0,hE0⟩
  simp [e0,hlen]
  refine WC_loop (fun k ρ ds w' => ∃ (i : Nat) (u : Value), k = vs.length - i ∧ i ≤ vs.length ∧ ρ 6 = u ∧ ρ 25 = v ∧ ρ 26 = i64 vs.length ∧ ρ 27 = i64 i ∧ ds = [] ∧ Ext w1 w' ∧ w'.ownsRow w1.heap.size 5 1 u (btot bs i) ((bs.take i).flatten.map u8)) vs.length
   ⟨0,u0,by simp,by simp,by simp,by simp,by simp,by simp,rfl,hE0,by simpa [btot] using ho0⟩ ?_
  rintro k ρ ds w3 ⟨i,u,rfl,hi,e6,e25,e26,e27,rfl,hE,ho⟩
  by_cases hlt : i < vs.length
  ·have hib : i < bs.length := by omega
   have hq := List.getElem?_eq_getElem hlt
   have hqb := List.getElem?_eq_getElem hib
   have hx := (hv.2 i _ _ hq hqb).ext hE
   have a := (h.ext hE).at_ i vs[i] hq
   have ix1 := ix i hlt w3
   simp at ix1
   have hle := btot_le bs (i + 1)
   have hnx := btot_next bs hib
   have hsz := hE.size
   obtain ⟨v',w4,hr,ho4,hM4,-⟩ := append_own (P := Tryz.prog) (t := 27) (ty := 27) (e := 5) (s := 1) (by simp) (by simp) (by kernel_rfl) ho hx (fun u hu => by obtain ⟨z,-,rfl⟩ := List.mem_map.1 hu; rfl) (by omega) hsz
   simp [e6,e25,e26,e27,hlt,ix1,a,hr]
   refine ⟨vs.length - (i + 1), by omega, i + 1, rfl, by omega, by rw [wrap64 _ (by omega) (by omega)]; rfl, ?_, ?_⟩
   ·exact ((hE.mod (S := fun k => w1.heap.size ≤ k)).trans (hM4.weaken fun k hk => by have := own_ge ho hk.1; omega)).ext fun _ h => h
   ·rw [← List.map_take,← List.map_flatten,btake bs hib,hnx,List.map_append]
    exact ho4
  ·have : i = vs.length := by omega
   subst this
   simp [e6,e26,e27]
   rw [hlb,btot_all,List.take_length] at ho
   refine ⟨?_,hE⟩
   simpa using ho
theorem join_c {w : World} {v : Value} {vs : List Value} {bs : List (List Int)} (h : Sl w 1 v vs.length vs) (hv : BRows w vs bs) (hl : vs.length ≤ 1000000) (hb : bs.flatten.length ≤ 1000000) :
  FN Tryz.prog 280 [v] w fun e w' => ∃ v',e = .returned v' ∧ w'.ownsRow w.heap.size 5 1 v' bs.flatten.length (bs.flatten.map u8) ∧ Ext w w' := by
 refine FN_enter Tryz.func280 rfl rfl (by kernel_rfl) ?_
 simp
 refine FN.mono (concat_c h hv hl hb) ?_
 rintro _ w2 ⟨v',rfl,ho,hE⟩
 simp
 refine ⟨?_,hE⟩
 simpa using ho
end Go.Proofs
namespace Go.Proofs
open Pk
set_option maxRecDepth 10000
attribute [local simp] beq_dec bne_dec prod_eta
theorem own_one (W : World) (u : Value) (e : TypeId) : (W.alloc (.cells #[u] e)).ownsRow W.heap.size e 1 (.slice (some ⟨W.heap.size, 0, none⟩) 1 1) 1 [u] :=
 ⟨rfl,.inr ⟨W.heap.size,1,#[u],rfl,Nat.le_refl _,World.alloc_heap_new W _,Nat.le_refl _,by decide,rfl,rfl⟩⟩
def headB (major n : Int) : List Int := if n < 24 then [32 * major + n] else (32 * major + 24 + widX n) :: beN (widN n) n
theorem widN_is (n : Int) : isWid (widN n) := by
 unfold widN isWid
 by_cases h1 : n < 256
 ·simp [h1]
 by_cases h2 : n < 65536
 ·simp [h1,h2]
 by_cases h4 : n < 4294967296
 ·simp [h1,h2,h4]
 simp [h1,h2,h4]
theorem widN_fits (n : Int) : fitsB (widN n) n = true := by
 unfold widN fitsB
 by_cases h1 : n < 256
 ·simp [h1]
 by_cases h2 : n < 65536
 ·simp [h1,h2]
 by_cases h4 : n < 4294967296
 ·simp [h1,h2,h4]
 simp [h1,h2,h4]
theorem widN_ix (n : Int) : ixInt wsL (fun y => decide ((widN n : Int) = y)) = widX n := by
 rw [ix_ws]
 unfold widN widX
 by_cases h1 : n < 256
 ·simp [h1]
 by_cases h2 : n < 65536
 ·simp [h1,h2]
 by_cases h4 : n < 4294967296
 ·simp [h1,h2,h4]
 simp [h1,h2,h4]
theorem widN_le (n : Int) : widN n ≤ 8 := by
 unfold widN
 split
 ·omega
 split
 ·omega
 split <;> omega
theorem widX_b (n : Int) : 0 ≤ widX n ∧ widX n ≤ 3 := by
 unfold widX
 split
 ·omega
 split
 ·omega
 split <;> omega
theorem headB_len (major n : Int) : (headB major n).length ≤ 9 := by
 unfold headB
 split
 ·simp
 ·simp only [List.length_cons,beN_len]
  have := widN_le n
  omega
theorem head_c {major n : Int} (hm : 0 ≤ major ∧ major ≤ 7) (h0 : 0 ≤ n) (w : World) : FN Tryz.prog 278 [i64 major, u64 n] w fun e w' => ∃ v, e = .returned v ∧ w'.ownsRow w.heap.size 5 1 v (headB major n).length ((headB major n).map u8) ∧ Ext w w' := by
 refine FN_enter Tryz.func278 rfl rfl (by kernel_rfl) ?_
 have wu : ∀ m : Int,0 ≤ m → m < 256 → IntKind.u8.wrap m = m := fun m h1 h2 => by simp [IntKind.wrap,IntKind.signed,IntKind.bits]; omega
 have q : shlI IntKind.i64 major 5 = 32 * major := by
  unfold shlI
  rw [show min (5 : Int).toNat IntKind.i64.bits = 5 from by decide,wrap64 _ (by omega) (by omega)]
  omega
 have q1 := wu (32 * major) (by omega) (by omega)
 by_cases hn : n < 24
 ·have q2 := wu n h0 (by omega)
  have q3 := wu (32 * major + n) (by omega) (by omega)
  simp [hn,q,q1,q2,q3,headB]
  exact ⟨own_one w (u8 (32 * major + n)) 5,(Ext.refl w).alloc _⟩
 ·obtain ⟨hx0,hx1⟩ := widX_b n
  have q2 := wu (widX n) (by omega) (by omega)
  have q3 := wu (32 * major + 24) (by omega) (by omega)
  have q4 := wu (32 * major + 24 + widX n) (by omega) (by omega)
  have hH : headB major n = (32 * major + 24 + widX n) :: beN (widN n) n := by unfold headB; rw [if_neg hn]
  rw [hH]
  simp [hn,q,q1]
  refine FN.mono (least_c h0 w) ?_
  rintro _ w1 ⟨rfl,hE1⟩
  simp
  refine FN.mono (put_c (widN_is n) h0 (widN_fits n) w1) ?_
  rintro _ w2 ⟨b,rfl,hb,hE2⟩
  obtain ⟨ba,bc,rfl⟩ := own_val hb
  simp
  have hS := Sl.made w2 (wsL.map i64) 3 1 4 rfl
  have hE3 : Ext w2 (w2.alloc (.cells (wsL.map i64).toArray 3)) := (Ext.refl _).alloc _
  simp only [wsL,List.map_cons,List.map_nil] at hS hE3
  generalize (w2.alloc (.cells [i64 1,i64 2,i64 4,i64 8].toArray 3)) = w3 at *
  refine FN.mono (index_c (l := wsL) hS (by decide) (widN n)) ?_
  rintro _ w4 ⟨rfl,hw⟩
  subst hw
  rw [widN_ix]
  simp [q2,q3,q4]
  obtain ⟨c,hc⟩ : ∃ c,c = 32 * major + 24 + widX n := ⟨_,rfl⟩
  rw [← hc]
  have h1 := own_one w4 (u8 c) 5
  have hE5 : Ext w4 (w4.alloc (.cells #[u8 c] 5)) := (Ext.refl _).alloc _
  have z5 : (w4.alloc (.cells #[u8 c] 5)).heap.size = w4.heap.size + 1 := by simp
  generalize hw5 : (w4.alloc (.cells #[u8 c] 5)) = w5 at *
  obtain ⟨vs,hvs⟩ : ∃ vs,vs = [Value.slice (some ⟨w4.heap.size,0,none⟩) 1 1,Value.slice ba (widN n) bc] := ⟨_,rfl⟩
  have hE6 : Ext w5 (w5.alloc (.cells vs.toArray 27)) := (Ext.refl _).alloc _
  have h6 : Sl (w5.alloc (.cells vs.toArray 27)) 1 (.slice (some ⟨w5.heap.size, 0, none⟩) 2 2) vs.length vs := by
   have := Sl.made w5 vs 27 1 2 (by rw [hvs]; rfl)
   rw [hvs] at this ⊢; exact this
  have hR : BRows (w5.alloc (.cells vs.toArray 27)) vs [[c], beN (widN n) n] := by
   refine ⟨by rw [hvs]; rfl,fun i x b h1' h2' => ?_⟩
   rw [hvs] at h1'
   match i with
   | 0 => simp at h1' h2'; subst h1'; subst h2'; simpa using (sl_of_own h1).ext hE6
   | 1 =>
    simp at h1' h2'; subst h1'; subst h2'
    rw [beN_len]
    exact (sl_of_own hb).ext (hE3.trans (hE5.trans hE6))
   | i + 2 => simp at h1'
  have hj := join_c h6 hR (by rw [hvs]; simp) (by have := widN_le n; simp [beN_len]; omega)
  have hEa := hE1.trans (hE2.trans (hE3.trans (hE5.trans hE6)))
  rw [hvs,z5] at hj
  rw [hvs] at hEa
  refine FN.mono (hj) ?_
  rintro _ w7 ⟨v7,rfl,ho7,hE7⟩
  simp
  refine ⟨?_,hEa.trans hE7⟩
  have := own_lower ho7 hEa.size
  simpa using this
theorem own_disj {w : World} {b1 b2 e1 e2 s1 s2 n m : Nat} {u x : Value} {xs ys : List Value} (h1 : w.ownsRow b1 e1 s1 u n xs) (h2 : w.ownsRow b2 e2 s2 x m ys) (he : e1 ≠ e2) (hn : slN u = false) (hx : slN x = false) : slB x ≠ slB u := by
 intro e
 rcases h1.2 with ⟨rfl, -⟩ | ⟨g, cap, cur, rfl, -, hg, -⟩
 ·simp [slN] at hn
 ·rcases h2.2 with ⟨rfl, -⟩ | ⟨g', cap', cur', rfl, -, hg', -⟩
  ·simp [slN] at hx
  ·have e' : g' = g := e
   subst e'
   rw [hg] at hg'
   simp at hg'
   exact he hg'.2
def ORows (base : Nat) (W : World) (vs : List Value) (bs : List (List Int)) : Prop := vs.length = bs.length ∧ ∀ (i : Nat) (x : Value) (b : List Int),vs[i]? = some x → bs[i]? = some b → W.ownsRow base 5 1 x b.length (b.map u8)
theorem ORows.ext {base : Nat} {W W' : World} {vs : List Value} {bs : List (List Int)} (h : ORows base W vs bs) (hE : Ext W W') : ORows base W' vs bs := ⟨h.1,fun i x b h1 h2 => own_ext (h.2 i x b h1 h2) hE⟩
theorem ORows.lower {base base' : Nat} {W : World} {vs : List Value} {bs : List (List Int)} (h : ORows base W vs bs) (hb : base' ≤ base) : ORows base' W vs bs := ⟨h.1,fun i x b h1 h2 => own_lower (h.2 i x b h1 h2) hb⟩
theorem ORows.rows {base : Nat} {W : World} {vs : List Value} {bs : List (List Int)} (h : ORows base W vs bs) : BRows W vs bs := ⟨h.1,fun i x b h1 h2 => sl_of_own (h.2 i x b h1 h2)⟩
theorem ORows.mod {base base' n : Nat} {W W' : World} {u : Value} {xs vs : List Value} {bs : List (List Int)} (h : ORows base W vs bs) (ho : W.ownsRow base' 27 1 u n xs) (hM : Mod (fun k => slN u = false ∧ k = slB u) W W') : ORows base W' vs bs :=
 ⟨h.1,fun i x b h1 h2 => own_keep (h.2 i x b h1 h2) fun hn hl => hM.blk _ hl fun e => own_disj ho (h.2 i x b h1 h2) (by decide) e.1 hn e.2⟩
theorem ORows.snoc {base : Nat} {W : World} {vs : List Value} {bs : List (List Int)} (h : ORows base W vs bs) {x : Value} {b : List Int} (hx : W.ownsRow base 5 1 x b.length (b.map u8)) : ORows base W (vs ++ [x]) (bs ++ [b]) := by
 refine ⟨by simp [h.1],fun i y d hy hd => ?_⟩
 by_cases hi : i < vs.length
 ·rw [List.getElem?_append_left hi] at hy
  rw [List.getElem?_append_left (by rw [← h.1]; exact hi)] at hd
  exact h.2 i y d hy hd
 ·rw [List.getElem?_append_right (by omega)] at hy
  rw [List.getElem?_append_right (by rw [← h.1]; omega),← h.1] at hd
  cases hj : i - vs.length with
  | zero => rw [hj] at hy hd; simp at hy hd; subst hy; subst hd; exact hx
  | succ j => rw [hj] at hy; simp at hy
theorem ORows.cons {base : Nat} {W : World} {vs : List Value} {bs : List (List Int)} (h : ORows base W vs bs) {x : Value} {b : List Int} (hx : W.ownsRow base 5 1 x b.length (b.map u8)) : ORows base W (x :: vs) (b :: bs) := by
 refine ⟨by simp [h.1],fun i y d hy hd => ?_⟩
 cases i with
 | zero => simp at hy hd; subst hy; subst hd; exact hx
 | succ i => exact h.2 i y d (by simpa using hy) (by simpa using hd)
theorem mader_c {w : World} {v : Value} {l : List It} {css : List (List Value)} {f : FuncId} {bs : List (List Int)} (h : SlB w 5 v l.length css.flatten) (hc : ItCs w l css) (hb : l.length ≤ 1000000) (hbl : bs.length = l.length)
  (hf : ∀ (i : Nat) (x : It) (b : List Int),l[i]? = some x → bs[i]? = some b → ∀ (W : World) (cs : List Value),ItC W x cs → FN Tryz.prog f [.agg cs.toArray] W fun e W' => ∃ v,e = .returned v ∧ W'.ownsRow W.heap.size 5 1 v b.length (b.map u8) ∧ Ext W W') :
  FN Tryz.prog 283 [v,.func (.func f) #[] #[]] w fun e w' => ∃ (v' : Value) (vs : List Value),e = .returned v' ∧ w'.ownsRow w.heap.size 27 1 v' l.length vs ∧ ORows w.heap.size w' vs bs ∧ (∀ u ∈ vs,u.oneCell' = true) ∧ Ext w w' := by
 refine FN_enter Tryz.func283 rfl rfl (by kernel_rfl) ?_
 have hlen := fun ty W => h.isLen (P := Tryz.prog) (t := 158) (by simp) ty W
 simp [hlen]
 refine WC_loop (fun k ρ ds w' => ∃ (i : Nat) (u : Value) (vs : List Value), k = l.length - i ∧ i ≤ l.length ∧ ρ 1 = .func (.func f) #[] #[] ∧ ρ 4 = u ∧ ρ 7 = v ∧ ρ 8 = i64 l.length ∧ ρ 9 = i64 i ∧ ds = [] ∧ Ext w w' ∧ w'.ownsRow w.heap.size 27 1 u i vs ∧ ORows w.heap.size w' vs (bs.take i) ∧ ∀ u ∈ vs, u.oneCell' = true) l.length
  ⟨0,.slice none 0 0,[],by simp,by simp,by simp,by simp,by simp,by simp,by simp,rfl,Ext.refl _,World.ownsRow_nil _ _ _ _,⟨by simp,fun _ _ _ h => by simp at h⟩,fun _ h => by simp at h⟩ ?_
 rintro k ρ ds w1 ⟨i,u,vs,rfl,hi,e1,e4,e7,e8,e9,rfl,hE,ho,hR,hone⟩
 by_cases hlt : i < l.length
 ·obtain ⟨bv,lv,g1,g2,g3⟩ := itRow' (h.ext hE) (ItPs.ext hc hE) hlt
  obtain ⟨⟨ba,bm,bc,rfl⟩,⟨la,lm,lc,rfl⟩⟩ := itC_slices g2
  have ix := fun W => h.index (P := Tryz.prog) (t := 158) (by simp) .i64 i (by omega) (by omega) W
  simp at ix
  have hbi := List.getElem?_eq_getElem (l := bs) (i := i) (by omega)
  simp [e1,e4,e7,e8,e9,hlt,ix,g3.c0,g3.c1,g3.c2,g3.c3,g3.c4]
  have hE2 : Ext w1 (w1.alloc (.cells #[i64 l[i].k,u64 l[i].n,.slice ba bm bc,.string l[i].s,.slice la lm lc] 160)) := (Ext.refl w1).alloc _
  generalize (w1.alloc (.cells #[i64 l[i].k,u64 l[i].n,.slice ba bm bc,.string l[i].s,.slice la lm lc] 160)) = w2 at *
  refine FN.mono (hf i l[i] _ (List.getElem?_eq_getElem hlt) hbi w2 _ (g2.ext hE2)) ?_
  rintro _ w3 ⟨z,rfl,hz,hE3⟩
  obtain ⟨za,zc,rfl⟩ := own_val hz
  simp
  obtain ⟨zv,hzv⟩ : ∃ zv,zv = Value.slice za bs[i].length zc := ⟨_,rfl⟩
  rw [← hzv] at hz ⊢
  have hE4 : Ext w3 (w3.alloc (.cells #[zv] 27)) := (Ext.refl w3).alloc _
  have h1 : Sl (w3.alloc (.cells #[zv] 27)) 1 (.slice (some ⟨w3.heap.size,0,none⟩) 1 1) 1 [zv] := Sl.made w3 [zv] 27 1 1 rfl
  have s0 := hE.size
  have s2 := hE2.size
  have s4 := (hE2.trans (hE3.trans hE4)).size
  have ho4 := own_ext ho (hE2.trans (hE3.trans hE4))
  obtain ⟨v',w5,hr,ho5,hM5,-⟩ := append_own (P := Tryz.prog) (t := 327) (ty := 327) (e := 27) (s := 1) (by simp) (by simp) (by kernel_rfl) ho4 h1 (fun u hu => by simp at hu; rw [hu,hzv]; rfl) (by omega) (by omega)
  simp [hr,e1,e7,e8,e9]
  have hR4 := hR.ext (hE2.trans (hE3.trans hE4))
  have hz4 := own_lower (own_ext hz hE4) (show w.heap.size ≤ w2.heap.size by omega)
  have hRn := (hR4.snoc hz4).mod ho4 hM5
  have htk : bs.take (i + 1) = bs.take i ++ [bs[i]] := by rw [List.take_add_one,hbi]; rfl
  refine ⟨l.length - (i + 1), by omega, i + 1, rfl, by omega, by rw [wrap64 _ (by omega) (by omega)]; rfl, ?_, vs ++ [zv], ho5, by rw [htk]; exact hRn, fun u' hu => ?_⟩
  ·exact (((hE.trans (hE2.trans (hE3.trans hE4))).mod (S := fun k => w.heap.size ≤ k)).trans (hM5.weaken fun k hk => by have := own_ge ho hk.1; omega)).ext fun _ h => h
  ·rcases List.mem_append.1 hu with hu | hu
   ·exact hone u' hu
   ·simp at hu; rw [hu,hzv]; rfl
 ·have : i = l.length := by omega
  subst this
  simp [e4,e8,e9]
  rw [← hbl,List.take_length] at hR
  exact ⟨vs,ho,hR,hone,hE⟩
inductive Wr : It → List Int → Prop
 | uint (n : Int) (h0 : 0 ≤ n) : Wr (uintI n) (headB 0 n)
 | bool (n : Int) (h0 : 0 ≤ n) (h : n ≤ 1) : Wr (.mk 5 n [] ⟨#[]⟩ []) [244 + n]
 | list (l : List It) (bs : List (List Int)) (hl : l.length ≤ 1000) (hb : bs.length = l.length) (hs : bs.flatten.length ≤ 100000) (h : ∀ (i : Nat) (x : It) (b : List Int),l[i]? = some x → bs[i]? = some b → Wr x b) : Wr (listI l) (headB 4 l.length ++ bs.flatten)
theorem w1_c {n : Int} (h0 : 0 ≤ n) {w : World} {cs : List Value} (ht : ItC w (uintI n) cs) : FN Tryz.prog 277 [.agg cs.toArray] w fun e w' => ∃ v, e = .returned v ∧ w'.ownsRow w.heap.size 5 1 v (headB 0 n).length ((headB 0 n).map u8) ∧ Ext w w' := by
 obtain ⟨a,m,c,a',m',c',rfl⟩ := itC_form ht
 refine FN_enter Tryz.func277 rfl rfl (by kernel_rfl) ?_
 simp [uintI,It.k,It.n,It.s]
 have hE1 : Ext w (w.alloc (.cells #[i64 1,u64 n,.slice a m c,.string ⟨#[]⟩,.slice a' m' c'] 160)) := (Ext.refl w).alloc _
 refine FN.mono (head_c ⟨by omega,by omega⟩ h0 _) ?_
 rintro _ w2 ⟨v,rfl,ho,hE2⟩
 simp
 exact ⟨own_lower ho hE1.size,hE1.trans hE2⟩
theorem w5_c {n : Int} (h0 : 0 ≤ n) (h : n ≤ 1) {w : World} {cs : List Value} (ht : ItC w (.mk 5 n [] ⟨#[]⟩ []) cs) : FN Tryz.prog 284 [.agg cs.toArray] w fun e w' => ∃ v, e = .returned v ∧ w'.ownsRow w.heap.size 5 1 v 1 [u8 (244 + n)] ∧ Ext w w' := by
 obtain ⟨a,m,c,a',m',c',rfl⟩ := itC_form ht
 refine FN_enter Tryz.func284 rfl rfl (by kernel_rfl) ?_
 have q2 : IntKind.u8.wrap (244 + IntKind.u8.wrap n) = 244 + n := by simp [IntKind.wrap,IntKind.signed,IntKind.bits]; omega
 simp [It.k,It.n,It.s,q2]
 have hE1 : Ext w (w.alloc (.cells #[i64 5,u64 n,.slice a m c,.string ⟨#[]⟩,.slice a' m' c'] 160)) := (Ext.refl w).alloc _
 have ho := own_one (w.alloc (.cells #[i64 5,u64 n,.slice a m c,.string ⟨#[]⟩,.slice a' m' c'] 160)) (u8 (244 + n)) 5
 exact ⟨by simpa using own_lower ho hE1.size,hE1.alloc _⟩
set_option maxHeartbeats 1000000 in
theorem w4_c {l : List It} {bs : List (List Int)} (hl : l.length ≤ 1000) (hb : bs.length = l.length) (hs : bs.flatten.length ≤ 100000)
  (ih : ∀ (i : Nat) (x : It) (b : List Int),l[i]? = some x → bs[i]? = some b → ∀ (W : World) (cs : List Value),ItC W x cs → FN Tryz.prog 197 [.agg cs.toArray] W fun e W' => ∃ v,e = .returned v ∧ W'.ownsRow W.heap.size 5 1 v b.length (b.map u8) ∧ Ext W W')
  {w : World} {cs : List Value} (ht : ItC w (listI l) cs) : FN Tryz.prog 282 [.agg cs.toArray] w fun e w' => ∃ v,e = .returned v ∧ w'.ownsRow w.heap.size 5 1 v (headB 4 l.length ++ bs.flatten).length ((headB 4 l.length ++ bs.flatten).map u8) ∧ Ext w w' := by
 obtain ⟨bv,lv,css,rfl,hbs,hlv,hc,hb1,hl1⟩ := itC_mk.1 ht
 obtain ⟨⟨ba,bm,bc,rfl⟩,⟨la,lm,lc,rfl⟩⟩ := itC_slices ht
 refine FN_enter Tryz.func282 rfl rfl (by kernel_rfl) ?_
 simp
 have hE1 : Ext w (w.alloc (.cells #[i64 4,u64 0,.slice ba bm bc,.string ⟨#[]⟩,.slice la lm lc] 160)) := (Ext.refl w).alloc _
 have x1 : ItBx (w.alloc (.cells #[i64 4,u64 0,.slice ba bm bc,.string ⟨#[]⟩,.slice la lm lc] 160)) w.heap.size 4 0 (.slice ba bm bc) ⟨#[]⟩ (.slice la lm lc) := ItBx.new w _ _ _ _ _ 160
 have z1 : (w.alloc (.cells #[i64 4,u64 0,.slice ba bm bc,.string ⟨#[]⟩,.slice la lm lc] 160)).heap.size = w.heap.size + 1 := by simp
 generalize (w.alloc (.cells #[i64 4,u64 0,.slice ba bm bc,.string ⟨#[]⟩,.slice la lm lc] 160)) = w1 at *
 obtain ⟨hb0,hhb⟩ : ∃ hb0,hb0 = headB 4 (l.length : Int) := ⟨_,rfl⟩
 have hbl : hb0.length ≤ 9 := by rw [hhb]; exact headB_len _ _
 rw [← hhb]
 have hlen := fun ty W => hlv.isLen (P := Tryz.prog) (t := 158) (by simp) ty W
 have q1 : IntKind.u64.wrap (l.length : Int) = l.length := by simp [IntKind.wrap,IntKind.signed,IntKind.bits]; omega
 refine WC_drawL 9 (.F 0 <| .F 1 <| .F 2 <| .F 3 <| .F 6 <| .F 7 <| .C 4 <| .D 5 <| .L 8 <| .W 5 <| .Z) (fun _ => false) (fun _ => false)
  (fun _ u W => ∃ v0,W.ownsRow w.heap.size 27 1 u 1 [v0] ∧ W.ownsRow w.heap.size 5 1 v0 hb0.length (hb0.map u8) ∧ v0.oneCell' = true) rfl (by kernel_rfl) (fun _ h => h) ?_ fun W hW => ?_
 ·rintro - u a b' ⟨v0,h1,h2,h3⟩ hag
  exact ⟨v0,own_ext h1 (agr_ext hag),own_ext h2 (agr_ext hag),h3⟩
 have hWE : Ext w1 W := hW ▸ Ext.drew _
 have x2 := x1.ext hWE
 simp [x2.c4,hlen,q1]
 refine FN.mono (head_c ⟨by omega,by omega⟩ (show (0 : Int) ≤ (l.length : Int) by omega) W) ?_
 rintro _ w2 ⟨v0,rfl,ho0,hE2⟩
 rw [← hhb] at ho0
 obtain ⟨a0,c0,rfl⟩ := own_val ho0
 simp
 refine KR_ext hE2 ?_
 simp
 have hEw2 := hE1.trans (hWE.trans hE2)
 refine RL_float (fun W1 h1 => ?_) ?_
 ·simp
  have h1' := agr_ext h1
  have s1 := (hEw2.trans h1').size
  exact ⟨(Ext.refl _).alloc _,.slice a0 hb0.length c0,own_lower (own_one W1 _ 27) s1,own_lower (own_ext ho0 (h1'.trans ((Ext.refl _).alloc _))) (hE1.trans hWE).size,rfl⟩
 simp
 refine RL_loose fun W3 h3 => ?_
 have hE3 := hEw2.trans h3
 simp
 refine FN.mono (mader_c (bs := bs) (SlB.ext hlv hE3) (ItPs.ext hc hE3) (by omega) hb (fun i x b hx hbb W cs hcs => ih i x b hx hbb W cs hcs)) ?_
 rintro _ W4 ⟨u4,vs,rfl,ho4,hR4,hone4,hE4⟩
 simp
 refine KR_ext hE4 ?_
 simp
 refine RL_wait fun u5 W5 h5 ⟨v0,hu5,hv0,hv1⟩ => ?_
 have hvl : vs.length = l.length := by rw [hR4.1,hb]
 have hE05 := hE3.trans (hE4.trans h5)
 have s05 := hE05.size
 obtain ⟨u6,W6,hr6,ho6,hM6,-⟩ := append_own (P := Tryz.prog) (t := 327) (ty := 327) (e := 27) (s := 1) (by simp) (by simp) (by kernel_rfl) hu5 (sl_of_own (own_ext ho4 h5)) hone4 (by omega) s05
 simp [hr6]
 have hR6 : ORows w.heap.size W6 (v0 :: vs) (hb0 :: bs) := (((hR4.ext h5).lower hE3.size).cons (b := hb0) hv0).mod hu5 hM6
 have hE06 : Ext w W6 := ((hE05.mod (S := fun k => w.heap.size ≤ k)).trans (hM6.weaken fun k hk => by have := own_ge hu5 hk.1; omega)).ext fun _ h => h
 have hrow : Sl W6 1 u6 (v0 :: vs).length (v0 :: vs) := by
  have := sl_of_own ho6
  have e : 1 + l.length = (v0 :: vs).length := by simp; omega
  rw [e] at this
  simpa using this
 refine FN.mono (join_c hrow hR6.rows (by simp; omega) (by simp at hs ⊢; omega)) ?_
 rintro _ W7 ⟨v7,rfl,ho7,hE7⟩
 simp
 refine ⟨?_,hE06.trans hE7⟩
 have := own_lower ho7 hE06.size
 simpa using this
theorem written_s {t : It} {f : Nat} {bs : List Int} (hf : mget wrM t.k = some f) (hc : ∀ (W : World) (cs : List Value), ItC W t cs → FN Tryz.prog f [.agg cs.toArray] W fun e W' => ∃ v, e = .returned v ∧ W'.ownsRow W.heap.size 5 1 v bs.length (bs.map u8) ∧ Ext W W')
  (w : World) (cs : List Value) (ht : ItC w t cs) : FN Tryz.prog 197 [.agg cs.toArray] w fun e w' => ∃ v,e = .returned v ∧ w'.ownsRow w.heap.size 5 1 v bs.length (bs.map u8) ∧ Ext w w' := by
 obtain ⟨a,m,c,a',m',c',rfl⟩ := itC_form ht
 refine FN_enter Tryz.func197 rfl rfl (by kernel_rfl) ?_
 simp
 have hE1 : Ext w (w.alloc (.cells #[i64 t.k,u64 t.n,.slice a m c,.string t.s,.slice a' m' c'] 160)) := (Ext.refl w).alloc _
 have x1 : ItBx (w.alloc (.cells #[i64 t.k,u64 t.n,.slice a m c,.string t.s,.slice a' m' c'] 160)) w.heap.size t.k t.n (.slice a m c) t.s (.slice a' m' c') := ItBx.new w _ _ _ _ _ 160
 generalize (w.alloc (.cells #[i64 t.k,u64 t.n,.slice a m c,.string t.s,.slice a' m' c'] 160)) = w1 at *
 refine WC_drawC 5 (.F 1 <| .F 2 <| .F 4 <| .C 0 <| .C 3 <| .Z) (fun _ => false) rfl (by kernel_rfl) fun W hW => ?_
 have hWE : Ext w1 W := hW ▸ Ext.drew _
 have x2 := x1.ext hWE
 simp [x2.c0,x2.c1,x2.c2,x2.c3,x2.c4]
 refine FN.mono (writes_c W) ?_
 rintro _ w2 ⟨r,rfl,hm,hE2⟩
 simp
 refine KR_ext hE2 ?_
 have hz : ∃ z,∀ w,(zeroValue 180).run Tryz.prog w = .ok z w := ⟨_,fun w => by simp; rfl⟩
 obtain ⟨z,hz⟩ := hz
 have hlk := hm.lookup (P := Tryz.prog) kKind twm (hz w2) t.k false
 rw [hf] at hlk
 simp at hlk
 simp [hlk]
 refine KR_same ?_
 have hE := hE1.trans (hWE.trans hE2)
 simp
 refine FN.mono (hc w2 _ (ht.ext hE)) ?_
 rintro _ w3 ⟨v,rfl,ho,hE3⟩
 simp
 exact ⟨own_lower ho hE.size,hE.trans hE3⟩
theorem written_c {t : It} {bs : List Int} (h : Wr t bs) : ∀ (w : World) (cs : List Value), ItC w t cs → FN Tryz.prog 197 [.agg cs.toArray] w fun e w' => ∃ v, e = .returned v ∧ w'.ownsRow w.heap.size 5 1 v bs.length (bs.map u8) ∧ Ext w w' := by
 induction h with
 | uint n h0 => exact written_s (f := 277) rfl fun W cs hc => w1_c h0 hc
 | bool n h0 h => exact written_s (f := 284) rfl fun W cs hc => w5_c h0 h hc
 | list l bs hl hb hs h ih => exact written_s (f := 282) rfl fun W cs hc => w4_c hl hb hs ih hc
end Go.Proofs
namespace Go.Proofs
open Pk
set_option maxRecDepth 10000
attribute [local simp] beq_dec bne_dec prod_eta
theorem ccaught_idle (a b : Value) (w : World) : CallsDIn (FR none) 0 Tryz.prog 192 #[a, b] .returning w fun e u' w' => (∃ v, e = .returned v) ∧ u' = .returning ∧ w' = w := by
 refine callsDIn_of_wpSIn Tryz.func192 rfl trivial fun c₀ cs hu => ?_
 apply wpSIn_seq
 apply wpSIn_region
 simp [wpOpsSIn,go_sem,recoverD,hu,Exit.thenS]
 apply wpSIn_seq
 apply wpSIn_region
 simp [wpOpsSIn,go_sem,Act.eval,Array.replicate,Exit.thenS]
 refine wpSIn_cond (t := false) (by simp [Act.eval]) ?_
 simp only [Bool.false_eq_true,if_false]
 refine wpSIn_of_wpIn rfl (wpIn_skip ?_)
 cases c₀
 simp_all [bodyPostS,results]
theorem LV_ccaught {rs : Array ResultVar} {R : Ending → World → Prop} {ρ : Env} {ds : List Deferred} {w : World} {a b : Value} (h : LV Tryz.prog rs R ρ ds .returning w) :
  LV Tryz.prog rs R ρ ({ target := .fn (.func 192) #[],args := #[a,b] } :: ds) .returning w := by
 refine ⟨by simp, .inr ⟨.func 192, #[], 192, #[a, b], rfl, ?_, ?_⟩⟩
 ·have := callFunc_enter Tryz.func192 rfl rfl #[a,b] w
  simp [invoke]
 ·refine (ccaught_idle a b w).mono ?_
  rintro e u' w' ⟨⟨v,rfl⟩,rfl,rfl⟩
  exact h
theorem encode_c {t : It} {bs : List Int} (hf : Fine t) (hd : DepLe 8 t) (hw : Wr t bs) (hb : bs.length ≤ 65536) {w : World} {cs : List Value} (ht : ItC w t cs) :
  FN Tryz.prog 149 [.agg cs.toArray] w fun e w' => ∃ v,e = .returned (.tuple #[v,i64 0]) ∧ Sl w' 1 v bs.length (bs.map u8) ∧ Ext w w' := by
 obtain ⟨a,m,c,a',m',c',rfl⟩ := itC_form ht
 refine FN_enter Tryz.func149 rfl rfl (by kernel_rfl) ?_
 simp
 have hE1 : Ext w (((w.alloc (.cells #[i64 t.k,u64 t.n,.slice a m c,.string t.s,.slice a' m' c'] 160)).alloc (.cells #[.slice none 0 0] 27)).alloc (.cells #[i64 0] 48)) := (((Ext.refl w).alloc _).alloc _).alloc _
 have x1 : ItBx (((w.alloc (.cells #[i64 t.k,u64 t.n,.slice a m c,.string t.s,.slice a' m' c'] 160)).alloc (.cells #[.slice none 0 0] 27)).alloc (.cells #[i64 0] 48)) w.heap.size t.k t.n (.slice a m c) t.s (.slice a' m' c') := (ItBx.new w _ _ _ _ _ 160).ext (((Ext.refl _).alloc _).alloc _)
 have v1 : Var (((w.alloc (.cells #[i64 t.k, u64 t.n, .slice a m c, .string t.s, .slice a' m' c'] 160)).alloc (.cells #[.slice none 0 0] 27)).alloc (.cells #[i64 0] 48)) (w.heap.size + 1) (.slice none 0 0) := by
  have := (Var.new (w.alloc (.cells #[i64 t.k,u64 t.n,.slice a m c,.string t.s,.slice a' m' c'] 160)) (.slice none 0 0) 27).ext ((Ext.refl _).alloc (.cells #[i64 0] 48))
  simpa using this
 have v2 : Var (((w.alloc (.cells #[i64 t.k, u64 t.n, .slice a m c, .string t.s, .slice a' m' c'] 160)).alloc (.cells #[.slice none 0 0] 27)).alloc (.cells #[i64 0] 48)) (w.heap.size + 1 + 1) (i64 0) := by
  have := Var.new ((w.alloc (.cells #[i64 t.k,u64 t.n,.slice a m c,.string t.s,.slice a' m' c'] 160)).alloc (.cells #[.slice none 0 0] 27)) (i64 0) 48
  simpa using this
 have z1 : (((w.alloc (.cells #[i64 t.k,u64 t.n,.slice a m c,.string t.s,.slice a' m' c'] 160)).alloc (.cells #[.slice none 0 0] 27)).alloc (.cells #[i64 0] 48)).heap.size = w.heap.size + 1 + 1 + 1 := by simp
 generalize (((w.alloc (.cells #[i64 t.k,u64 t.n,.slice a m c,.string t.s,.slice a' m' c'] 160)).alloc (.cells #[.slice none 0 0] 27)).alloc (.cells #[i64 0] 48)) = w1 at *
 refine FN.mono (cright_c hf (ht.ext hE1)) ?_
 rintro _ w2 ⟨⟨u,rfl⟩,hE2⟩
 have x2 := x1.ext hE2
 simp [x2.c0,x2.c1,x2.c2,x2.c3,x2.c4]
 refine FN.mono (depth_c 8 t (by omega) hd w2 _ (ht.ext (hE1.trans hE2))) ?_
 rintro _ w3 ⟨dd,rfl,hd1,hd2,hE3⟩
 have hd8 : dd ≤ 8 := by simpa using hd2
 simp [hd8]
 refine FN.mono (must_c 120 w3) ?_
 rintro _ w4 ⟨⟨u2,rfl⟩,hw4⟩
 rw [hw4]
 have x3 := x2.ext hE3
 simp [x3.c0,x3.c1,x3.c2,x3.c3,x3.c4]
 refine FN.mono (written_c hw w3 _ (ht.ext (hE1.trans (hE2.trans hE3)))) ?_
 rintro _ w5 ⟨v,rfl,ho,hE5⟩
 obtain ⟨av,cv,rfl⟩ := own_val ho
 have hE15 := hE2.trans (hE3.trans hE5)
 have y1 := v1.ext hE15
 have y2 := v2.ext hE15
 have s15 := hE15.size
 have s5 := (hE2.trans hE3).size
 have y1' := y1.set (.slice av bs.length cv)
 have m6 := (Mod.refl (fun k => k = w.heap.size + 1) w5).setC 0 (.slice av bs.length cv)
 have hbl : decide ((bs.length : Int) ≤ 65536) = true := by simp; omega
 simp [y1.cell,y1.thaw,cell_setCell,hbl]
 have y2' := y2.mod m6 (by omega)
 have hrow : Sl (w5.setCell ⟨w.heap.size + 1, 0, none⟩ (.slice av bs.length cv)) 1 (.slice av bs.length cv) bs.length (bs.map u8) :=
  sl_of_own (own_keep ho fun hn hl => m6.blk _ hl (by have := own_ge ho hn; omega))
 have hE6 : Ext w (w5.setCell ⟨w.heap.size + 1,0,none⟩ (.slice av bs.length cv)) := (hE1.trans hE15).setCell _ _ (by simp only; omega)
 generalize (w5.setCell ⟨w.heap.size + 1,0,none⟩ (.slice av bs.length cv)) = w6 at *
 refine FN.mono (must_c 3 w6) ?_
 rintro _ w7 ⟨⟨u3,rfl⟩,hw7⟩
 rw [hw7]
 simp [y1'.cell,y1'.thaw,y2'.cell,y2'.thaw,cell_setCell]
 refine LV_ccaught ?_
 simp [y1'.cell,y2'.cell,cell_setCell]
 have m7 : Mod (fun k => k = w.heap.size + 1 ∨ k = w.heap.size + 1 + 1) w6 ((w6.setCell ⟨w.heap.size + 1, 0, none⟩ (.slice av bs.length cv)).setCell ⟨w.heap.size + 1 + 1, 0, none⟩ (i64 0)) :=
  ((Mod.refl _ w6).setCell _ _ (.inl (.inl rfl))).setCell _ _ (.inl (.inr rfl))
 refine ⟨sl_keep hrow m7 fun hx e => ?_,((hE6.mod (S := fun k => w.heap.size ≤ k)).trans (m7.weaken fun k hk => by omega)).ext fun _ h => h⟩
 have hn := own_nil ho (by have := List.length_pos_iff.2 hx; simpa using this)
 have := own_ge ho hn
 rcases e with e | e <;> omega
end Go.Proofs