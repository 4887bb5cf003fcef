/-
 Contracts of the functions that the law reaches,step by step.
-/
import Derived.Test.YtdgkfilajbnhgaaGreatGfD
namespace Go.Proofs
open Pk
set_option maxRecDepth 10000
structure OnW (w : World) (g p : Nat) (v : Value) (L : List Ct) (t R : Nat) (M : ME) (a r : Nat) (m : VM) (lv : Value) : Prop where
 g : GrAt w g p v L t R M a r m
 gd : gdT M
 vm : vmOk m
 sl : ∀ p,(sps M p).length ≤ 255
 l : Sl w 5 lv L.length (L.flatMap ctC)
 ok : ∀ c ∈ L,CtOk c
 b : L.length ≤ 14
theorem OnW.ext {w w' : World} {g p t R a r : Nat} {v lv : Value} {L : List Ct} {M : ME} {m : VM} (h : OnW w g p v L t R M a r m lv) (hE : Ext w w') : OnW w' g p v L t R M a r m lv :=
 {h with g := h.g.ext hE,l := h.l.ext hE }
theorem sent_g {w : World} {g p t R a r : Nat} {v lv : Value} {L : List Ct} {M : ME} {m : VM} (h : OnW w g p v L t R M a r m lv) {c : Ct} (hc : CtOk c) {x n : Int} (hx : 0 ≤ x) (hn : 0 ≤ n) :
  FN Tryz.prog 13 [ptr g,ctV c,u64 x,u64 n] w fun e w' => e = .returned (.tuple #[u64 ((gSnt M m n c x).getD 0),.bool (gSnt M m n c x).isSome]) ∧ Ext w w' := by
 rw [gSnt_eq hc hn]
 exact sent_c h.g h.gd h.vm hc (h.sl _) (kys_ok _) hx hn
def accW (snt : Ct → Int → Option Int) (L : List Ct) (to' : Int) (d : Nat) (x : Wy) (n : Int) (l : List Ct) : Wy × Bool := l.foldl (onS snt (onW snt L to' (d - 1)) x n) (x,decide (n = to') && decide (0 < x.h))
theorem onW_eq (snt : Ct → Int → Option Int) (L : List Ct) (to' : Int) (d : Nat) (x : Wy) (n : Int) : onW snt L to' d x n = accW snt L to' d x n (if 0 < d then L else []) := by
 cases d with
 | zero => rfl
 | succ d => rfl
def OnI (snt : Ct → Int → Option Int) (L : List Ct) (to' : Int) (d : Nat) (x : Wy) (n : Int) (gv lv : Value) (bq bx b12 bb : Nat) (w2 : World) (k : Nat) (ρ : Env) (ds : List Deferred) (W : World) : Prop :=
 ∃ i : Nat, (k = L.length - i ∧ i ≤ L.length ∧ (0 < i → 0 < d)) ∧ (ρ 0 = gv ∧ ρ 1 = lv ∧ ρ 4 = u32 n ∧ ρ 5 = i64 d ∧ ρ 8 = ptr bq ∧ ρ 9 = ptr bx ∧ ρ 12 = ptr b12 ∧ ρ 14 = ptr bb) ∧ ρ 16 = i64 i ∧
  Blk W bb (wyC (accW snt L to' d x n (L.take i)).1) ∧ ρ 15 = .bool (accW snt L to' d x n (L.take i)).2 ∧ ds = [] ∧ Mod (fun k => k = bb) w2 W
theorem accW_step {snt : Ct → Int → Option Int} {L : List Ct} {to' : Int} {d : Nat} {x : Wy} {n : Int} {i : Nat} (hi : i < L.length) : accW snt L to' d x n (L.take (i + 1)) = onS snt (onW snt L to' (d - 1)) x n (accW snt L to' d x n (L.take i)) L[i] := by
 unfold accW
 rw [List.take_add_one,List.getElem?_eq_getElem hi,List.foldl_append]
 rfl
theorem onS_n {snt : Ct → Int → Option Int} {rec : Wy → Int → Wy × Bool} {w : Wy} {n : Int} {acc : Wy × Bool} {c : Ct} (h : c.fr = n → snt c w.a = none) : onS snt rec w n acc c = acc := by
 unfold onS
 split
 ·rename_i e
  rw [h e]
 ·rfl
theorem onS_g {snt : Ct → Int → Option Int} {rec : Wy → Int → Wy × Bool} {w : Wy} {n : Int} {acc : Wy × Bool} {c : Ct} {b : Int} (h : c.fr = n) (hs : snt c w.a = some b) :
  onS snt rec w n acc c = if (rec (nxW w c b) c.to').2 && (!acc.2 || decide (wyLt (rec (nxW w c b) c.to').1 acc.1)) then ((rec (nxW w c b) c.to').1,true) else acc := by
 unfold onS
 rw [if_pos h,hs]
theorem agr_alloc2 {W : World} {A B : Obj} {X : Nat → Bool} (h : ∀ k, X k = false → k < W.heap.size) : Agr (fun k => X k = false) (W.alloc A) (W.alloc B) :=
 ⟨rfl, rfl, rfl, by simp, fun i _ hi => by
  have := h i hi
  exact ((((Ext.refl W).alloc B).blk i this).trans (((Ext.refl W).alloc A).blk i this).symm)⟩
theorem Xf_lt {k b c : Nat} (h : Xf (fun k => b ≤ k) k = false) (hb : b ≤ c) : k < c := by
 have := Xf_not h
 omega
set_option maxHeartbeats 1000000 in
theorem on_c {w0 : World} {g p t R a r : Nat} {v lv nv : Value} {L : List Ct} {M : ME} {m : VM} (h0 : OnW w0 g p v L t R M a r m lv) {q : Qu} (hq : QuOk q) (hn : ∃ a n c, nv = .slice a n c) :
  ∀ (d : Nat) (w : World),Ext w0 w → ∀ (x : Wy) (n : Int),0 ≤ x.a → 0 ≤ x.h → x.h + d ≤ 1000 →
  FN Tryz.prog 23 [ptr g,lv,quV q nv,wyV x,u32 n,i64 d] w fun e w' => e = .returned (.tuple #[wyV (onW (gSnt M m q.size) L q.to' d x n).1,.bool (onW (gSnt M m q.size) L q.to' d x n).2]) ∧ Ext w w' := by
 obtain ⟨n1,n2,n3,rfl⟩ := hn
 obtain ⟨l1,l2,rfl⟩ := h0.l.isSlice
 intro d
 induction d using Nat.strongRecOn with
 | _ d ih =>
 intro w hX x n hxa hxh hxd
 refine FN_enter Tryz.func23 rfl rfl (by kernel_rfl) ?_
 have hE : Ext w (((w.alloc (.cells #[u32 q.fr,u32 q.to',u64 q.at_,u64 q.size,i64 q.most,(.slice n1 n2 n3)] 30)).alloc (.cells #[u64 x.a,i64 x.h,u32 x.n,u32 x.f.fr,u32 x.f.to',u64 x.f.sf,u64 x.f.su,u64 x.f.rate] 50)).alloc (.cells #[u64 0,i64 0,u32 0,u32 0,u32 0,u64 0,u64 0,u64 0] 50)) := (((Ext.refl w).alloc _).alloc _).alloc _
 have b8 : Blk (((w.alloc (.cells #[u32 q.fr,u32 q.to',u64 q.at_,u64 q.size,i64 q.most,(.slice n1 n2 n3)] 30)).alloc (.cells #[u64 x.a,i64 x.h,u32 x.n,u32 x.f.fr,u32 x.f.to',u64 x.f.sf,u64 x.f.su,u64 x.f.rate] 50)).alloc (.cells #[u64 0,i64 0,u32 0,u32 0,u32 0,u64 0,u64 0,u64 0] 50)) w.heap.size (quC q (.slice n1 n2 n3)) := (Blk.new w (quC q (.slice n1 n2 n3)) 30).ext (((Ext.refl _).alloc _).alloc _)
 have b9 : Blk (((w.alloc (.cells #[u32 q.fr, u32 q.to', u64 q.at_, u64 q.size, i64 q.most, (.slice n1 n2 n3)] 30)).alloc (.cells #[u64 x.a, i64 x.h, u32 x.n, u32 x.f.fr, u32 x.f.to', u64 x.f.sf, u64 x.f.su, u64 x.f.rate] 50)).alloc (.cells #[u64 0, i64 0, u32 0, u32 0, u32 0, u64 0, u64 0, u64 0] 50)) (w.heap.size + 1) (wyC x) := by
  have := (Blk.new (w.alloc (.cells #[u32 q.fr,u32 q.to',u64 q.at_,u64 q.size,i64 q.most,(.slice n1 n2 n3)] 30)) (wyC x) 50).ext ((Ext.refl _).alloc (.cells #[u64 0,i64 0,u32 0,u32 0,u32 0,u64 0,u64 0,u64 0] 50))
  simpa using this
 have b12 : Blk (((w.alloc (.cells #[u32 q.fr, u32 q.to', u64 q.at_, u64 q.size, i64 q.most, (.slice n1 n2 n3)] 30)).alloc (.cells #[u64 x.a, i64 x.h, u32 x.n, u32 x.f.fr, u32 x.f.to', u64 x.f.sf, u64 x.f.su, u64 x.f.rate] 50)).alloc (.cells #[u64 0, i64 0, u32 0, u32 0, u32 0, u64 0, u64 0, u64 0] 50)) (w.heap.size + 1 + 1) (wyC wyZ) := by
  have := Blk.new ((w.alloc (.cells #[u32 q.fr,u32 q.to',u64 q.at_,u64 q.size,i64 q.most,(.slice n1 n2 n3)] 30)).alloc (.cells #[u64 x.a,i64 x.h,u32 x.n,u32 x.f.fr,u32 x.f.to',u64 x.f.sf,u64 x.f.su,u64 x.f.rate] 50)) (wyC wyZ) 50
  simpa [wyZ] using this
 have z1 : (((w.alloc (.cells #[u32 q.fr,u32 q.to',u64 q.at_,u64 q.size,i64 q.most,(.slice n1 n2 n3)] 30)).alloc (.cells #[u64 x.a,i64 x.h,u32 x.n,u32 x.f.fr,u32 x.f.to',u64 x.f.sf,u64 x.f.su,u64 x.f.rate] 50)).alloc (.cells #[u64 0,i64 0,u32 0,u32 0,u32 0,u64 0,u64 0,u64 0] 50)).heap.size = w.heap.size + 1 + 1 + 1 := by simp
 simp
 generalize (((w.alloc (.cells #[u32 q.fr,u32 q.to',u64 q.at_,u64 q.size,i64 q.most,(.slice n1 n2 n3)] 30)).alloc (.cells #[u64 x.a,i64 x.h,u32 x.n,u32 x.f.fr,u32 x.f.to',u64 x.f.sf,u64 x.f.su,u64 x.f.rate] 50)).alloc (.cells #[u64 0,i64 0,u32 0,u32 0,u32 0,u64 0,u64 0,u64 0] 50)) = w1 at *
 have xf : ∀ k,k < w1.heap.size → Xf (fun k => w1.heap.size ≤ k) k = false := fun k hk => Xf_f (by omega)
 refine WC_drawC 12 (.F 0 <| .F 1 <| .F 2 <| .F 3 <| .F 4 <| .F 5 <| .F 6 <| .F 7 <| .F 8 <| .F 9 <| .C 10 <| .C 11 <| .Z) (Xf fun k => w1.heap.size ≤ k) rfl (by kernel_rfl) fun W hW => ?_
 have hd : Ext w1 W := hW ▸ Ext.drew _
 have d8 := b8.ext hd
 have d9 := b9.ext hd
 have x8 := xf w.heap.size (by omega)
 have x9 := xf (w.heap.size + 1) (by omega)
 have hEa : Ext w (W.alloc (.cells #[u64 x.a,i64 x.h,u32 x.n,u32 x.f.fr,u32 x.f.to',u64 x.f.sf,u64 x.f.su,u64 x.f.rate] 50)) := (hE.trans hd).trans ((Ext.refl W).alloc _)
 have hSw := (hE.trans hd).size
 have hds := hd.size
 simp [(d8).cell 1 _ rfl,(d9).cell 0 _ rfl,(d9).cell 1 _ rfl,(d9).cell 2 _ rfl,(d9).cell 3 _ rfl,(d9).cell 4 _ rfl,(d9).cell 5 _ rfl,(d9).cell 6 _ rfl,(d9).cell 7 _ rfl,x8,x9]
 refine with_tail (T := ∀ (σ : Env),(σ 0 = ptr g ∧ σ 1 = .slice l1 L.length l2 ∧ σ 4 = u32 n ∧ σ 5 = i64 d ∧ σ 8 = ptr w.heap.size ∧ σ 9 = ptr (w.heap.size + 1) ∧ σ 12 = ptr (w.heap.size + 1 + 1) ∧ σ 14 = ptr W.heap.size ∧ σ 15 = .bool (decide (n = q.to') && decide (0 < x.h)) ∧ σ 16 = i64 0) → WCt Tryz.prog 107 none ?dC ?dQ Tok.mk σ [] (W.alloc (.cells #[u64 x.a,i64 x.h,u32 x.n,u32 x.f.fr,u32 x.f.to',u64 x.f.sf,u64 x.f.su,u64 x.f.rate] 50))) (fun tail => ?br) ?jn
 case br =>
  by_cases hnt : n = q.to'
  ·by_cases hh : 0 < x.h
   ·simp [hnt,hh,(d9).cell 1 _ rfl,x9]
    refine KR_ext ((Ext.refl W).alloc _) ?_
    simp
    refine KR_mk (agr_alloc2 fun k hk => Xf_lt hk (by omega)) ?_
    simp
    refine tail _ ⟨?_,?_,?_,?_,?_,?_,?_,?_,?_,?_⟩ <;> simp [hnt,hh]
   ·simp [hnt,hh,(d9).cell 1 _ rfl,x9]
    refine KR_ext ((Ext.refl W).alloc _) ?_
    simp
    refine KR_mk (agr_alloc2 fun k hk => Xf_lt hk (by omega)) ?_
    simp
    refine tail _ ⟨?_,?_,?_,?_,?_,?_,?_,?_,?_,?_⟩ <;> simp [hnt,hh]
  ·simp [hnt,beq_dec]
   refine KR_ext ((Ext.refl W).alloc _) ?_
   simp
   refine KR_mk (agr_alloc2 fun k hk => Xf_lt hk (by omega)) ?_
   simp
   refine tail _ ⟨?_,?_,?_,?_,?_,?_,?_,?_,?_,?_⟩ <;> simp [hnt]
 case jn =>
  rintro σ ⟨s0,s1,s4,s5,s8,s9,s12,s14,s15,s16⟩
  obtain ⟨bb,hbb⟩ : ∃ k,k = W.heap.size := ⟨_,rfl⟩
  have cB : Blk (W.alloc (.cells #[u64 x.a,i64 x.h,u32 x.n,u32 x.f.fr,u32 x.f.to',u64 x.f.sf,u64 x.f.su,u64 x.f.rate] 50)) bb (wyC x) := hbb ▸ Blk.new W (wyC x) 50
  have hEb : Ext w1 (W.alloc (.cells #[u64 x.a,i64 x.h,u32 x.n,u32 x.f.fr,u32 x.f.to',u64 x.f.sf,u64 x.f.su,u64 x.f.rate] 50)) := hd.trans ((Ext.refl W).alloc _)
  have c8 := b8.ext hEb
  have c9 := b9.ext hEb
  have c12 := b12.ext hEb
  have zb : (W.alloc (.cells #[u64 x.a,i64 x.h,u32 x.n,u32 x.f.fr,u32 x.f.to',u64 x.f.sf,u64 x.f.su,u64 x.f.rate] 50)).heap.size = bb + 1 := by simp [hbb]
  rw [← hbb] at s14
  generalize W.alloc (.cells #[u64 x.a,i64 x.h,u32 x.n,u32 x.f.fr,u32 x.f.to',u64 x.f.sf,u64 x.f.su,u64 x.f.rate] 50) = w2 at *
  obtain ⟨snt,hsnt⟩ : ∃ f,f = gSnt M m q.size := ⟨_,rfl⟩
  rw [← hsnt]
  rw [onW_eq]
  refine WC_loop (OnI snt L q.to' d x n (ptr g) (.slice l1 L.length l2) w.heap.size (w.heap.size + 1) (w.heap.size + 1 + 1) bb w2) L.length ?_ ?_
  ·exact ⟨0,⟨by simp,by omega,by simp⟩,⟨s0,s1,s4,s5,s8,s9,s12,s14⟩,by simpa using s16,by simpa [accW] using cB,by simpa [accW] using s15,rfl,Mod.refl _ _⟩
  rintro k ρ ds W1 ⟨i,⟨rfl,hi,hdi⟩,⟨e0,e1,e4,e5,e8,e9,e12,e14⟩,e16,hbk,e15,rfl,hM⟩
  have lenL := fun ty W' => h0.l.isLen (P := Tryz.prog) (t := 22) (by simp) ty W'
  have hwW : Ext w W1 := (((hE.trans hEb).mod (S := fun k => w.heap.size ≤ k)).trans (hM.weaken fun k hk => by omega)).ext fun _ h => h
  have h0W := hX.trans hwW
  have f8 := c8.mod hM (by omega)
  have f9 := c9.mod hM (by omega)
  have f12 := c12.mod hM (by omega)
  have hll := h0.b
  have hml := hM.size
  have hbl := hbk.lt
  by_cases hil : i < L.length
  ·have hil' : (i : Int) < (L.length : Int) := by omega
   by_cases hdp : 0 < d
   ·have hdp' : (0 : Int) < (d : Int) := by omega
    have hOn := h0.ext h0W
    have rw1 := ctRow hOn.l hil
    have ix1 := fun W' => RPl.index hOn.l i hil W'
    have hci := hOn.ok L[i] (List.getElem_mem hil)
    have hstep := accW_step (snt := snt) (to' := q.to') (d := d) (x := x) (n := n) hil
    obtain ⟨c,hc⟩ : ∃ c,c = L[i] := ⟨_,rfl⟩
    have hcL : c ∈ L := hc ▸ List.getElem_mem hil
    rw [← hc] at rw1 hci hstep
    have hE3 : Ext W1 (W1.alloc (.cells #[u32 c.fr,u32 c.to',u64 c.sf,u64 c.su,u64 c.rate] 48)) := (Ext.refl W1).alloc _
    have k17 : Blk (W1.alloc (.cells #[u32 c.fr,u32 c.to',u64 c.sf,u64 c.su,u64 c.rate] 48)) W1.heap.size (ctC c) := Blk.new W1 (ctC c) 48
    have z3 : (W1.alloc (.cells #[u32 c.fr,u32 c.to',u64 c.sf,u64 c.su,u64 c.rate] 48)).heap.size = W1.heap.size + 1 := by simp
    simp [e0,e1,e5,e8,e9,e16,lenL,hil,hdp,ix1,rw1.c0,rw1.c1,rw1.c2,rw1.c3,rw1.c4,(f9).cell 0 _ rfl,(f8).cell 3 _ rfl]
    obtain ⟨cb,hcb⟩ : ∃ k,k = W1.heap.size := ⟨_,rfl⟩
    rw [← hcb] at k17 z3 ⊢
    generalize W1.alloc (.cells #[u32 c.fr,u32 c.to',u64 c.sf,u64 c.su,u64 c.rate] 48) = W2 at *
    refine FN.mono (sent_g (hOn.ext hE3) hci hxa hq.size.1) ?_
    rintro _ W3 ⟨rfl,hE4⟩
    have hE13 := hE3.trans hE4
    have g9 := f9.ext hE13
    have g8 := f8.ext hE13
    have g17 := k17.ext hE4
    have hbk3 := hbk.ext hE13
    have hM3 := hM.trans hE13.mod
    have hwW3 := hwW.trans hE13
    rw [← hsnt]
    have q1 : IntKind.i64.wrap ((i : Int) + 1) = (i : Int) + 1 := wrap64 _ (by omega) (by omega)
    have nx : ∀ (W : World), Mod (fun k => k = bb) w2 W → Blk W bb (wyC (accW snt L q.to' d x n (L.take (i + 1))).1) → ∀ (σ : Env), (σ 0 = ptr g ∧ σ 1 = .slice l1 L.length l2 ∧ σ 4 = u32 n ∧ σ 5 = i64 d ∧ σ 8 = ptr w.heap.size ∧ σ 9 = ptr (w.heap.size + 1) ∧ σ 12 = ptr (w.heap.size + 1 + 1) ∧ σ 14 = ptr bb) →
      σ 16 = i64 ((i : Int) + 1) → σ 15 = .bool (accW snt L q.to' d x n (L.take (i + 1))).2 → ∃ m',m' < L.length - i ∧ OnI snt L q.to' d x n (ptr g) (.slice l1 L.length l2) w.heap.size (w.heap.size + 1) (w.heap.size + 1 + 1) bb w2 m' σ [] W :=
     fun W h1 h2 σ h3 h4 h5 => ⟨L.length - (i + 1),by omega,i + 1,⟨rfl,by omega,fun _ => hdp⟩,h3,by rw [h4]; congr 1,h2,h5,rfl,h1⟩
    by_cases hfr : c.fr = n
    ·cases hs : snt c x.a with
     | none =>
      have hst : accW snt L q.to' d x n (L.take (i + 1)) = accW snt L q.to' d x n (L.take i) := by rw [hstep,onS_n fun _ => hs]
      simp [(g17).cell 0 _ rfl,e4,hfr,e16,q1]
      refine nx W3 hM3 (by rw [hst]; exact hbk3) _ ⟨?_,?_,?_,?_,?_,?_,?_,?_⟩ ?_ ?_ <;> simp [e0,e1,e4,e5,e8,e9,e12,e14,e15,hst]
     | some b =>
      have hob := (gSnt_sn h0.gd m q.size).up c x.a b (hsnt ▸ hs)
      have hrec := onS_g (rec := onW snt L q.to' (d - 1)) (acc := accW snt L q.to' d x n (L.take i)) hfr hs
      rw [← hstep] at hrec
      have q2 : IntKind.i64.wrap (x.h + 1) = x.h + 1 := wrap64 _ (by omega) (by omega)
      simp [(g17).cell 0 _ rfl,e4,e9,hfr,beq_dec,q2,(g9).cell 1 _ rfl,(g9).cell 2 _ rfl,(g9).cell 3 _ rfl,(g9).cell 4 _ rfl,(g9).cell 5 _ rfl,(g9).cell 6 _ rfl,(g9).cell 7 _ rfl]
      have hE5 : Ext W3 (W3.alloc (.cells #[u64 b,i64 (x.h + 1),u32 x.n,u32 x.f.fr,u32 x.f.to',u64 x.f.sf,u64 x.f.su,u64 x.f.rate] 50)) := (Ext.refl W3).alloc _
      have k20 : Blk (W3.alloc (.cells #[u64 b,i64 (x.h + 1),u32 x.n,u32 x.f.fr,u32 x.f.to',u64 x.f.sf,u64 x.f.su,u64 x.f.rate] 50)) W3.heap.size [u64 b,i64 (x.h + 1),u32 x.n,u32 x.f.fr,u32 x.f.to',u64 x.f.sf,u64 x.f.su,u64 x.f.rate] := Blk.new W3 [u64 b,i64 (x.h + 1),u32 x.n,u32 x.f.fr,u32 x.f.to',u64 x.f.sf,u64 x.f.su,u64 x.f.rate] 50
      obtain ⟨bo,hbo⟩ : ∃ k,k = W3.heap.size := ⟨_,rfl⟩
      rw [← hbo] at k20 ⊢
      generalize W3.alloc (.cells #[u64 b,i64 (x.h + 1),u32 x.n,u32 x.f.fr,u32 x.f.to',u64 x.f.sf,u64 x.f.su,u64 x.f.rate] 50) = W5 at *
      have l17 := g17.lt
      have l9 := g9.lt
      have q3 : IntKind.i64.wrap ((d : Int) - 1) = ((d - 1 : Nat) : Int) := by rw [wrap64 _ (by omega) (by omega)]; omega
      have u17 := g17.ext hE5
      have u9 := g9.ext hE5
      have u8 := g8.ext hE5
      by_cases hx0 : x.h = 0
      ·have hx0' : decide (x.h = 0) = true := decide_eq_true hx0
       have hnx : nxW x c b = ⟨b,x.h + 1,c.to',c⟩ := by unfold nxW; rw [if_pos hx0]
       simp only [hx0']
       simp
       refine WC_drawC 5 (.F 0 <| .F 1 <| .F 2 <| .F 3 <| .C 4 <| .Z) (Xf fun k => k = bo) rfl (by kernel_rfl) fun W6 hW6 => ?_
       have hd6 : Ext W5 W6 := hW6 ▸ Ext.drew _
       have x17 : Xf (fun k => k = bo) cb = false := Xf_f (by omega)
       have t20 := k20.ext hd6
       have t17 := u17.ext hd6
       simp [(t17).cell 0 _ rfl,(t17).cell 1 _ rfl,(t17).cell 2 _ rfl,(t17).cell 3 _ rfl,(t17).cell 4 _ rfl,x17,(t20).cell 2 _ rfl,t20.thaw]
       have hM6 := (Mod.refl (fun k => k = bo) W6).setC 2 (u32 c.to')
       refine KR_mk (Xf_agr hM6) ?_
       have v20 := t20.set 2 (u32 c.to')
       have v17 := t17.mod hM6 (by omega)
       have v8 := (u8.ext hd6).mod hM6 (by omega)
       have hX6 : Ext W3 (W6.setCell ⟨bo,2,none⟩ (u32 c.to')) := (((hE5.trans hd6).mod (S := fun k => W3.heap.size ≤ k)).trans (hM6.weaken fun k hk => by omega)).ext fun _ h => h
       simp only [List.set_cons_succ,List.set_cons_zero] at v20
       generalize W6.setCell ⟨bo,2,none⟩ (u32 c.to') = W7 at *
       have v20' := ((((v20.set 3 (u32 c.fr)).set 4 (u32 c.to')).set 5 (u64 c.sf)).set 6 (u64 c.su)).set 7 (u64 c.rate)
       simp only [List.set_cons_succ,List.set_cons_zero] at v20'
       have hM7 := (((((Mod.refl (fun k => k = bo) W7).setC 3 (u32 c.fr)).setC 4 (u32 c.to')).setC 5 (u64 c.sf)).setC 6 (u64 c.su)).setC 7 (u64 c.rate)
       have y17 := v17.mod hM7 (by omega)
       have y8 := v8.mod hM7 (by omega)
       have hX7 := (hX6.mod (S := fun k => W3.heap.size ≤ k)).trans (hM7.weaken fun k hk => by omega) |>.ext fun _ h => h
       simp [(v20).cell 3 _ rfl,(v20).cell 4 _ rfl,(v20).cell 5 _ rfl,(v20).cell 6 _ rfl,(v20).cell 7 _ rfl,v20.thaw,cell_setCell]
       generalize World.setCell _ ⟨bo,7,none⟩ _ = W8 at *
       simp [e0,e1,e5,e8,(y8).cell 0 _ rfl,(y8).cell 1 _ rfl,(y8).cell 2 _ rfl,(y8).cell 3 _ rfl,(y8).cell 4 _ rfl,(y8).cell 5 _ rfl,(v20').cell 0 _ rfl,(v20').cell 1 _ rfl,(v20').cell 2 _ rfl,(v20').cell 3 _ rfl,(v20').cell 4 _ rfl,(v20').cell 5 _ rfl,(v20').cell 6 _ rfl,(v20').cell 7 _ rfl,(y17).cell 1 _ rfl,q3]
       clear hM6 hM7 v20 v20' v17 v8 hX6 t20 t17 y17 y8
       rw [hnx] at hrec
       refine FN.mono (ih (d - 1) (by omega) W8 (hX.trans (hwW3.trans hX7)) ⟨b,x.h + 1,c.to',c⟩ c.to' (by simp only; omega) (by simp only; omega) (by simp only; omega)) ?_
       rintro _ W6 ⟨rfl,hE6⟩
       rw [← hsnt]
       generalize onW snt L q.to' (d - 1) ⟨b,x.h + 1,c.to',c⟩ c.to' = r at *
       have hE7 : Ext W6 (W6.alloc (.cells #[u64 r.1.a,i64 r.1.h,u32 r.1.n,u32 r.1.f.fr,u32 r.1.f.to',u64 r.1.f.sf,u64 r.1.f.su,u64 r.1.f.rate] 50)) := (Ext.refl W6).alloc _
       have k21 : Blk (W6.alloc (.cells #[u64 r.1.a,i64 r.1.h,u32 r.1.n,u32 r.1.f.fr,u32 r.1.f.to',u64 r.1.f.sf,u64 r.1.f.su,u64 r.1.f.rate] 50)) W6.heap.size (wyC r.1) := Blk.new W6 (wyC r.1) 50
       simp
       generalize W6.alloc (.cells #[u64 r.1.a,i64 r.1.h,u32 r.1.n,u32 r.1.f.fr,u32 r.1.f.to',u64 r.1.f.sf,u64 r.1.f.su,u64 r.1.f.rate] 50) = W7 at *
       have hX37 := hX7.trans (hE6.trans hE7)
       have hbk7 := hbk3.ext hX37
       have hM7 := hM3.trans hX37.mod
       have k21l := k21.lt
       have s36 := (hX7.trans hE6).size
       have lb3 := hbk3.lt
       obtain ⟨b21,hb21⟩ : ∃ k,k = W6.heap.size := ⟨_,rfl⟩
       rw [← hb21] at k21 k21l ⊢
       obtain ⟨r1,r2⟩ := r
       cases r2 with
       | false =>
        have hst : accW snt L q.to' d x n (L.take (i + 1)) = accW snt L q.to' d x n (L.take i) := by rw [hrec]; rfl
        simp [e16,q1]
        refine nx W7 hM7 (by rw [hst]; exact hbk7) _ ⟨?_,?_,?_,?_,?_,?_,?_,?_⟩ ?_ ?_ <;> simp [e0,e1,e4,e5,e8,e9,e12,e14,e15,hst]
       | true =>
        cases hA2 : (accW snt L q.to' d x n (L.take i)).2 with
        | false =>
         have hst : accW snt L q.to' d x n (L.take (i + 1)) = (r1,true) := by rw [hrec,hA2]; rfl
         simp [e14,e15,e16,hA2,q1,(k21).cell 0 _ rfl,(k21).cell 1 _ rfl,(k21).cell 2 _ rfl,(k21).cell 3 _ rfl,(k21).cell 4 _ rfl,(k21).cell 5 _ rfl,(k21).cell 6 _ rfl,(k21).cell 7 _ rfl,(hbk7).cell 0 _ rfl,(hbk7).cell 1 _ rfl,(hbk7).cell 2 _ rfl,(hbk7).cell 3 _ rfl,(hbk7).cell 4 _ rfl,(hbk7).cell 5 _ rfl,(hbk7).cell 6 _ rfl,(hbk7).cell 7 _ rfl,hbk7.thaw,cell_setCell]
         refine nx _ (hM7.trans (put8_mod W7 bb _ _ _ _ _ _ _ _)) (by rw [hst]; exact put8_blk hbk7 rfl _ _ _ _ _ _ _ _) _ ⟨?_,?_,?_,?_,?_,?_,?_,?_⟩ ?_ ?_ <;> simp [e0,e1,e4,e5,e8,e9,e12,e14,hst]
        | true =>
         simp [e14,e15,hA2,(k21).cell 0 _ rfl,(k21).cell 1 _ rfl,(k21).cell 2 _ rfl,(k21).cell 3 _ rfl,(k21).cell 4 _ rfl,(k21).cell 5 _ rfl,(k21).cell 6 _ rfl,(k21).cell 7 _ rfl,(hbk7).cell 0 _ rfl,(hbk7).cell 1 _ rfl,(hbk7).cell 2 _ rfl,(hbk7).cell 3 _ rfl,(hbk7).cell 4 _ rfl,(hbk7).cell 5 _ rfl,(hbk7).cell 6 _ rfl,(hbk7).cell 7 _ rfl]
         refine FN.mono (better_c r1 (accW snt L q.to' d x n (L.take i)).1 W7) ?_
         rintro _ W9 ⟨rfl,hE9⟩
         have hbk9 := hbk7.ext hE9
         have k21' := k21.ext hE9
         have hM9 := hM7.trans hE9.mod
         by_cases hlt : wyLt r1 (accW snt L q.to' d x n (L.take i)).1
         ·have hst : accW snt L q.to' d x n (L.take (i + 1)) = (r1,true) := by rw [hrec,hA2]; simp [hlt]
          rw [decide_eq_true hlt]
          simp [e14,e16,q1,(k21').cell 0 _ rfl,(k21').cell 1 _ rfl,(k21').cell 2 _ rfl,(k21').cell 3 _ rfl,(k21').cell 4 _ rfl,(k21').cell 5 _ rfl,(k21').cell 6 _ rfl,(k21').cell 7 _ rfl,(hbk9).cell 0 _ rfl,(hbk9).cell 1 _ rfl,(hbk9).cell 2 _ rfl,(hbk9).cell 3 _ rfl,(hbk9).cell 4 _ rfl,(hbk9).cell 5 _ rfl,(hbk9).cell 6 _ rfl,(hbk9).cell 7 _ rfl,hbk9.thaw,cell_setCell]
          refine nx _ (hM9.trans (put8_mod W9 bb _ _ _ _ _ _ _ _)) (by rw [hst]; exact put8_blk hbk9 rfl _ _ _ _ _ _ _ _) _ ⟨?_,?_,?_,?_,?_,?_,?_,?_⟩ ?_ ?_ <;> simp [e0,e1,e4,e5,e8,e9,e12,e14,hst]
         ·have hst : accW snt L q.to' d x n (L.take (i + 1)) = accW snt L q.to' d x n (L.take i) := by rw [hrec,hA2]; simp [hlt]
          rw [decide_eq_false hlt]
          simp [e16,q1]
          refine nx W9 hM9 (by rw [hst]; exact hbk9) _ ⟨?_,?_,?_,?_,?_,?_,?_,?_⟩ ?_ ?_ <;> simp [e0,e1,e4,e5,e8,e9,e12,e14,e15,hst]
      ·have hx0' : decide (x.h = 0) = false := decide_eq_false hx0
       have hnx : nxW x c b = ⟨b,x.h + 1,x.n,x.f⟩ := by unfold nxW; rw [if_neg hx0]
       simp only [hx0']
       simp [(u17).cell 1 _ rfl,(u8).cell 0 _ rfl,(u8).cell 1 _ rfl,(u8).cell 2 _ rfl,(u8).cell 3 _ rfl,(u8).cell 4 _ rfl,(u8).cell 5 _ rfl,(k20).cell 0 _ rfl,(k20).cell 1 _ rfl,(k20).cell 2 _ rfl,(k20).cell 3 _ rfl,(k20).cell 4 _ rfl,(k20).cell 5 _ rfl,(k20).cell 6 _ rfl,(k20).cell 7 _ rfl,e0,e1,e5,e8,q3]
       rw [hnx] at hrec
       refine FN.mono (ih (d - 1) (by omega) W5 (hX.trans (hwW3.trans hE5)) ⟨b,x.h + 1,x.n,x.f⟩ c.to' (by simp only; omega) (by simp only; omega) (by simp only; omega)) ?_
       rintro _ W6 ⟨rfl,hE6⟩
       rw [← hsnt]
       generalize onW snt L q.to' (d - 1) ⟨b,x.h + 1,x.n,x.f⟩ c.to' = r at *
       have hE7 : Ext W6 (W6.alloc (.cells #[u64 r.1.a,i64 r.1.h,u32 r.1.n,u32 r.1.f.fr,u32 r.1.f.to',u64 r.1.f.sf,u64 r.1.f.su,u64 r.1.f.rate] 50)) := (Ext.refl W6).alloc _
       have k21 : Blk (W6.alloc (.cells #[u64 r.1.a,i64 r.1.h,u32 r.1.n,u32 r.1.f.fr,u32 r.1.f.to',u64 r.1.f.sf,u64 r.1.f.su,u64 r.1.f.rate] 50)) W6.heap.size (wyC r.1) := Blk.new W6 (wyC r.1) 50
       simp
       generalize W6.alloc (.cells #[u64 r.1.a,i64 r.1.h,u32 r.1.n,u32 r.1.f.fr,u32 r.1.f.to',u64 r.1.f.sf,u64 r.1.f.su,u64 r.1.f.rate] 50) = W7 at *
       have hX37 := hE5.trans (hE6.trans hE7)
       have hbk7 := hbk3.ext hX37
       have hM7 := hM3.trans hX37.mod
       have k21l := k21.lt
       have s36 := (hE5.trans hE6).size
       have lb3 := hbk3.lt
       obtain ⟨b21,hb21⟩ : ∃ k,k = W6.heap.size := ⟨_,rfl⟩
       rw [← hb21] at k21 k21l ⊢
       obtain ⟨r1,r2⟩ := r
       cases r2 with
       | false =>
        have hst : accW snt L q.to' d x n (L.take (i + 1)) = accW snt L q.to' d x n (L.take i) := by rw [hrec]; rfl
        simp [e16,q1]
        refine nx W7 hM7 (by rw [hst]; exact hbk7) _ ⟨?_,?_,?_,?_,?_,?_,?_,?_⟩ ?_ ?_ <;> simp [e0,e1,e4,e5,e8,e9,e12,e14,e15,hst]
       | true =>
        cases hA2 : (accW snt L q.to' d x n (L.take i)).2 with
        | false =>
         have hst : accW snt L q.to' d x n (L.take (i + 1)) = (r1,true) := by rw [hrec,hA2]; rfl
         simp [e14,e15,e16,hA2,q1,(k21).cell 0 _ rfl,(k21).cell 1 _ rfl,(k21).cell 2 _ rfl,(k21).cell 3 _ rfl,(k21).cell 4 _ rfl,(k21).cell 5 _ rfl,(k21).cell 6 _ rfl,(k21).cell 7 _ rfl,(hbk7).cell 0 _ rfl,(hbk7).cell 1 _ rfl,(hbk7).cell 2 _ rfl,(hbk7).cell 3 _ rfl,(hbk7).cell 4 _ rfl,(hbk7).cell 5 _ rfl,(hbk7).cell 6 _ rfl,(hbk7).cell 7 _ rfl,hbk7.thaw,cell_setCell]
         refine nx _ (hM7.trans (put8_mod W7 bb _ _ _ _ _ _ _ _)) (by rw [hst]; exact put8_blk hbk7 rfl _ _ _ _ _ _ _ _) _ ⟨?_,?_,?_,?_,?_,?_,?_,?_⟩ ?_ ?_ <;> simp [e0,e1,e4,e5,e8,e9,e12,e14,hst]
        | true =>
         simp [e14,e15,hA2,(k21).cell 0 _ rfl,(k21).cell 1 _ rfl,(k21).cell 2 _ rfl,(k21).cell 3 _ rfl,(k21).cell 4 _ rfl,(k21).cell 5 _ rfl,(k21).cell 6 _ rfl,(k21).cell 7 _ rfl,(hbk7).cell 0 _ rfl,(hbk7).cell 1 _ rfl,(hbk7).cell 2 _ rfl,(hbk7).cell 3 _ rfl,(hbk7).cell 4 _ rfl,(hbk7).cell 5 _ rfl,(hbk7).cell 6 _ rfl,(hbk7).cell 7 _ rfl]
         refine FN.mono (better_c r1 (accW snt L q.to' d x n (L.take i)).1 W7) ?_
         rintro _ W9 ⟨rfl,hE9⟩
         have hbk9 := hbk7.ext hE9
         have k21' := k21.ext hE9
         have hM9 := hM7.trans hE9.mod
         by_cases hlt : wyLt r1 (accW snt L q.to' d x n (L.take i)).1
         ·have hst : accW snt L q.to' d x n (L.take (i + 1)) = (r1,true) := by rw [hrec,hA2]; simp [hlt]
          rw [decide_eq_true hlt]
          simp [e14,e16,q1,(k21').cell 0 _ rfl,(k21').cell 1 _ rfl,(k21').cell 2 _ rfl,(k21').cell 3 _ rfl,(k21').cell 4 _ rfl,(k21').cell 5 _ rfl,(k21').cell 6 _ rfl,(k21').cell 7 _ rfl,(hbk9).cell 0 _ rfl,(hbk9).cell 1 _ rfl,(hbk9).cell 2 _ rfl,(hbk9).cell 3 _ rfl,(hbk9).cell 4 _ rfl,(hbk9).cell 5 _ rfl,(hbk9).cell 6 _ rfl,(hbk9).cell 7 _ rfl,hbk9.thaw,cell_setCell]
          refine nx _ (hM9.trans (put8_mod W9 bb _ _ _ _ _ _ _ _)) (by rw [hst]; exact put8_blk hbk9 rfl _ _ _ _ _ _ _ _) _ ⟨?_,?_,?_,?_,?_,?_,?_,?_⟩ ?_ ?_ <;> simp [e0,e1,e4,e5,e8,e9,e12,e14,hst]
         ·have hst : accW snt L q.to' d x n (L.take (i + 1)) = accW snt L q.to' d x n (L.take i) := by rw [hrec,hA2]; simp [hlt]
          rw [decide_eq_false hlt]
          simp [e16,q1]
          refine nx W9 hM9 (by rw [hst]; exact hbk9) _ ⟨?_,?_,?_,?_,?_,?_,?_,?_⟩ ?_ ?_ <;> simp [e0,e1,e4,e5,e8,e9,e12,e14,e15,hst]
    ·have hst : accW snt L q.to' d x n (L.take (i + 1)) = accW snt L q.to' d x n (L.take i) := by rw [hstep,onS_n fun e => (hfr e).elim]
     have hfr' : decide (c.fr = n) = false := decide_eq_false hfr
     have hfr2 : (c.fr == n) = false := by simpa using hfr
     have hfr3 : (c.fr != n) = true := by simpa using hfr
     simp [(g17).cell 0 _ rfl,e4,hfr3,e16,q1]
     refine nx W3 hM3 (by rw [hst]; exact hbk3) _ ⟨?_,?_,?_,?_,?_,?_,?_,?_⟩ ?_ ?_ <;> simp [e0,e1,e4,e5,e8,e9,e12,e14,e15,hst]
   ·obtain rfl : i = 0 := by omega
    have hacc : accW snt L q.to' d x n (if 0 < d then L else []) = accW snt L q.to' d x n (L.take 0) := by rw [if_neg hdp]; rfl
    rw [hacc]
    generalize accW snt L q.to' d x n (L.take 0) = A at *
    simp [e1,e5,e16,lenL,hil,hdp,e14,e15,e12,(hbk).cell 0 _ rfl,(hbk).cell 1 _ rfl,(hbk).cell 2 _ rfl,(hbk).cell 3 _ rfl,(hbk).cell 4 _ rfl,(hbk).cell 5 _ rfl,(hbk).cell 6 _ rfl,(hbk).cell 7 _ rfl,(f12).cell 0 _ rfl,(f12).cell 1 _ rfl,(f12).cell 2 _ rfl,(f12).cell 3 _ rfl,(f12).cell 4 _ rfl,(f12).cell 5 _ rfl,(f12).cell 6 _ rfl,(f12).cell 7 _ rfl,f12.thaw,cell_setCell]
    exact (hwW.mod (S := fun k => w.heap.size ≤ k)).trans ((put8_mod W1 (w.heap.size + 1 + 1) _ _ _ _ _ _ _ _).weaken fun k hk => by omega) |>.ext fun _ h => h
  ·have hil' : ¬ (i : Int) < (L.length : Int) := by omega
   have hacc : accW snt L q.to' d x n (if 0 < d then L else []) = accW snt L q.to' d x n (L.take i) := by
    obtain rfl : i = L.length := by omega
    rw [List.take_length]
    split
    ·rfl
    ·have : L = [] := by
      have : ¬ 0 < L.length := fun h => by have := hdi h; omega
      cases L with
      | nil => rfl
      | cons => simp at this
     rw [this]
   rw [hacc]
   generalize accW snt L q.to' d x n (L.take i) = A at *
   simp [e1,e16,lenL,hil,e14,e15,e12,(hbk).cell 0 _ rfl,(hbk).cell 1 _ rfl,(hbk).cell 2 _ rfl,(hbk).cell 3 _ rfl,(hbk).cell 4 _ rfl,(hbk).cell 5 _ rfl,(hbk).cell 6 _ rfl,(hbk).cell 7 _ rfl,(f12).cell 0 _ rfl,(f12).cell 1 _ rfl,(f12).cell 2 _ rfl,(f12).cell 3 _ rfl,(f12).cell 4 _ rfl,(f12).cell 5 _ rfl,(f12).cell 6 _ rfl,(f12).cell 7 _ rfl,f12.thaw,cell_setCell]
   exact (hwW.mod (S := fun k => w.heap.size ≤ k)).trans ((put8_mod W1 (w.heap.size + 1 + 1) _ _ _ _ _ _ _ _).weaken fun k hk => by omega) |>.ext fun _ h => h
end Go.Proofs