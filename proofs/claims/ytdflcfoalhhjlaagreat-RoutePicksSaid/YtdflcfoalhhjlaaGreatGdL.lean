/-
 Contracts of the functions that the law reaches,step by step.
-/
import Derived.Test.YtdflcfoalhhjlaaGreatGrF
namespace Go.Proofs
open Pk
set_option maxRecDepth 10000
def firsts (L : List Ct) (q : Qu) : List Ct := (fromL L q.fr).filter fun c => !decide (c ∈ q.no)
theorem kidL_len (snt : Ct → Int → Option Int) (most : Nat) (xs : List Ct) {f : Ct → Tl} : (xs.flatMap fun c => Gr.kidL snt most (f c) c).length ≤ xs.length := by
 induction xs with
 | nil => simp
 | cons c xs ih =>
  rw [List.flatMap_cons,List.length_append,List.length_cons]
  have : (Gr.kidL snt most (f c) c).length ≤ 1 := by
   unfold Gr.kidL
   split
   ·split <;> simp
   ·simp
  omega
set_option maxHeartbeats 4000000 in
theorem ways_it {w : World} {S : Nat → Prop} {g p t R a r bg bq : Nat} {v nv : Value} {L : List Ct} {M : ME} {m : VM} {q : Qu} (h : Wst w S g p v L t R M a r m bg bq q nv) (hg : gdT M) (hm : vmOk m) (hsl : ∀ p, (sps M p).length ≤ 255) (hq : QuOk q)
  (hL : ∀ c ∈ L,CtOk c) (hl : L.length ≤ 14) (hnl : q.no.length ≤ 1000) (hS : ∀ k,S k → k < w.heap.size) :
  Iter Tryz.prog (.func (.func 120) #[] #[ptr bg,ptr bq]) (fun x : Tl => [tlV x]) (Gr.Full L (gSnt M m q.size) (firsts L q) q.at_ q.most.toNat) (Gr.Some' L (gSnt M m q.size) (firsts L q) q.at_ q.most.toNat) S w := by
 intro y C0 J Jx W hA hcap hC0 hJ hJx hyl h0
 have hAs := hA.size
 have hW : Wst W S g p v L t R M a r m bg bq q nv := h.mod (hA.mod (S' := fun k => ¬ k < w.heap.size) fun k hk => Decidable.not_not.1 hk) fun k hk hlt hn => hn hlt
 have hSn := gSnt_sn hg m q.size
 refine FN_enter Tryz.func120 rfl rfl (by kernel_rfl) ?_
 have hE : Ext W (((W.alloc (.cells #[.slice none 0 0] 211)).alloc (.cells #[ptr W.heap.size] 207)).alloc (.cells #[.func (.func 121) #[] #[ptr bg,ptr bq,ptr (W.heap.size + 1)]] 214)) := (((Ext.refl W).alloc _).alloc _).alloc _
 have vo : Blk (((W.alloc (.cells #[.slice none 0 0] 211)).alloc (.cells #[ptr W.heap.size] 207)).alloc (.cells #[.func (.func 121) #[] #[ptr bg,ptr bq,ptr (W.heap.size + 1)]] 214)) W.heap.size [.slice none 0 0] := (Blk.new W [.slice none 0 0] 211).ext (((Ext.refl _).alloc _).alloc _)
 have v4 : Var (((W.alloc (.cells #[.slice none 0 0] 211)).alloc (.cells #[ptr W.heap.size] 207)).alloc (.cells #[.func (.func 121) #[] #[ptr bg, ptr bq, ptr (W.heap.size + 1)]] 214)) (W.heap.size + 1) (ptr W.heap.size) := by
  have := (Var.new (W.alloc (.cells #[.slice none 0 0] 211)) (ptr W.heap.size) 207).ext ((Ext.refl _).alloc (.cells #[.func (.func 121) #[] #[ptr bg,ptr bq,ptr (W.heap.size + 1)]] 214))
  simpa using this
 have v5 : Var (((W.alloc (.cells #[.slice none 0 0] 211)).alloc (.cells #[ptr W.heap.size] 207)).alloc (.cells #[.func (.func 121) #[] #[ptr bg, ptr bq, ptr (W.heap.size + 1)]] 214)) (W.heap.size + 2) (.func (.func 121) #[] #[ptr bg, ptr bq, ptr (W.heap.size + 1)]) := by
  have := Var.new ((W.alloc (.cells #[.slice none 0 0] 211)).alloc (.cells #[ptr W.heap.size] 207)) (.func (.func 121) #[] #[ptr bg,ptr bq,ptr (W.heap.size + 1)]) 214
  simpa using this
 have hsz : (((W.alloc (.cells #[.slice none 0 0] 211)).alloc (.cells #[ptr W.heap.size] 207)).alloc (.cells #[.func (.func 121) #[] #[ptr bg,ptr bq,ptr (W.heap.size + 1)]] 214)).heap.size = W.heap.size + 3 := by simp
 simp
 refine WC_scope 0 _ rfl ?_
 simp
 generalize (((W.alloc (.cells #[.slice none 0 0] 211)).alloc (.cells #[ptr W.heap.size] 207)).alloc (.cells #[.func (.func 121) #[] #[ptr bg,ptr bq,ptr (W.heap.size + 1)]] 214)) = w1 at *
 refine WC_drawC 6 (.F 0 <| .F 1 <| .F 2 <| .F 3 <| .F 4 <| .F 5 <| .Z) (fun _ => false) rfl (by kernel_rfl) fun W2 hW2 => ?_
 have hE2 := hE.trans (hW2 ▸ Ext.drew w1)
 have hE12 : Ext w1 W2 := hW2 ▸ Ext.drew w1
 have g2 := hW.ext hE2
 simp [g2.vg.cell,g2.gr.blk.cell 0 _ rfl,g2.vq.cell 0 _ rfl]
 refine FN.mono (cfrom_c g2.gr.plan q.fr) ?_
 rintro _ w3 ⟨b5,b6,b,rfl,k5,k6,k7,hE3,l5,l6,l7⟩
 simp
 have hE13 := hE12.trans hE3
 have hE03 := hE2.trans hE3
 have g3 := g2.ext hE3
 have hs3 := g3.gr.plan.row
 have z1 := hE.size
 have z2 := hE12.size
 have z3 := hE3.size
 have hWS : ∀ (W' : World),Mod (fun k => W.heap.size ≤ k) W W' → Wst W' S g p v L t R M a r m bg bq q nv := fun W' hM => hW.mod hM fun k hk hlt => by have := hS k hk; omega
 refine WC_rangeFuncA (gf := 146) (first := #[]) (caps := #[ptr b5, ptr b6]) (enc := fun c : Ct => [ctV c]) (by simp) (fun _ _ => callFunc_enter Tryz.func146 rfl rfl _ _) (cfrom_it k5 k6 k7 hs3 (by omega)) (fun x => rfl) (fun k => k = W.heap.size)
  (fun C pre W' => ∃ vh l,HA w3 W' W.heap.size (W.heap.size + 3) (.slice none 0 0) [] C ((pre.filter fun c => !decide (c ∈ q.no)).flatMap fun f => Gr.kidL (gSnt M m q.size) q.most.toNat ⟨q.at_,0,f,q.fr⟩ f) vh l)
  (fun _ _ _ _ => False) (fun k hk => ?_) (fun k hk => by omega) ?_ (fun _ _ _ _ _ h _ => h.elim) ?_ (fun x B ρ' W' => ∃ q6,ρ' 6 = ptr q6 ∧ B ≤ q6 ∧ Blk W' q6 (ctC x) ∧ ρ' 1 = ptr bg ∧ ρ' 2 = ptr bq ∧ ρ' 5 = ptr (W.heap.size + 2)) ?_ ?_ ?_ ?_ (fun _ _ _ _ _ h _ => h.elim)
 ·rcases hk with rfl | rfl | rfl | ⟨hne, rfl⟩
  ·exact ⟨k5.lt,by omega⟩
  ·exact ⟨k6.lt,by omega⟩
  ·exact ⟨k7.lt,by omega⟩
  ·have h1 := hS _ (h.s3 hne)
   exact ⟨g3.gr.plan.rlt hne,by omega⟩
 ·rintro C pre W1 W2 ⟨vh,l,h1⟩ hag
  exact ⟨vh,l,h1.agr hag⟩
 ·exact ⟨.slice none 0 0,[],⟨vo.ext hE13,wrow_own (World.ownsRow_nil _ _ _ _),by omega⟩,Gr.LHeap.nil,List.Perm.refl _,fun k => by simp [slN],Mod.refl _ _,fun hn => by cases hn⟩
 ·rintro x B ρ' W1 W2 ⟨q6,h1,h2,h3,h4⟩ hag
  exact ⟨q6,h1,h2,h3.agr hag h2,h4⟩
 ·intro lp x W1
  simp
  exact ⟨(Ext.refl W1).alloc _,Blk.new W1 (ctC x) 64⟩
 ·rintro lp C pre x B ρ' W1 hsp ⟨vh,l,hh⟩ hl1 hl2 - hBW ⟨q6,e6,hB,hx,e1,e2,e5⟩
  obtain ⟨_,suf,hsuf⟩ := hsp
  have hxL : x ∈ L := by
   have : x ∈ fromL L q.fr := by rw [hsuf]; simp
   exact (List.mem_filter.1 this).1
  have hplen : pre.length + 1 ≤ L.length := by
   have h1 := congrArg List.length hsuf
   have h2 : (fromL L q.fr).length ≤ L.length := List.length_filter_le _ _
   simp only [List.length_append,List.length_singleton] at h1
   omega
  have hllen : l.length ≤ pre.length := by
   have h1 := hh.pm.length_eq
   rw [List.append_nil] at h1
   rw [h1]
   exact Nat.le_trans (kidL_len _ _ _) (List.length_filter_le _ _)
  have hM1 : Mod (fun k => W.heap.size ≤ k) W W1 := hE03.mod.trans (hh.md.weaken fun k hk => by
   rcases hk with rfl | ⟨hk, -⟩
   ·exact Nat.le_refl _
   ·cases hk)
  have g4 := hWS _ hM1
  have z4 := hM1.size
  simp [e2,e6,g4.vq.cell 5 _ rfl,(hx).cell 0 _ rfl,(hx).cell 1 _ rfl,(hx).cell 2 _ rfl,(hx).cell 3 _ rfl,(hx).cell 4 _ rfl]
  refine FN.mono (ccon_c g4.no (by omega) x) ?_
  rintro _ W2 ⟨rfl,hE4⟩
  have v5' := ((v5.ext hE13).mod hh.md (by rintro (hk | ⟨hk,-⟩); omega; cases hk)).ext hE4
  have g5 := g4.ext hE4
  have hx2 := hx.ext hE4
  by_cases hin : x ∈ q.no
  ·simp [hin]
   exact ⟨C,⟨vh,l,hh.agr hE4.agr⟩,Own.of_mod hE4.mod⟩
  ·simp [hin,e2,e5,e6,g5.vq.cell 2 _ rfl,g5.vq.cell 0 _ rfl,(hx2).cell 0 _ rfl,(hx2).cell 1 _ rfl,(hx2).cell 2 _ rfl,(hx2).cell 3 _ rfl,(hx2).cell 4 _ rfl,v5'.cell]
   have v4' := ((v4.ext hE13).mod hh.md (by rintro (hk | ⟨hk,-⟩); omega; cases hk)).ext hE4
   have zz := hE4.size
   refine FN.mono (wstep_c g5.gr hg hm hsl g5.vg g5.vq hq v4' (hh.hp.ext hE4) (by omega) (by omega) hh.lh (x := ⟨q.at_,0,x,q.fr⟩) (hL x hxL) hq.at_.1) ?_
   rintro _ W5 ⟨⟨u,rfl⟩,v',l',h5,hL5,hp5,hM5,hn5⟩
   simp
   obtain ⟨st,ow⟩ := (hh.agr hE4.agr).step h5 hL5 (by rw [kidO_eq] at hp5; exact hp5) hM5 hn5
   refine ⟨_,⟨v',l',?_⟩,⟨hE4.mod.trans ow.mod,fun k hk => (ow.own k hk).imp id fun h => by omega,ow.lt⟩⟩
   simpa [List.filter_append,hin] using st
 rintro C xs w4 rfl ⟨vh,l,hh⟩ hD
 have hM4 : Mod (fun k => W.heap.size ≤ k) W w4 := hE03.mod.trans (hh.md.weaken fun k hk => by
  rcases hk with rfl | ⟨hk, -⟩
  ·exact Nat.le_refl _
  ·cases hk)
 have hE4 : Ext W w4 := hM4.ext fun _ h => h
 have hE5 := (Ext.refl w4).alloc (.map #[] 0)
 have hm5 := MapAt.alloc0 ekS ewH w4
 have z4 := hh.md.size
 have hDl := (Array.getElem?_eq_some_iff.1 hD).1
 obtain ⟨F,hF⟩ : ∃ F,F = firsts L q := ⟨_,rfl⟩
 obtain ⟨snt,hsnt⟩ : ∃ snt,snt = gSnt M m q.size := ⟨_,rfl⟩
 obtain ⟨most,hmost⟩ : ∃ most,most = q.most.toNat := ⟨_,rfl⟩
 rw [← hF,← hsnt,← hmost] at hyl
 rw [← hsnt] at hSn
 have hFL : ∀ f ∈ F, f ∈ L := by
  rw [hF]
  intro f hf
  exact (List.mem_filter.1 (List.mem_filter.1 hf).1).1
 have hFl : F.length ≤ 14 := by
  rw [hF]
  have h1 : (fromL L q.fr).length ≤ L.length := List.length_filter_le _ _
  have h2 : (firsts L q).length ≤ (fromL L q.fr).length := List.length_filter_le _ _
  omega
 have hini : l.Perm (Gr.inis snt F q.at_ most) := by
  rw [Gr.inis_eq q.fr,hF,hsnt,hmost]
  have := hh.pm
  rw [List.append_nil] at this
  exact this
 have hil : l.length ≤ 14 := by rw [hini.length_eq]; exact Nat.le_trans Gr.inis_len hFl
 have nomap : (mget ([] : SM)) = fun _ => none := by funext k; rfl
 have hst : WL L snt F q.at_ most W C0 J (.func (.func 121) #[] #[ptr bg, ptr bq, ptr (W.heap.size + 1)]) w4.heap.size (w4.alloc (.map #[] 0)) C0 vh l [] [] [w3.heap.size] := {
  r := {
   j := hJ _ _ _ _ h0 (hE4.trans hE5).agr
   own := fun k hk => .inl hk
   lt := fun k hk => by have := hC0 k hk; have := (hE4.trans hE5).size; omega
   ag := (hE4.trans hE5).agr
   v4 := ((v4.ext hE13).mod hh.md (by rintro (hk | ⟨hk,-⟩); omega; cases hk)).ext hE5
   v5 := ((v5.ext hE13).mod hh.md (by rintro (hk | ⟨hk,-⟩); omega; cases hk)).ext hE5
   mp := hm5
   rge := by omega
   nd := by simp
   mks := fun D hDm => by
    simp at hDm
    subst hDm
    exact ⟨by omega,by rw [hE5.blk _ hDl]; exact hD,fun hc => by have := hC0 _ hc; omega⟩
   o0 := fun hc => by have := hC0 _ hc; omega
   o1 := fun hc => by have := hC0 _ hc; omega
   o2 := fun hc => by have := hC0 _ hc; omega
   orm := fun hc => by have := hC0 _ hc; omega }
  hp := hh.hp.ext hE5
  lh := hh.lh
  orow := fun hn hc => by have := hC0 _ hc; have := wrow_ge hh.hp.row hn; omega
  inv := by rw [nomap]; exact (Gr.inv_start most).perm hini.symm
  good := Gr.good_nil
  few := by rw [nomap]; exact Gr.mu_start hl hFl hil }
 simp
 rw [← hF,← hsnt,← hmost]
 generalize w4.alloc (.map #[] 0) = w5 at *
 refine WC_loop (fun k ρ ds w' => WLoop L snt F q.at_ most W C0 J (.func (.func 121) #[] #[ptr bg, ptr bq, ptr (W.heap.size + 1)]) w4.heap.size y bg bq k ρ ds w') (Gr.mu L F (mget ([] : SM)) l.length) ?_ ?_
 ·exact ⟨C0,vh,l,[],[],[w3.heap.size],hst,rfl,by simp,by simp,by simp,by simp,by simp,by simp,rfl⟩
 obtain ⟨rm,hrm⟩ : ∃ rm,rm = w4.heap.size := ⟨_,rfl⟩
 rw [← hrm]
 clear hst hini hil hD hDl hE5 hm5 hE4 hM4 hh hE03 hE13 hE3 hE12 hE2 hW2
 rintro k ρ ds w6 ⟨C,vh,l,mm,pre,Ds,hw,rfl,e0,e1,e2,e4,e5,e7,rfl⟩
 have hv := hw.hp.blk
 simp [e4,hw.r.v4.cell,hv.cell 0 _ rfl]
 refine FN.mono (hlen_c (wrow_sl hw.hp.row)) ?_
 rintro _ w7 ⟨rfl,hw7⟩
 subst hw7
 have hfin : ∀ (W' : World) (C' : Nat → Prop) (Ds : List Nat) (P : World → Prop), Ds.Nodup → (∀ D ∈ Ds, W.heap.size + 3 ≤ D ∧ W'.heap[D]? = some (.deferred (some [])) ∧ ¬ C' D) → (∀ W'', Agr (fun k => k < W.heap.size ∨ C' k) W' W'' → P W'') → ∀ w'', Mod (· ∈ Ds) W' w'' → P w'' :=
  fun W' C' Ds P hnd hD hP w'' hM => hP w'' (hM.agr fun k hk hm => by
   obtain ⟨a1,a2,a3⟩ := hD k hm
   rcases hk with hk | hk
   ·omega
   ·exact a3 hk)
 by_cases hz : 0 < l.length
 ·simp [hz,e4,hw.r.v4.cell]
  obtain ⟨n,hn⟩ : ∃ n,l.length = n + 1 := ⟨l.length - 1,by omega⟩
  have hlf := Gr.mu_len (L := L) (F := F) (mget mm) l.length
  have hfew := hw.few
  refine FN.mono (onext_c hw.hp hn (by omega) hw.lh) ?_
  rintro _ w7 ⟨rfl,l',h7,hL7,hp7,hM7⟩
  have hnil := wrow_nil hw.hp.row hz
  have hat : Gr.atL l 0 = l[0]'(by omega) := atL_in (by omega)
  obtain ⟨hI,hmin⟩ := hw.inv.top hp7 hw.lh hat
  have hl' := hp7.length_eq
  simp only [List.length_cons] at hl'
  generalize l[0]'(by omega) = x at *
  have hr7 := hw.r.mod hJ hM7 fun k hk => hw.r.free hw.hp hw.orow k (hk.imp id fun h => ⟨hnil,h⟩)
  have ho7 : slN (slcHM vh n n) = false → ¬ C (slB (slcHM vh n n)) := fun hn => by rw [slB_HM]; exact hw.orow hnil
  have hE8 : Ext w7 ((w7.alloc (.cells #[u64 x.a,i64 x.h,u32 x.f.to',u32 x.f.fr,u32 x.f.to',u64 x.f.sf,u64 x.f.su,u64 x.f.rate,u32 x.n] 173)).alloc (.cells #[u32 x.n,u32 x.f.fr,u32 x.f.to',u64 x.f.sf,u64 x.f.su,u64 x.f.rate] 222)) := ((Ext.refl w7).alloc _).alloc _
  have hBx : Blk ((w7.alloc (.cells #[u64 x.a,i64 x.h,u32 x.f.to',u32 x.f.fr,u32 x.f.to',u64 x.f.sf,u64 x.f.su,u64 x.f.rate,u32 x.n] 173)).alloc (.cells #[u32 x.n,u32 x.f.fr,u32 x.f.to',u64 x.f.sf,u64 x.f.su,u64 x.f.rate] 222)) w7.heap.size (tlC x) := (Blk.new w7 (tlC x) 173).ext ((Ext.refl _).alloc _)
  have hBk : Blk ((w7.alloc (.cells #[u64 x.a, i64 x.h, u32 x.f.to', u32 x.f.fr, u32 x.f.to', u64 x.f.sf, u64 x.f.su, u64 x.f.rate, u32 x.n] 173)).alloc (.cells #[u32 x.n, u32 x.f.fr, u32 x.f.to', u64 x.f.sf, u64 x.f.su, u64 x.f.rate] 222)) (w7.heap.size + 1) (stkC x.st) := by
   have := Blk.new (w7.alloc (.cells #[u64 x.a,i64 x.h,u32 x.f.to',u32 x.f.fr,u32 x.f.to',u64 x.f.sf,u64 x.f.su,u64 x.f.rate,u32 x.n] 173)) (stkC x.st) 222
   simpa [stkC] using this
  simp
  generalize ((w7.alloc (.cells #[u64 x.a,i64 x.h,u32 x.f.to',u32 x.f.fr,u32 x.f.to',u64 x.f.sf,u64 x.f.su,u64 x.f.rate,u32 x.n] 173)).alloc (.cells #[u32 x.n,u32 x.f.fr,u32 x.f.to',u64 x.f.sf,u64 x.f.su,u64 x.f.rate] 222)) = w8 at *
  have hr8 := hr7.ext hJ hE8
  have h8 := h7.ext hE8
  obtain ⟨mw,hmw⟩ : ∃ o,o = mget mm x.st := ⟨_,rfl⟩
  have hrml := hr7.mp.lt
  obtain ⟨w9,hrun,hm9,hM9,hs9⟩ := putS hr8.mp x
  have hB9 := hBx.mod hM9 (by omega)
  have hr9 := hr8.put hJ hM9 hm9
  have h9 := h8.mod hM9 (by have := hr8.rge; omega) (fun hn e => by
   have := hr8.free h8 ho7 _ (.inr ⟨hn,rfl⟩)
   exact this.nr e)
  have hsome := Gr.some_snoc hSn hw.good hI hmin
  refine with_tail (T := ∀ (σ : Env), (σ 0 = y ∧ σ 1 = ptr bg ∧ σ 2 = ptr bq ∧ σ 4 = ptr (W.heap.size + 1) ∧ σ 5 = ptr (W.heap.size + 2) ∧ σ 7 = .map (some rm) ∧ σ 8 = ptr w7.heap.size) → (∀ r, mget mm x.st = some r → ¬ r ≤ x.h) →
   CVt Tryz.prog y [tlV x] w9 (RC ?dT ?KT ?QT σ (Ds.map dmark)) Tok.mk) (fun tail => ?br) ?jn
  case br =>
   by_cases hmg : mget mm x.st = none
   ·simp [e7,lookS hr8.mp x,hmg]
    simp [hBk.cell 0 _ rfl,hBk.cell 1 _ rfl,hBk.cell 2 _ rfl,hBk.cell 3 _ rfl,hBk.cell 4 _ rfl,hBk.cell 5 _ rfl,(hBx).cell 1 _ rfl]
    simp [hrun,e0,(hB9).cell 0 _ rfl,(hB9).cell 1 _ rfl,(hB9).cell 2 _ rfl,(hB9).cell 3 _ rfl,(hB9).cell 4 _ rfl,(hB9).cell 5 _ rfl,(hB9).cell 6 _ rfl,(hB9).cell 7 _ rfl,(hB9).cell 8 _ rfl]
    refine tail _ ⟨?_,?_,?_,?_,?_,?_,?_⟩ (fun r h => by rw [hmg] at h; cases h) <;> simp [e0,e1,e2,e4,e5,e7]
   ·obtain ⟨r,hr⟩ := Option.ne_none_iff_exists'.1 hmg
    by_cases hle : r ≤ x.h
    ·simp [e7,lookS hr8.mp x,hr,(hBx).cell 1 _ rfl,hle]
     refine ⟨Gr.mu L F (mget mm) l'.length, ?_, C, slcHM vh n n, l', mm, pre, Ds, ⟨hr8, h8, hL7, ho7, hI.skip hr hle, hw.good, ?_⟩, rfl, ?_⟩
     ·rw [← hl']; exact Gr.mu_skip _ x l'
     ·have := Gr.mu_skip (L := L) (F := F) (mget mm) x l'
      simp only [List.length_cons] at this
      rw [hl'] at this
      omega
     ·simp [e0,e1,e2,e4,e5,e7]
    ·simp [e7,lookS hr8.mp x,hr,(hBx).cell 1 _ rfl,hle]
     simp [hBk.cell 0 _ rfl,hBk.cell 1 _ rfl,hBk.cell 2 _ rfl,hBk.cell 3 _ rfl,hBk.cell 4 _ rfl,hBk.cell 5 _ rfl,(hBx).cell 1 _ rfl]
     simp [hrun,e0,(hB9).cell 0 _ rfl,(hB9).cell 1 _ rfl,(hB9).cell 2 _ rfl,(hB9).cell 3 _ rfl,(hB9).cell 4 _ rfl,(hB9).cell 5 _ rfl,(hB9).cell 6 _ rfl,(hB9).cell 7 _ rfl,(hB9).cell 8 _ rfl]
     refine tail _ ⟨?_,?_,?_,?_,?_,?_,?_⟩ (fun r' h => by rw [hr] at h; cases h; exact hle) <;> simp [e0,e1,e2,e4,e5,e7]
  case jn =>
   rintro σ ⟨s0,s1,s2,s4,s5,s7,s8⟩ hno
   refine CV.mono (hyl C pre x w9 hsome hr9.j) ?_
   rintro _ w10 (⟨rfl, C', hj', hown⟩ | ⟨rfl, C', hj', hown⟩)
   ·have hr10 := hr9.yield hj' hown
    have h10 := h9.mod hown.mod hr9.o0 ho7
    have g10 := hW.mod (hr10.ag.mod (S' := fun k => ¬ (k < W.heap.size ∧ ¬ C0 k)) fun k hk => Classical.not_not.1 hk) fun k hk hlt hn => hn ⟨hlt,(hcap k hk).2⟩
    have hB10 := hB9.mod hown.mod fun hc => by have := hr7.lt _ hc; omega
    simp
    refine WC_drawC 6 (.F 0 <| .F 1 <| .F 2 <| .F 3 <| .F 4 <| .F 5 <| .Z) (fun _ => false) rfl (by kernel_rfl) fun W11 hW11 => ?_
    have hE11 : Ext w10 W11 := hW11 ▸ Ext.drew w10
    have g11 := g10.ext hE11
    have hB11 := hB10.ext hE11
    simp [s1,s8,g11.vg.cell,g11.gr.blk.cell 0 _ rfl,(hB11).cell 8 _ rfl]
    refine FN.mono (cfrom_c g11.gr.plan x.n) ?_
    rintro _ w12 ⟨c5,c6,b1,rfl,kk5,kk6,kk7,hE12,m5,m6,m7⟩
    simp
    have hX12 := hE11.trans hE12
    have g12 := g11.ext hE12
    have h12 := h10.ext hX12
    have hr12 := hr10.ext hJ hX12
    have y9 := hM9.size
    have y10 := hown.mod.size
    have y11 := hE11.size
    have y12 := hE12.size
    have y8 := hE8.size
    have hrow7 := fun hn => wrow_lt h7.row hn
    have ho12 : slN (slcHM vh n n) = false → ¬ C' (slB (slcHM vh n n)) := fun hn hc => by
     rcases hown.own _ hc with h1 | h1
     ·exact ho7 hn h1
     ·have := hrow7 hn; omega
    have hfr := hr12.free h12 ho12
    have hB12 := hB10.ext hX12
    have hxa : 0 ≤ x.a := by have := (hI.wH x (by simp)).1.late hSn; have := hq.at_.1; omega
    refine WC_rangeFuncA (gf := 146) (first := #[]) (caps := #[ptr c5, ptr c6]) (enc := fun c : Ct => [ctV c]) (by simp) (fun _ _ => callFunc_enter Tryz.func146 rfl rfl _ _) (cfrom_it kk5 kk6 kk7 g12.gr.plan.row (by omega)) (fun x => rfl) (fun k => k = W.heap.size ∨ (slN (slcHM vh n n) = false ∧ k = slB (slcHM vh n n)))
     (fun C2 pre2 W' => ∃ vh2 l2,HA w12 W' W.heap.size (W.heap.size + 3) (slcHM vh n n) l' C2 (pre2.flatMap fun c => Gr.kidL snt most x c) vh2 l2)
     (fun _ _ _ _ => False) (fun k hk => ?_) (fun k hk => ?_) ?_ (fun _ _ _ _ _ h _ => h.elim) ?_ (fun c B ρ' W' => ∃ q6,ρ' 12 = ptr q6 ∧ B ≤ q6 ∧ Blk W' q6 (ctC c) ∧ ρ' 5 = ptr (W.heap.size + 2) ∧ ρ' 8 = ptr w7.heap.size) ?_ ?_ ?_ ?_ (fun _ _ _ _ _ h _ => h.elim)
    ·have hge : ∀ k, W11.heap.size ≤ k → ¬ (k = W.heap.size ∨ (slN (slcHM vh n n) = false ∧ k = slB (slcHM vh n n))) := fun k hk hc => by
      rcases hc with rfl | ⟨hn, rfl⟩
      ·have := h7.blk.lt; omega
      ·have := hrow7 hn; omega
     rcases hk with rfl | rfl | rfl | ⟨hne, rfl⟩
     ·exact ⟨kk5.lt,hge _ m5⟩
     ·exact ⟨kk6.lt,hge _ m6⟩
     ·exact ⟨kk7.lt,hge _ m7⟩
     ·have h1 := hS _ (h.s3 hne)
      refine ⟨g12.gr.plan.rlt hne,fun hc => ?_⟩
      rcases hc with hc | ⟨hn, hc⟩
      ·omega
      ·have := wrow_ge h7.row hn; omega
    ·rcases hk with rfl | ⟨hn, rfl⟩
     ·exact h12.blk.lt
     ·exact wrow_lt h12.row hn
    ·rintro C2 pre2 W1 W2 ⟨vh2,l2,h1⟩ hag
     exact ⟨vh2,l2,h1.agr hag⟩
    ·exact ⟨slcHM vh n n,l',h12,hL7,List.Perm.refl _,fun k => Iff.rfl,Mod.refl _ _,fun hn => .inl ⟨hn,rfl⟩⟩
    ·rintro c B ρ' W1 W2 ⟨q6,h1,h2,h3,h4⟩ hag
     exact ⟨q6,h1,h2,h3.agr hag h2,h4⟩
    ·intro lp c W1
     simp [s5,s8]
     exact ⟨(Ext.refl W1).alloc _,Blk.new W1 (ctC c) 64⟩
    ·rintro lp C2 pre2 c B ρ' W1 hsp ⟨vh2,l2,hh⟩ hl1 hl2 - hBW ⟨q6,e6,hB,hx,e5',e8'⟩
     obtain ⟨_,suf,hsuf⟩ := hsp
     have hcL : c ∈ L := by
      have : c ∈ fromL L x.n := by rw [hsuf]; simp
      exact (List.mem_filter.1 this).1
     have hplen : pre2.length + 1 ≤ L.length := by
      have h1 := congrArg List.length hsuf
      have h2 : (fromL L x.n).length ≤ L.length := List.length_filter_le _ _
      simp only [List.length_append,List.length_singleton] at h1
      omega
     have hllen : l2.length ≤ pre2.length + l'.length := by
      have h1 := hh.pm.length_eq
      rw [List.length_append] at h1
      have h2 : (pre2.flatMap fun c => Gr.kidL snt most x c).length ≤ pre2.length := kidL_len _ _ _
      omega
     have hSr : ∀ k,(k = W.heap.size ∨ (slN (slcHM vh n n) = false ∧ k = slB (slcHM vh n n))) → Free W C' rm Ds k := hfr
     have g13 := g12.mod hh.md fun k hk _ hs => by have := (hfr k hs).ge; have := hS k hk; omega
     have v5' := hr12.v5.mod hh.md fun hs => (hfr _ hs).n2 rfl
     have v4' := hr12.v4.mod hh.md fun hs => (hfr _ hs).n1 rfl
     have hB13 := hB12.mod hh.md fun hs => by
      rcases hs with hs | ⟨hn, hs⟩
      ·have := h7.blk.lt; omega
      ·have := hrow7 hn; omega
     have y13 := hh.md.size
     simp [e5',e6,e8',v5'.cell,(hB13).cell 0 _ rfl,(hB13).cell 1 _ rfl,(hB13).cell 2 _ rfl,(hB13).cell 3 _ rfl,(hB13).cell 4 _ rfl,(hB13).cell 5 _ rfl,(hB13).cell 6 _ rfl,(hB13).cell 7 _ rfl,(hB13).cell 8 _ rfl,(hx).cell 0 _ rfl,(hx).cell 1 _ rfl,(hx).cell 2 _ rfl,(hx).cell 3 _ rfl,(hx).cell 4 _ rfl]
     refine FN.mono (wstep_c g13.gr hg hm hsl g13.vg g13.vq hq v4' hh.hp (by omega) (by omega) hh.lh (hL c hcL) hxa) ?_
     rintro _ W5 ⟨⟨u,rfl⟩,v',l5,h5,hL5,hp5,hM5,hn5⟩
     simp
     obtain ⟨st,ow⟩ := hh.step h5 hL5 (by rw [kidO_eq,← hsnt,← hmost] at hp5; exact hp5) hM5 hn5
     exact ⟨_,⟨v',l5,st⟩,ow⟩
    ·rintro C2 xs w13 rfl ⟨vh2,l2,hh⟩ hD2
     simp
     have hD2l := (Array.getElem?_eq_some_iff.1 hD2).1
     have hr13 : WR W C0 J (.func (.func 121) #[] #[ptr bg, ptr bq, ptr (W.heap.size + 1)]) rm w13 C' (mset mm x.st x.h) (pre ++ [x]) (w12.heap.size :: Ds) :=
      (hr12.mod hJ hh.md hfr).mark (by omega) hD2 (fun hc => by have := hr12.lt _ hc; omega) (fun hc => by
       have := (hr12.mks _ hc).2.1
       have := (Array.getElem?_eq_some_iff.1 this).1
       omega)
     have hR : mget (mset mm x.st x.h) = fun s => if s = x.st then some x.h else mget mm s := by funext s; exact kget_mset _ _ _ _
     have hmu := hI.mu_take hFL hno
     have hpl : l2.Perm (l' ++ Gr.kids L snt most x) := by
      rw [Gr.kids_eq]
      exact hh.pm.trans List.perm_append_comm
     have hll := hpl.length_eq
     rw [← hll,← hR] at hmu
     have hmu2 : Gr.mu L F (mget (mset mm x.st x.h)) l2.length < Gr.mu L F (mget mm) l.length := by rw [← hl']; simpa using hmu
     refine ⟨Gr.mu L F (mget (mset mm x.st x.h)) l2.length, hmu2, C', vh2, l2, mset mm x.st x.h, pre ++ [x], w12.heap.size :: Ds, ⟨hr13, hh.hp, hh.lh, fun hn hc => ?_, ?_, Gr.good_snoc hSn hw.good hI hmin, by omega⟩, rfl, ?_⟩
     ·rcases hh.nw hn with ⟨h1, h2⟩ | h1
      ·rw [h2] at hc; exact ho12 h1 hc
      ·have := hr12.lt _ hc; omega
     ·rw [hR]
      exact (hI.take hSn hFL (fun z hz => Gr.not_keyLt_a (hmin z hz)) hno).perm hpl.symm
     ·simp [s0,s1,s2,s4,s5,s7,dmark]
   ·have hr10 := (hr9.any (J' := fun _ _ _ => True) trivial).yield (C' := C') (pre' := pre ++ [x]) trivial hown
    simp
    refine LV_marks Ds w10 hr10.nd (fun D hD => (hr10.mks D hD).2.1) fun w' hM => ?_
    simp
    exact ⟨C',.inr ⟨pre ++ [x],by rw [← hF,← hsnt,← hmost] at *; exact hsome,hfin w10 C' Ds (fun w => Jx C' (pre ++ [x]) w) hr10.nd hr10.mks (fun W'' hA => hJx _ _ _ _ hj' hA) w' hM⟩⟩
 ·have hl0 : l = [] := List.length_eq_zero_iff.1 (by omega)
  subst hl0
  simp
  refine LV_marks Ds w7 hw.r.nd (fun D hD => (hw.r.mks D hD).2.1) fun w' hM => ?_
  simp
  exact ⟨C,.inl ⟨pre,Gr.full_of hSn hw.good hw.inv,hfin w7 C Ds (fun w => J C pre w) hw.r.nd hw.r.mks (fun W'' hA => hJ _ _ _ _ hw.r.j hA) w' hM⟩⟩
end Go.Proofs