/-
 Contracts of the functions that the law reaches,step by step.
-/
import Derived.Test.YtdflcfoalhhjlaaGreatGdN
namespace Go.Proofs
open Pk
set_option maxRecDepth 10000
def wyZ : Wy := ⟨0,0,0,⟨0,0,0,0,0⟩⟩
structure BestT (L : List Ct) (snt : Ct → Int → Option Int) (F : List Ct) (q : Qu) (x : Wy) (n : Int) : Prop where
 bad : (badQ q || badE q) = true → x = wyZ ∧ n = 2
 ok : (badQ q || badE q) = false → (∃ t,Gr.BestOf L snt F q.at_ q.most.toNat q.to' t ∧ x = tlWy t ∧ n = 0) ∨ ((∀ y,Gr.Wk L snt F q.at_ y → y.h ≤ q.most.toNat → y.n ≠ q.to') ∧ x = wyZ ∧ n = 310)
theorem put8_mod (w : World) (b : Nat) (a0 a1 a2 a3 a4 a5 a6 a7 : Value) : Mod (fun k => k = b) w ((((((((w.setCell ⟨b, 0, none⟩ a0).setCell ⟨b, 1, none⟩ a1).setCell ⟨b, 2, none⟩ a2).setCell ⟨b, 3, none⟩ a3).setCell ⟨b, 4, none⟩ a4).setCell ⟨b, 5, none⟩ a5).setCell ⟨b, 6, none⟩ a6).setCell ⟨b, 7, none⟩ a7) :=
 ((((((((Mod.refl _ _).setC _ _).setC _ _).setC _ _).setC _ _).setC _ _).setC _ _).setC _ _).setC _ _
theorem put8_blk {w : World} {b : Nat} {l : List Value} (h : Blk w b l) (hl : l.length = 8) (a0 a1 a2 a3 a4 a5 a6 a7 : Value) : Blk ((((((((w.setCell ⟨b, 0, none⟩ a0).setCell ⟨b, 1, none⟩ a1).setCell ⟨b, 2, none⟩ a2).setCell ⟨b, 3, none⟩ a3).setCell ⟨b, 4, none⟩ a4).setCell ⟨b, 5, none⟩ a5).setCell ⟨b, 6, none⟩ a6).setCell ⟨b, 7, none⟩ a7) b [a0, a1, a2, a3, a4, a5, a6, a7] :=
 match l,hl with
 | [_,_,_,_,_,_,_,_],_ => (((((((h.set 0 a0).set 1 a1).set 2 a2).set 3 a3).set 4 a4).set 5 a5).set 6 a6).set 7 a7
def bQs (g b e : Nat) (q : Qu) : List Qn := [⟨.func (.func 91) #[ptr g] #[],1,false⟩,⟨.func (.func 119) #[] #[ptr b],2,badQ q⟩,⟨.func (.func 93) #[] #[ptr e],2,badE q⟩]
set_option maxHeartbeats 1000000 in
theorem gbest_c {w : World} {g p t R a r : Nat} {v nv : Value} {L : List Ct} {M : ME} {m : VM} {q : Qu} (h : GrAt w g p v L t R M a r m) (hno : SlB w 5 nv q.no.length (q.no.flatMap ctC)) (hg : gdT M) (hm : vmOk m) (hsl : ∀ p, (sps M p).length ≤ 255) (hq : QuOk q)
  (hL : ∀ c ∈ L,CtOk c) (hl : L.length ≤ 14) (hnl : q.no.length ≤ 1000) : FN Tryz.prog 36 [ptr g,quV q nv] w fun e w' => (∃ x n,e = .returned (.tuple #[wyV x,i64 n]) ∧ BestT L (gSnt M m q.size) (firsts L q) q x n) ∧ Ext w w' := by
 refine FN_enter Tryz.func36 rfl rfl (by kernel_rfl) ?_
 obtain ⟨na,nc,hnv⟩ := hno.isSlice
 have hE : Ext w (((w.alloc (.cells #[u32 q.fr,u32 q.to',u64 q.at_,u64 q.size,i64 q.most,nv] 29)).alloc (.cells #[u64 0,i64 0,u32 0,u32 0,u32 0,u64 0,u64 0,u64 0] 66)).alloc (.cells #[u32 q.fr,u32 q.to'] 157)) := (((Ext.refl w).alloc _).alloc _).alloc _
 have h3 : Blk (((w.alloc (.cells #[u32 q.fr,u32 q.to',u64 q.at_,u64 q.size,i64 q.most,nv] 29)).alloc (.cells #[u64 0,i64 0,u32 0,u32 0,u32 0,u64 0,u64 0,u64 0] 66)).alloc (.cells #[u32 q.fr,u32 q.to'] 157)) w.heap.size (quC q nv) := (Blk.new w (quC q nv) 29).ext (((Ext.refl _).alloc _).alloc _)
 have h4 : Blk (((w.alloc (.cells #[u32 q.fr, u32 q.to', u64 q.at_, u64 q.size, i64 q.most, nv] 29)).alloc (.cells #[u64 0, i64 0, u32 0, u32 0, u32 0, u64 0, u64 0, u64 0] 66)).alloc (.cells #[u32 q.fr, u32 q.to'] 157)) (w.heap.size + 1) (wyC wyZ) := by
  have := (Blk.new (w.alloc (.cells #[u32 q.fr,u32 q.to',u64 q.at_,u64 q.size,i64 q.most,nv] 29)) (wyC wyZ) 66).ext ((Ext.refl _).alloc (.cells #[u32 q.fr,u32 q.to'] 157))
  simp [wyZ] at this
  exact this
 have h6 : Blk (((w.alloc (.cells #[u32 q.fr, u32 q.to', u64 q.at_, u64 q.size, i64 q.most, nv] 29)).alloc (.cells #[u64 0, i64 0, u32 0, u32 0, u32 0, u64 0, u64 0, u64 0] 66)).alloc (.cells #[u32 q.fr, u32 q.to'] 157)) (w.heap.size + 2) [u32 q.fr, u32 q.to'] := by
  have := Blk.new ((w.alloc (.cells #[u32 q.fr,u32 q.to',u64 q.at_,u64 q.size,i64 q.most,nv] 29)).alloc (.cells #[u64 0,i64 0,u32 0,u32 0,u32 0,u64 0,u64 0,u64 0] 66)) [u32 q.fr,u32 q.to'] 157
  simpa using this
 have hsz : (((w.alloc (.cells #[u32 q.fr,u32 q.to',u64 q.at_,u64 q.size,i64 q.most,nv] 29)).alloc (.cells #[u64 0,i64 0,u32 0,u32 0,u32 0,u64 0,u64 0,u64 0] 66)).alloc (.cells #[u32 q.fr,u32 q.to'] 157)).heap.size = w.heap.size + 3 := by simp
 rw [hnv] at hE h3 h4 h6 hsz
 rw [hnv]
 simp
 generalize hnv2 : Value.slice na q.no.length nc = nv2 at *
 have hsl2 : ∃ a n c,nv2 = .slice a n c := ⟨_,_,_,hnv2.symm⟩
 generalize ((w.alloc (.cells #[u32 q.fr,u32 q.to',u64 q.at_,u64 q.size,i64 q.most,nv2] 29)).alloc (.cells #[u64 0,i64 0,u32 0,u32 0,u32 0,u64 0,u64 0,u64 0] 66)).alloc (.cells #[u32 q.fr,u32 q.to'] 157) = w3 at *
 refine FN.mono (gright_c w3 q nv2 hsl2) ?_
 rintro _ w4 ⟨b,rfl,hb,hE4⟩
 have hX4 := hE.trans hE4
 simp
 have hE5 := (Ext.refl w4).alloc (.cells (askCells (bQs g b (w.heap.size + 2) q)).toArray 170)
 have hs5 : Sl (w4.alloc (.cells (askCells (bQs g b (w.heap.size + 2) q)).toArray 170)) 2 (.slice (some ⟨w4.heap.size,0,none⟩) 3 3) 3 (askCells (bQs g b (w.heap.size + 2) q)) := Sl.made w4 (askCells (bQs g b (w.heap.size + 2) q)) 170 2 3 rfl
 rw [show (askCells (bQs g b (w.heap.size + 2) q)).toArray = #[.func (.func 91) #[ptr g] #[],i64 1,.func (.func 119) #[] #[ptr b],i64 2,.func (.func 93) #[] #[ptr (w.heap.size + 2)],i64 2] from rfl] at hE5 hs5
 generalize (w4.alloc (.cells #[.func (.func 91) #[ptr g] #[],i64 1,.func (.func 119) #[] #[ptr b],i64 2,.func (.func 93) #[] #[ptr (w.heap.size + 2)],i64 2] 170)) = w5 at *
 have hX5 := hX4.trans hE5
 have hask := askedG_c (w := w5) (bQs g b (w.heap.size + 2) q) hs5 (by simp [bQs]) (fun x hx => by
  simp [bQs] at hx
  rcases hx with rfl | rfl | rfl <;> exact ⟨_,_,_,rfl⟩) (fun i x hx _ w' hw' => by
  match i,hx with
  | 0, hx =>
   simp [bQs] at hx; subst hx
   exact FN.mono (gnone_c (h.ext (hX5.trans hw'))) fun _ _ h => ⟨h.1,h.2 ▸ Ext.refl _⟩
  | 1, hx =>
   simp [bQs] at hx; subst hx
   exact FN.mono (gright1_c (hb.ext (hE5.trans hw'))) fun _ _ h => ⟨h.1,h.2 ▸ Ext.refl _⟩
  | 2, hx =>
   simp [bQs] at hx; subst hx
   exact FN.mono (best1_c (h6.ext ((hE4.trans hE5).trans hw'))) fun _ _ h => ⟨h.1,h.2 ▸ Ext.refl _⟩
  | i + 3,hx => simp [bQs] at hx)
 refine FN.mono (hask) ?_
 rintro _ w6 ⟨rfl,hE6⟩
 have hX6 := hX5.trans hE6
 have hE36 := (hE4.trans hE5).trans hE6
 have heQ : askE (bQs g b (w.heap.size + 2) q) = if (badQ q || badE q) = true then 2 else 0 := by
  simp only [bQs,askE]
  cases badQ q <;> cases badE q <;> rfl
 rw [heQ]
 have k4 := h4.ext hE36
 have k3 := h3.ext hE36
 cases hbad : badQ q || badE q with
 | true =>
  have hM := put8_mod w6 (w.heap.size + 1) (u64 0) (i64 0) (u32 0) (u32 0) (u32 0) (u64 0) (u64 0) (u64 0)
  have hB := put8_blk k4 rfl (u64 0) (i64 0) (u32 0) (u32 0) (u32 0) (u64 0) (u64 0) (u64 0)
  simp [(k4).cell 0 _ rfl,(k4).cell 1 _ rfl,(k4).cell 2 _ rfl,(k4).cell 3 _ rfl,(k4).cell 4 _ rfl,(k4).cell 5 _ rfl,(k4).cell 6 _ rfl,(k4).cell 7 _ rfl,k4.thaw,cell_setCell]
  generalize World.setCell _ ⟨w.heap.size + 1,7,none⟩ _ = W8 at *
  have hT : BestT L (gSnt M m q.size) (firsts L q) q wyZ 2 := ⟨fun _ => ⟨rfl,rfl⟩,fun h => by rw [hbad] at h; cases h⟩
  have hX : Ext w W8 := (hX6.mod (S := fun k => w.heap.size ≤ k)).trans (hM.weaken fun k hk => by omega) |>.ext fun _ h => h
  exact ⟨⟨wyZ,2,⟨⟨rfl,rfl,rfl,rfl,rfl,rfl,rfl,rfl⟩,rfl⟩,hT⟩,hX⟩
 | false =>
  simp [(k3).cell 0 _ rfl,(k3).cell 1 _ rfl,(k3).cell 2 _ rfl,(k3).cell 3 _ rfl,(k3).cell 4 _ rfl,(k3).cell 5 _ rfl]
  have hno6 := hno.ext hX6
  have hg6 := h.ext hX6
  rw [hnv] at hno6
  refine FN.mono (ways_c w6 (ptr g) q nv2 hsl2 ⟨_,rfl⟩) ?_
  rintro _ w7 ⟨bg,bq,rfl,vg,vq,hE7,_,_⟩
  have hg7 := hg6.ext hE7
  have hWst : Wst w7 (fun k => k < w7.heap.size) g p v L t R M a r m bg bq q nv2 := ⟨vg, vq, hg7, hno6.ext hE7, vg.lt, vq.lt, hg7.blk.lt, hg7.plan.lt, fun h => hg7.plan.rlt h, hg7.tab.lt, hg7.led.lt.1, hg7.led.lt.2, fun hn => (hno6.ext hE7).lt (List.length_pos_iff.2 fun e => hn (by
   cases hq0 : q.no with
   | nil => rfl
   | cons c cs => rw [hq0] at e; simp at e))⟩
  have hit := ways_it hWst hg hm hsl hq hL hl hnl (fun _ h => h)
  simp
  refine FN.mono (first_c hit (fun _ _ => callFunc_enter Tryz.func120 rfl rfl _ _) (fun _ h => h) (k3.ext hE7)) ?_
  rintro _ w8 ⟨hf,hE8⟩
  have k8 := (k4.ext hE7).ext hE8
  have hX8 := (hX6.trans hE7).trans hE8
  rcases hf with ⟨xs, hS, hno', rfl⟩ | ⟨pre, x, hS, hpre, hx, rfl⟩
  ·have hE9 := (Ext.refl w8).alloc (.cells #[u64 tlZ.a,i64 tlZ.h,u32 tlZ.f.to',u32 tlZ.f.fr,u32 tlZ.f.to',u64 tlZ.f.sf,u64 tlZ.f.su,u64 tlZ.f.rate,u32 tlZ.n] 173)
   simp [k8.cell 0 _ rfl,k8.thaw]
   generalize (w8.alloc (.cells #[u64 tlZ.a,i64 tlZ.h,u32 tlZ.f.to',u32 tlZ.f.fr,u32 tlZ.f.to',u64 tlZ.f.sf,u64 tlZ.f.su,u64 tlZ.f.rate,u32 tlZ.n] 173)) = w9 at *
   have k9 := k8.ext hE9
   have hM := put8_mod w9 (w.heap.size + 1) (u64 0) (i64 0) (u32 0) (u32 0) (u32 0) (u64 0) (u64 0) (u64 0)
   simp [(k9).cell 0 _ rfl,(k9).cell 1 _ rfl,(k9).cell 2 _ rfl,(k9).cell 3 _ rfl,(k9).cell 4 _ rfl,(k9).cell 5 _ rfl,(k9).cell 6 _ rfl,(k9).cell 7 _ rfl,k9.thaw,cell_setCell]
   generalize World.setCell _ ⟨w.heap.size + 1,7,none⟩ _ = W8 at *
   have hT : BestT L (gSnt M m q.size) (firsts L q) q wyZ 310 := ⟨fun h => (by rw [hbad] at h; cases h), fun _ => .inr ⟨fun y hy hk hn => by
    obtain ⟨x,hx,hxn⟩ := hS.2.2 y hy hk
    exact hno' x hx (by rw [hxn,hn]),rfl,rfl⟩⟩
   have hX : Ext w W8 := ((hX8.trans hE9).mod (S := fun k => w.heap.size ≤ k)).trans (hM.weaken fun k hk => by omega) |>.ext fun _ h => h
   exact ⟨⟨wyZ,310,⟨⟨rfl,rfl,rfl,rfl,rfl,rfl,rfl,rfl⟩,rfl⟩,hT⟩,hX⟩
  ·have hE9 := (Ext.refl w8).alloc (.cells #[u64 x.a,i64 x.h,u32 x.f.to',u32 x.f.fr,u32 x.f.to',u64 x.f.sf,u64 x.f.su,u64 x.f.rate,u32 x.n] 173)
   have hB9 : Blk (w8.alloc (.cells #[u64 x.a,i64 x.h,u32 x.f.to',u32 x.f.fr,u32 x.f.to',u64 x.f.sf,u64 x.f.su,u64 x.f.rate,u32 x.n] 173)) w8.heap.size (tlC x) := Blk.new w8 (tlC x) 173
   simp [k8.cell 0 _ rfl,k8.thaw]
   generalize (w8.alloc (.cells #[u64 x.a,i64 x.h,u32 x.f.to',u32 x.f.fr,u32 x.f.to',u64 x.f.sf,u64 x.f.su,u64 x.f.rate,u32 x.n] 173)) = w9 at *
   have k9 := k8.ext hE9
   have hM := put8_mod w9 (w.heap.size + 1) (u64 x.a) (i64 x.h) (u32 x.f.to') (u32 x.f.fr) (u32 x.f.to') (u64 x.f.sf) (u64 x.f.su) (u64 x.f.rate)
   simp [(k9).cell 0 _ rfl,(k9).cell 1 _ rfl,(k9).cell 2 _ rfl,(k9).cell 3 _ rfl,(k9).cell 4 _ rfl,(k9).cell 5 _ rfl,(k9).cell 6 _ rfl,(k9).cell 7 _ rfl,k9.thaw,cell_setCell]
   generalize World.setCell _ ⟨w.heap.size + 1,7,none⟩ _ = W8 at *
   have hT : BestT L (gSnt M m q.size) (firsts L q) q (tlWy x) 0 := ⟨fun h => (by rw [hbad] at h; cases h), fun _ => .inl ⟨x, by
    have := hS.2.1 pre x [] rfl fun y hy e => hpre y hy (by rw [e,hx])
    rw [hx] at this
    exact this,rfl,rfl⟩⟩
   have hX : Ext w W8 := ((hX8.trans hE9).mod (S := fun k => w.heap.size ≤ k)).trans (hM.weaken fun k hk => by omega) |>.ext fun _ h => h
   exact ⟨⟨tlWy x,0,⟨⟨rfl,rfl,rfl,rfl,rfl,rfl,rfl,rfl⟩,rfl⟩,hT⟩,hX⟩
end Go.Proofs