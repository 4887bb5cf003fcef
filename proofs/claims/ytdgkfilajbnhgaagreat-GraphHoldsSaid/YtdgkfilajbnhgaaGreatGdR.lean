/-
 Contracts of the functions that the law reaches,step by step.
-/
import Derived.Test.YtdgkfilajbnhgaaGreatGdQ
namespace Go.Proofs
open Pk
set_option maxRecDepth 10000
structure RMap (fr : Int) (pre : List Tl) (mm : KWML) : Prop where
 is : ∀ n x,mget mm n = some x → n ≠ fr ∧ ∃ X' t rest,pre = X' ++ t :: rest ∧ (∀ x' ∈ X',x'.n ≠ n) ∧ t.n = n ∧ x = tlWy t
 has : ∀ t ∈ pre,t.n ≠ fr → (mget mm t.n).isSome = true
theorem RMap.nil (fr : Int) : RMap fr [] [] := ⟨fun n x h => (by cases h),fun t h => (by cases h)⟩
theorem RMap.old {fr : Int} {pre : List Tl} {mm : KWML} (h : RMap fr pre mm) {x : Tl} (hx : (mget mm x.n).isSome = true ∨ x.n = fr) : RMap fr (pre ++ [x]) mm where
 is := fun n y hy => by
  obtain ⟨h1,X',t,rest,rfl,h2⟩ := h.is n y hy
  exact ⟨h1,X',t,rest ++ [x],by simp,h2⟩
 has := fun t ht hn => by
  rcases List.mem_append.1 ht with ht | ht
  ·exact h.has t ht hn
  ·simp at ht; subst ht
   rcases hx with hx | hx
   ·exact hx
   ·exact (hn hx).elim
theorem RMap.new {fr : Int} {pre : List Tl} {mm : KWML} (h : RMap fr pre mm) {x : Tl} (hx : mget mm x.n = none) (hn : x.n ≠ fr) : RMap fr (pre ++ [x]) (mset mm x.n (tlWy x)) where
 is := fun n y hy => by
  rw [kget_mset] at hy
  split at hy
  ·rename_i e
   subst e
   cases hy
   refine ⟨hn,pre,x,[],rfl,fun x' hx' e => ?_,rfl,rfl⟩
   have := h.has x' hx' (by rw [e]; exact hn)
   rw [e,hx] at this
   cases this
  ·obtain ⟨h1,X',t,rest,rfl,h2⟩ := h.is n y hy
   exact ⟨h1,X',t,rest ++ [x],by simp,h2⟩
 has := fun t ht hf => by
  rw [kget_mset]
  split
  ·rfl
  ·rename_i e
   rcases List.mem_append.1 ht with ht | ht
   ·exact h.has t ht hf
   ·simp at ht; subst ht; exact (e rfl).elim
structure ReachT (L : List Ct) (snt : Ct → Int → Option Int) (F : List Ct) (q : Qu) (mm : KWML) : Prop where
 bad : badQ q = true → mm = []
 is : ∀ n x,mget mm n = some x → n ≠ q.fr ∧ ∃ t,Gr.BestOf L snt F q.at_ q.most.toNat n t ∧ x = tlWy t
 has : badQ q = false → ∀ y,Gr.Wk L snt F q.at_ y → y.h ≤ q.most.toNat → y.n ≠ q.fr → (mget mm y.n).isSome = true
theorem RMap.reach {L : List Ct} {snt : Ct → Int → Option Int} {F : List Ct} {q : Qu} {xs : List Tl} {mm : KWML} (h : RMap q.fr xs mm) (hf : Gr.Full L snt F q.at_ q.most.toNat xs) (hb : badQ q = false) : ReachT L snt F q mm where
 bad := fun h => by rw [hb] at h; cases h
 is := fun n x hx => by
  obtain ⟨h1,X',t,rest,h2,h3,rfl,h4⟩ := h.is n x hx
  exact ⟨h1,t,hf.1 X' t rest h2 h3,h4⟩
 has := fun _ y hy hk hn => by
  obtain ⟨x,hx,e⟩ := hf.2.2 y hy hk
  rw [← e]
  exact h.has x hx (by rw [e]; exact hn)
theorem ReachT.few {L : List Ct} {snt : Ct → Int → Option Int} {F : List Ct} {q : Qu} {mm : KWML} (h : ReachT L snt F q mm) (hF : ∀ f ∈ F, f ∈ L) (hn : (mm.map (·.1)).Nodup) : mm.length ≤ L.length := by
 have := Gr.sub_len (m := L.map (·.to')) hn fun n hm => by
  obtain ⟨x,hx,rfl⟩ := List.mem_map.1 hm
  obtain ⟨-,t,ht,-⟩ := h.is x.1 x.2 (mget_of_mem hn hx)
  obtain ⟨c,hc,e⟩ := ht.wk.n_mem hF
  exact List.mem_map.2 ⟨c,hc,by rw [e,ht.at_]⟩
 simpa using this
def rQs (g b : Nat) (q : Qu) : List Qn := [⟨.func (.func 32) #[ptr g] #[],1,false⟩,⟨.func (.func 88) #[] #[ptr b],2,badQ q⟩]
def ReachE (L : List Ct) (snt : Ct → Int → Option Int) (F : List Ct) (q : Qu) (w w' : World) (e : Ending) : Prop :=
 ∃ b mm rm,e = .returned (.func (.func 45) #[] #[ptr b]) ∧ ReachT L snt F q mm ∧ mm.length ≤ 14 ∧ Var w' b (.map (some rm)) ∧ MapAt (Value.int .u32) wyV w' rm mm ∧ w.heap.size ≤ b ∧ w.heap.size ≤ rm
theorem tmW : Tryz.prog.underlying 114 = some (.map 27 50) := by simp
def rQn (o : Option Addr) (b : Nat) (q : Qu) : List Qn := [⟨.func (.func 32) #[.pointer o] #[],1,true⟩,⟨.func (.func 88) #[] #[ptr b],2,badQ q⟩]
set_option maxHeartbeats 1000000 in
theorem greach_c {w : World} {g p t R a r : Nat} {v nv : Value} {L : List Ct} {M : ME} {m : VM} {q : Qu} (h : GrAt w g p v L t R M a r m) (hno : SlB w 5 nv q.no.length (q.no.flatMap ctC)) (hg : gdT M) (hm : vmOk m) (hsl : ∀ p, (sps M p).length ≤ 255) (hq : QuOk q)
  (hL : ∀ c ∈ L,CtOk c) (hl : L.length ≤ 14) (hnl : q.no.length ≤ 1000) : FN Tryz.prog 15 [ptr g,quV q nv] w fun e w' => ReachE L (gSnt M m q.size) (firsts L q) q w w' e ∧ Ext w w' := by
 refine FN_enter Tryz.func15 rfl rfl (by kernel_rfl) ?_
 obtain ⟨na,nc,hnv⟩ := hno.isSlice
 simp [hnv]
 generalize hnv2 : Value.slice na q.no.length nc = nv2 at *
 have hsl2 : ∃ a n c,nv2 = .slice a n c := ⟨_,_,_,hnv2.symm⟩
 have hE : Ext w (((w.alloc (.cells #[u32 q.fr,u32 q.to',u64 q.at_,u64 q.size,i64 q.most,nv2] 30)).alloc (.map #[] 0)).alloc (.cells #[.map (some (w.heap.size + 1))] 114)) := (((Ext.refl w).alloc _).alloc _).alloc _
 have h3 : Blk (((w.alloc (.cells #[u32 q.fr,u32 q.to',u64 q.at_,u64 q.size,i64 q.most,nv2] 30)).alloc (.map #[] 0)).alloc (.cells #[.map (some (w.heap.size + 1))] 114)) w.heap.size (quC q nv2) := (Blk.new w (quC q nv2) 30).ext (((Ext.refl _).alloc _).alloc _)
 have h4 : MapAt (Value.int .u32) wyV (((w.alloc (.cells #[u32 q.fr, u32 q.to', u64 q.at_, u64 q.size, i64 q.most, nv2] 30)).alloc (.map #[] 0)).alloc (.cells #[.map (some (w.heap.size + 1))] 114)) (w.heap.size + 1) [] := by
  have := (MapAt.alloc0 (Value.int .u32) wyV (w.alloc (.cells #[u32 q.fr,u32 q.to',u64 q.at_,u64 q.size,i64 q.most,nv2] 30))).ext ((Ext.refl _).alloc (.cells #[.map (some (w.heap.size + 1))] 114))
  simpa using this
 have h5 : Var (((w.alloc (.cells #[u32 q.fr, u32 q.to', u64 q.at_, u64 q.size, i64 q.most, nv2] 30)).alloc (.map #[] 0)).alloc (.cells #[.map (some (w.heap.size + 1))] 114)) (w.heap.size + 2) (.map (some (w.heap.size + 1))) := by
  have := Var.new ((w.alloc (.cells #[u32 q.fr,u32 q.to',u64 q.at_,u64 q.size,i64 q.most,nv2] 30)).alloc (.map #[] 0)) (.map (some (w.heap.size + 1))) 114
  simpa using this
 have hsz : (((w.alloc (.cells #[u32 q.fr,u32 q.to',u64 q.at_,u64 q.size,i64 q.most,nv2] 30)).alloc (.map #[] 0)).alloc (.cells #[.map (some (w.heap.size + 1))] 114)).heap.size = w.heap.size + 3 := by simp
 generalize (((w.alloc (.cells #[u32 q.fr,u32 q.to',u64 q.at_,u64 q.size,i64 q.most,nv2] 30)).alloc (.map #[] 0)).alloc (.cells #[.map (some (w.heap.size + 1))] 114)) = w3 at *
 have hrl := h4.lt
 refine FN.mono (gright_c w3 q nv2 hsl2) ?_
 rintro _ w4 ⟨b,rfl,hb,hE4⟩
 have hX4 := hE.trans hE4
 simp
 have hE5 := (Ext.refl w4).alloc (.cells (askCells (rQs g b q)).toArray 103)
 have hs5 : Sl (w4.alloc (.cells (askCells (rQs g b q)).toArray 103)) 2 (.slice (some ⟨w4.heap.size,0,none⟩) 2 2) 2 (askCells (rQs g b q)) := Sl.made w4 (askCells (rQs g b q)) 103 2 2 rfl
 rw [show (askCells (rQs g b q)).toArray = #[.func (.func 32) #[ptr g] #[],i64 1,.func (.func 88) #[] #[ptr b],i64 2] from rfl] at hE5 hs5
 generalize (w4.alloc (.cells #[.func (.func 32) #[ptr g] #[],i64 1,.func (.func 88) #[] #[ptr b],i64 2] 103)) = w5 at *
 have hX5 := hX4.trans hE5
 have hask := askedG_c (w := w5) (rQs g b q) hs5 (by simp [rQs]) (fun x hx => by
  simp [rQs] at hx
  rcases hx with rfl | rfl <;> exact ⟨_,_,_,rfl⟩) (fun i x hx _ w' hw' => by
  match i,hx with
  | 0, hx =>
   simp [rQs] at hx; subst hx
   exact FN.mono (gnone_c (h.ext (hX5.trans hw'))) fun _ _ h => ⟨h.1,h.2 ▸ Ext.refl _⟩
  | 1, hx =>
   simp [rQs] at hx; subst hx
   exact FN.mono (gright1_c (hb.ext (hE5.trans hw'))) fun _ _ h => ⟨h.1,h.2 ▸ Ext.refl _⟩
  | i + 2,hx => simp [rQs] at hx)
 refine FN.mono (hask) ?_
 rintro _ w6 ⟨rfl,hE6⟩
 have hX6 := hX5.trans hE6
 have hE36 := (hE4.trans hE5).trans hE6
 have heQ : askE (rQs g b q) = if badQ q = true then 2 else 0 := by
  simp only [rQs,askE]
  cases badQ q <;> rfl
 rw [heQ]
 have k3 := h3.ext hE36
 have k4 := h4.ext hE36
 have k5 := h5.ext hE36
 cases hbad : badQ q with
 | true =>
  simp
  exact ⟨⟨_,[],_,rfl,⟨fun _ => rfl,fun n x h => (by cases h),fun h => (by rw [hbad] at h; cases h)⟩,by simp,k5,k4,by omega,by omega⟩,hX6⟩
 | false =>
  simp [(k3).cell 0 _ rfl,(k3).cell 1 _ rfl,(k3).cell 2 _ rfl,(k3).cell 3 _ rfl,(k3).cell 4 _ rfl,(k3).cell 5 _ rfl]
  have hno2 := hno
  rw [hnv] at hno2
  have hno6 := hno2.ext hX6
  have hg6 := h.ext hX6
  refine FN.mono (ways_c w6 (ptr g) q nv2 hsl2 ⟨_,rfl⟩) ?_
  rintro _ w7 ⟨bg,bq,rfl,vg,vq,hE7,hbg,hbq⟩
  have hg7 := hg6.ext hE7
  have hs0 := hE.size
  have hs36 := hE36.size
  have hsn : ∀ k,k < w.heap.size → k < w7.heap.size ∧ k ≠ w.heap.size + 1 := fun k hk => ⟨by have := hE7.size; omega,by omega⟩
  have hWst : Wst w7 (fun k => k < w7.heap.size ∧ k ≠ w.heap.size + 1) g p v L t R M a r m bg bq q nv2 := ⟨vg, vq, hg7, hno6.ext hE7, ⟨vg.lt, by omega⟩, ⟨vq.lt, by omega⟩, hsn _ h.blk.lt, hsn _ h.plan.lt, fun hl => hsn _ (h.plan.rlt hl), fun k hk => hsn _ (h.tab.lt k hk), hsn _ h.led.lt.1, hsn _ h.led.lt.2,
   fun hn => hsn _ (hno2.lt (List.length_pos_iff.2 fun e => hn (by
   cases hq0 : q.no with
   | nil => rfl
   | cons c cs => rw [hq0] at e; simp at e)))⟩
  have hit := ways_it hWst hg hm hsl hq hL hl hnl (fun _ h => h.1)
  simp
  have k57 := k5.ext hE7
  have k37 := k3.ext hE7
  have k47 := k4.ext hE7
  have hs7 := hE7.size
  refine WC_rangeFuncA (gf := 89) (first := #[]) (caps := #[ptr bg, ptr bq]) (enc := fun x : Tl => [tlV x]) (by simp) (fun _ _ => callFunc_enter Tryz.func89 rfl rfl _ _) hit (fun x => rfl) (fun k => k = w.heap.size + 1)
   (fun C pre W' => ∃ mm,MapAt (Value.int .u32) wyV W' (w.heap.size + 1) mm ∧ RMap q.fr pre mm ∧ (∀ k,C k ↔ k = w.heap.size + 1) ∧ Mod (fun k => k = w.heap.size + 1) w7 W')
   (fun _ _ _ _ => False) (fun k hk => hk) (fun k hk => by omega) ?_ (fun _ _ _ _ _ h _ => h.elim) ⟨[],k47,RMap.nil _,fun k => Iff.rfl,Mod.refl _ _⟩ (fun x B ρ' W' => ∃ q6,ρ' 6 = ptr q6 ∧ B ≤ q6 ∧ Blk W' q6 (tlC x) ∧ ρ' 3 = ptr w.heap.size ∧ ρ' 5 = ptr (w.heap.size + 2)) ?_ ?_ ?_ ?_ (fun _ _ _ _ _ h _ => h.elim)
  ·rintro C pre W1 W2 ⟨mm,a1,a2,a3,a4⟩ hag
   exact ⟨mm,a1.mod (hag.mod (S' := fun k => ¬ (k < w7.heap.size ∨ C k)) fun k hk => Classical.not_not.1 hk) (fun hn => hn (.inl (by omega))),a2,a3,a4.agr_old hag⟩
  ·rintro x B ρ' W1 W2 ⟨q6,h1,h2,h3,h4⟩ hag
   exact ⟨q6,h1,h2,h3.agr hag h2,h4⟩
  ·intro lp x W1
   simp
   exact ⟨(Ext.refl W1).alloc _,Blk.new W1 (tlC x) 106⟩
  ·rintro lp C pre x B ρ' W1 hsp ⟨mm,a1,a2,a3,a4⟩ hl1 hl2 - hBW ⟨q6,e6,hB,hx,e3,e5⟩
   have k5' := k57.mod a4 (by omega)
   have k3' := k37.mod a4 (by omega)
   have hlk := a1.lookup (P := Tryz.prog) kU32 tmW (zWay W1) x.n true
   simp only [if_true] at hlk
   simp [e5,e6,k5'.cell,hx.cell 8 _ rfl,hlk]
   have hEa : Ext W1 (W1.alloc (.cells #[u64 ((mget mm x.n).getD wyZ).a,i64 ((mget mm x.n).getD wyZ).h,u32 ((mget mm x.n).getD wyZ).n,u32 ((mget mm x.n).getD wyZ).f.fr,u32 ((mget mm x.n).getD wyZ).f.to',u64 ((mget mm x.n).getD wyZ).f.sf,u64 ((mget mm x.n).getD wyZ).f.su,u64 ((mget mm x.n).getD wyZ).f.rate] 50)) := (Ext.refl W1).alloc _
   generalize (W1.alloc (.cells #[u64 ((mget mm x.n).getD wyZ).a,i64 ((mget mm x.n).getD wyZ).h,u32 ((mget mm x.n).getD wyZ).n,u32 ((mget mm x.n).getD wyZ).f.fr,u32 ((mget mm x.n).getD wyZ).f.to',u64 ((mget mm x.n).getD wyZ).f.sf,u64 ((mget mm x.n).getD wyZ).f.su,u64 ((mget mm x.n).getD wyZ).f.rate] 50)) = W2 at *
   have hx2 := hx.ext hEa
   have k3'' := k3'.ext hEa
   have k5'' := k5'.ext hEa
   have b1 := a1.ext hEa
   have b4 := a4.trans hEa.mod
   by_cases hmg : mget mm x.n = none
   ·by_cases hnf : x.n = q.fr
    ·simp [show mget mm q.fr = none from hnf ▸ hmg,e3,e6,(hx2).cell 8 _ rfl,k3''.cell 0 _ rfl,hnf]
     exact ⟨C,⟨mm,b1,a2.old (.inr hnf),a3,b4⟩,Own.of_mod hEa.mod⟩
    ·obtain ⟨W3,hrun,hm3,hM3,hs3⟩ := b1.update (P := Tryz.prog) kU32 tmW x.n (tlWy x)
     simp [hmg,e3,e5,e6,(hx2).cell 0 _ rfl,(hx2).cell 1 _ rfl,(hx2).cell 2 _ rfl,(hx2).cell 3 _ rfl,(hx2).cell 4 _ rfl,(hx2).cell 5 _ rfl,(hx2).cell 6 _ rfl,(hx2).cell 7 _ rfl,(hx2).cell 8 _ rfl,k3''.cell 0 _ rfl,show (x.n != q.fr) = true from by simpa using hnf,k5''.cell]
     simp [wyV,tlWy] at hrun
     simp [hrun]
     exact ⟨C,⟨_,hm3,a2.new hmg hnf,a3,b4.trans hM3⟩,Own.of_mod ((hEa.mod (S := C)).trans (hM3.weaken fun k hk => (a3 k).2 hk))⟩
   ·obtain ⟨y,hy⟩ := Option.ne_none_iff_exists'.1 hmg
    simp [hy]
    exact ⟨C,⟨mm,b1,a2.old (.inl (by rw [hy]; rfl)),a3,b4⟩,Own.of_mod hEa.mod⟩
  ·rintro C xs W1 hS ⟨mm,a1,a2,a3,a4⟩ hD
   have hrt := a2.reach hS hbad
   have hfew := hrt.few (fun f hf => (List.mem_filter.1 (List.mem_filter.1 hf).1).1) a1.nodup
   have k5' := k57.mod a4 (by omega)
   have hX1 : Ext w W1 := ((hX6.trans hE7).mod (S := fun k => w.heap.size ≤ k)).trans (a4.weaken fun k hk => by omega) |>.ext fun _ h => h
   simp
   refine LV_mark hD (by simp) ?_
   have hMp := Mod.putObj (w := W1) w7.heap.size (.deferred none)
   simp
   exact ⟨⟨_,mm,_,rfl,hrt,by omega,k5'.mod hMp (by omega),a1.mod hMp (by omega),by omega,by omega⟩,(hX1.mod (S := fun k => w.heap.size ≤ k)).trans (hMp.weaken fun k hk => by omega) |>.ext fun _ h => h⟩
theorem greach_n {w : World} {g : Value} {nv : Value} {q : Qu} (hn : ∃ a n c, nv = .slice a n c) (hg : ∃ o, g = .pointer o) (hN : ∀ w', Ext w w' → FN Tryz.prog 32 [g] w' fun e w'' => e = .returned (.bool true) ∧ w'' = w') :
  FN Tryz.prog 15 [g,quV q nv] w fun e w' => (∃ b rm,e = .returned (.func (.func 45) #[] #[ptr b]) ∧ Var w' b (.map (some rm)) ∧ MapAt (Value.int .u32) wyV w' rm [] ∧ w.heap.size ≤ b ∧ w.heap.size ≤ rm) ∧ Ext w w' := by
 refine FN_enter Tryz.func15 rfl rfl (by kernel_rfl) ?_
 obtain ⟨na,n,nc,hnv⟩ := hn
 obtain ⟨og,rfl⟩ := hg
 simp [hnv]
 generalize hnv2 : Value.slice na n nc = nv2 at *
 have hsl2 : ∃ a n c,nv2 = .slice a n c := ⟨_,_,_,hnv2.symm⟩
 have hE : Ext w (((w.alloc (.cells #[u32 q.fr,u32 q.to',u64 q.at_,u64 q.size,i64 q.most,nv2] 30)).alloc (.map #[] 0)).alloc (.cells #[.map (some (w.heap.size + 1))] 114)) := (((Ext.refl w).alloc _).alloc _).alloc _
 have h4 : MapAt (Value.int .u32) wyV (((w.alloc (.cells #[u32 q.fr, u32 q.to', u64 q.at_, u64 q.size, i64 q.most, nv2] 30)).alloc (.map #[] 0)).alloc (.cells #[.map (some (w.heap.size + 1))] 114)) (w.heap.size + 1) [] := by
  have := (MapAt.alloc0 (Value.int .u32) wyV (w.alloc (.cells #[u32 q.fr,u32 q.to',u64 q.at_,u64 q.size,i64 q.most,nv2] 30))).ext ((Ext.refl _).alloc (.cells #[.map (some (w.heap.size + 1))] 114))
  simpa using this
 have h5 : Var (((w.alloc (.cells #[u32 q.fr, u32 q.to', u64 q.at_, u64 q.size, i64 q.most, nv2] 30)).alloc (.map #[] 0)).alloc (.cells #[.map (some (w.heap.size + 1))] 114)) (w.heap.size + 2) (.map (some (w.heap.size + 1))) := by
  have := Var.new ((w.alloc (.cells #[u32 q.fr,u32 q.to',u64 q.at_,u64 q.size,i64 q.most,nv2] 30)).alloc (.map #[] 0)) (.map (some (w.heap.size + 1))) 114
  simpa using this
 have hsz : (((w.alloc (.cells #[u32 q.fr,u32 q.to',u64 q.at_,u64 q.size,i64 q.most,nv2] 30)).alloc (.map #[] 0)).alloc (.cells #[.map (some (w.heap.size + 1))] 114)).heap.size = w.heap.size + 3 := by simp
 generalize (((w.alloc (.cells #[u32 q.fr,u32 q.to',u64 q.at_,u64 q.size,i64 q.most,nv2] 30)).alloc (.map #[] 0)).alloc (.cells #[.map (some (w.heap.size + 1))] 114)) = w3 at *
 refine FN.mono (gright_c w3 q nv2 hsl2) ?_
 rintro _ w4 ⟨b,rfl,hb,hE4⟩
 have hX4 := hE.trans hE4
 simp
 have hE5 := (Ext.refl w4).alloc (.cells (askCells (rQn og b q)).toArray 103)
 have hs5 : Sl (w4.alloc (.cells (askCells (rQn og b q)).toArray 103)) 2 (.slice (some ⟨w4.heap.size,0,none⟩) 2 2) 2 (askCells (rQn og b q)) := Sl.made w4 (askCells (rQn og b q)) 103 2 2 rfl
 rw [show (askCells (rQn og b q)).toArray = #[.func (.func 32) #[.pointer og] #[],i64 1,.func (.func 88) #[] #[ptr b],i64 2] from rfl] at hE5 hs5
 generalize (w4.alloc (.cells #[.func (.func 32) #[.pointer og] #[],i64 1,.func (.func 88) #[] #[ptr b],i64 2] 103)) = w5 at *
 have hX5 := hX4.trans hE5
 have hask := askedG_c (w := w5) (rQn og b q) hs5 (by simp [rQn]) (fun x hx => by
  simp [rQn] at hx
  rcases hx with rfl | rfl <;> exact ⟨_,_,_,rfl⟩) (fun i x hx hp w' hw' => by
  match i,hx with
  | 0, hx =>
   simp [rQn] at hx; subst hx
   exact FN.mono (hN _ (hX5.trans hw')) fun _ _ h => ⟨h.1,h.2 ▸ Ext.refl _⟩
  | i + 1, hx =>
   have := hp 0 _ (by omega) rfl
   cases this)
 refine FN.mono (hask) ?_
 rintro _ w6 ⟨rfl,hE6⟩
 have hX6 := hX5.trans hE6
 have hE36 := (hE4.trans hE5).trans hE6
 have heQ : askE (rQn og b q) = 1 := rfl
 rw [heQ]
 simp
 exact ⟨⟨_,h5.ext hE36,h4.ext hE36,by omega,by omega⟩,hX6⟩
end Go.Proofs