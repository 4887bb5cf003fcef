/-
 Contracts of the functions that the law reaches,step by step.
-/
import Derived.Test.YtdflcfoalhhjlaaGreatRtB
namespace Go.Proofs
open Pk
set_option maxRecDepth 10000
abbrev wtC (x : Tl) : List Value := wyC (tlWy x)
theorem wt_one (l : List Tl) : ∀ u ∈ l.flatMap wtC, u.oneCell' = true := by
 intro u hu
 obtain ⟨x,-,hx⟩ := List.mem_flatMap.1 hu
 simp at hx
 rcases hx with rfl | rfl | rfl | rfl | rfl | rfl | rfl | rfl <;> rfl
def badM (q : Qu) (til many : Int) : Bool := badW q til || (decide (many < 1) || decide (32 < many))
structure WaysT (L : List Ct) (snt : Ct → Int → Option Int) (q : Qu) (til many : Int) (l : List Tl) (n : Int) : Prop where
 bad : badM q til many = true → l = [] ∧ n = 2
 ok : badM q til many = false → WaysP L snt q til q.no l ∧ (l.length : Int) ≤ many ∧ ((l.length : Int) < many → WaysOf L snt q til q.no l) ∧ n = if l = [] then 310 else 0
def WaysE (L : List Ct) (snt : Ct → Int → Option Int) (q : Qu) (til many : Int) (w : World) (e : Ending) (w' : World) : Prop :=
 ∃ (vo : Value) (l : List Tl) (n : Int),e = .returned (.tuple #[vo,i64 n]) ∧ SlB w' 8 vo l.length (l.flatMap wtC) ∧ WaysT L snt q til many l n ∧ (l ≠ [] → w.heap.size ≤ slB vo)
structure WJ (w5 : World) (bo base : Nat) (C : Nat → Prop) (pre : List Tl) (vo : Value) (W : World) : Prop where
 v : Var W bo vo
 o : W.ownsRow base 66 8 vo pre.length (pre.flatMap wtC)
 c : ∀ k,C k ↔ k = bo ∨ (slN vo = false ∧ k = slB vo)
 m : Mod (fun k => k = bo) w5 W
theorem WJ.agr {w5 W W' : World} {bo base : Nat} {C : Nat → Prop} {pre : List Tl} {vo : Value} (h : WJ w5 bo base C pre vo W) (hag : Agr (fun k => k < w5.heap.size ∨ C k) W W') : WJ w5 bo base C pre vo W' :=
 ⟨h.v.agr hag (.inr ((h.c _).2 (.inl rfl))),own_keep h.o fun hn hl => hag.blk _ hl (.inr ((h.c _).2 (.inr ⟨hn,rfl⟩))),h.c,h.m.agr_old hag⟩
set_option maxHeartbeats 4000000 in
theorem rways_c {w : World} {g p t R a r : Nat} {v nv : Value} {L : List Ct} {M : ME} {m : VM} {q : Qu} {til many : Int} (h : GrAt w g p v L t R M a r m) (hno : SlB w 5 nv q.no.length (q.no.flatMap ctC)) (hg : gdT M) (hm : vmOk m) (hsl : ∀ p, (sps M p).length ≤ 255) (hq : QuOk q)
  (hL : ∀ c ∈ L,CtOk c) (hl : L.length ≤ 14) (hnl : q.no.length ≤ 800) : FN Tryz.prog 11 [ptr g,quV q nv,u64 til,i64 many] w fun e w' => WaysE L (gSnt M m q.size) q til many w e w' ∧ Ext w w' := by
 refine FN_enter Tryz.func11 rfl rfl (by kernel_rfl) ?_
 obtain ⟨na,nc,rfl⟩ := hno.isSlice
 have hE : Ext w (((w.alloc (.cells #[u32 q.fr,u32 q.to',u64 q.at_,u64 q.size,i64 q.most,(Value.slice na q.no.length nc)] 29)).alloc (.cells #[i64 many] 3)).alloc (.cells #[.slice none 0 0] 48)) := (((Ext.refl w).alloc _).alloc _).alloc _
 have k3 : Blk (((w.alloc (.cells #[u32 q.fr,u32 q.to',u64 q.at_,u64 q.size,i64 q.most,(Value.slice na q.no.length nc)] 29)).alloc (.cells #[i64 many] 3)).alloc (.cells #[.slice none 0 0] 48)) w.heap.size (quC q (Value.slice na q.no.length nc)) := (Blk.new w (quC q (Value.slice na q.no.length nc)) 29).ext (((Ext.refl _).alloc _).alloc _)
 have m3 : Var (((w.alloc (.cells #[u32 q.fr, u32 q.to', u64 q.at_, u64 q.size, i64 q.most, (Value.slice na q.no.length nc)] 29)).alloc (.cells #[i64 many] 3)).alloc (.cells #[.slice none 0 0] 48)) (w.heap.size + 1) (i64 many) := by
  have := (Var.new (w.alloc (.cells #[u32 q.fr,u32 q.to',u64 q.at_,u64 q.size,i64 q.most,(Value.slice na q.no.length nc)] 29)) (i64 many) 3).ext ((Ext.refl _).alloc (.cells #[.slice none 0 0] 48))
  simpa using this
 have o3 : Var (((w.alloc (.cells #[u32 q.fr, u32 q.to', u64 q.at_, u64 q.size, i64 q.most, (Value.slice na q.no.length nc)] 29)).alloc (.cells #[i64 many] 3)).alloc (.cells #[.slice none 0 0] 48)) (w.heap.size + 1 + 1) (.slice none 0 0) := by
  have := Var.new ((w.alloc (.cells #[u32 q.fr,u32 q.to',u64 q.at_,u64 q.size,i64 q.most,(Value.slice na q.no.length nc)] 29)).alloc (.cells #[i64 many] 3)) (.slice none 0 0) 48
  simpa using this
 simp
 generalize (((w.alloc (.cells #[u32 q.fr,u32 q.to',u64 q.at_,u64 q.size,i64 q.most,(Value.slice na q.no.length nc)] 29)).alloc (.cells #[i64 many] 3)).alloc (.cells #[.slice none 0 0] 48)) = w1 at *
 refine FN.mono (gbest_c (h.ext hE) (hno.ext hE) hg hm hsl hq hL hl (by omega)) ?_
 rintro _ w2 ⟨⟨x,n,rfl,hT⟩,hE2⟩
 have hX2 := hE.trans hE2
 have k4 := k3.ext hE2
 have m4 := m3.ext hE2
 have o4 := o3.ext hE2
 have ol := o3.lt
 obtain ⟨snt,hsnt⟩ : ∃ snt,snt = gSnt M m q.size := ⟨_,rfl⟩
 rw [← hsnt] at hT ⊢
 have fin : ∀ (W : World) (u : Value), Ext w W → Ext w (W.setCell ⟨w.heap.size + 1 + 1, 0, none⟩ u) := fun W u h =>
  (h.mod (S := fun k => w.heap.size ≤ k)).trans ((Mod.setCell (S := fun k => k = w.heap.size + 1 + 1) (Mod.refl _ W) ⟨w.heap.size + 1 + 1,0,none⟩ u (.inl rfl)).weaken fun k hk => by omega) |>.ext fun _ h => h
 have badE' : ∀ (W : World), badM q til many = true → WaysE L snt q til many w (.returned (.tuple #[.slice none 0 0, i64 2])) W := fun W hb =>
  ⟨.slice none 0 0,[],2,rfl,SlB.nil _ _ _,⟨fun _ => ⟨rfl,rfl⟩,fun h => by rw [hb] at h; cases h⟩,fun h => (h rfl).elim⟩
 cases hbad : badQ q || badE q with
 | true =>
  obtain ⟨rfl,rfl⟩ := hT.bad hbad
  simp [o4.cell,o4.thaw,(o4.set _).cell]
  exact ⟨badE' _ (by unfold badM badW; simp [hbad]),fin _ _ hX2⟩
 | false =>
  have hn : n = 0 ∨ n = 310 := by
   rcases hT.ok hbad with ⟨_, _, _, h⟩ | ⟨_, _, h⟩
   ·exact .inl h
   ·exact .inr h
  have hE3 : Ext w2 (w2.alloc (.cells #[u64 til] 27)) := (Ext.refl w2).alloc _
  have hs1 : Sl (w2.alloc (.cells #[u64 til] 27)) 1 (.slice (some ⟨w2.heap.size,0,none⟩) 1 1) 1 ([til].map u64) := Sl.made w2 ([til].map u64) 27 1 1 rfl
  refine with_tail (T := ∀ (σ : Env),(σ 0 = ptr g ∧ σ 2 = u64 til ∧ σ 5 = ptr w.heap.size ∧ σ 7 = ptr (w.heap.size + 1) ∧ σ 8 = ptr (w.heap.size + 1 + 1)) → FNt Tryz.prog 37 [.slice (some ⟨w2.heap.size,0,none⟩) 1 1] (w2.alloc (.cells #[u64 til] 27)) (RC ?dA ?KA ?QA σ []) Tok.mk) (fun tail => ?br) ?jn
  case br =>
   by_cases h0 : n = 0
   ·simp [h0]
    refine tail _ ⟨?_,?_,?_,?_,?_⟩ <;> simp
   ·have h1 : n = 310 := by omega
    simp [h1]
    refine tail _ ⟨?_,?_,?_,?_,?_⟩ <;> simp
  case jn =>
   rintro σ ⟨f0,f2,f5,f7,f8⟩
   generalize (w2.alloc (.cells #[u64 til] 27)) = w3 at *
   refine FN.mono (ccheck_c (l := [til]) hs1 (by simp)) ?_
   rintro _ w4 ⟨rfl,hE4⟩
   have hX24 := hE3.trans hE4
   have hX4 := hX2.trans hX24
   have k5 := k4.ext hX24
   have m5 := m4.ext hX24
   have o5 := o4.ext hX24
   by_cases htil : til ≤ 4611686018427387903
   case neg =>
    have e0 : timesOk [til] = false := by simp [timesOk,htil]
    simp [e0,f8,o5.cell,o5.thaw,(o5.set _).cell]
    exact ⟨badE' _ (by unfold badM badW; simp; omega),fin _ _ hX4⟩
   have e0 : timesOk [til] = true := by simp [timesOk,htil]
   have hbW : badW q til = false := by unfold badW; rw [hbad]; simp; omega
   by_cases hm1 : many < 1
   ·simp [e0,f7,f8,m5.cell,hm1,o5.cell,o5.thaw,(o5.set _).cell]
    exact ⟨badE' _ (by unfold badM; simp [hm1]),fin _ _ hX4⟩
   by_cases hm2 : 32 < many
   ·simp [e0,f7,f8,m5.cell,hm1,hm2,o5.cell,o5.thaw,(o5.set _).cell]
    exact ⟨badE' _ (by unfold badM; simp [hm2]),fin _ _ hX4⟩
   have hbM : badM q til many = false := by unfold badM; simp [hbW]; omega
   simp [e0,f0,f2,f5,f7,m5.cell,hm1,hm2,(k5).cell 0 _ rfl,(k5).cell 1 _ rfl,(k5).cell 2 _ rfl,(k5).cell 3 _ rfl,(k5).cell 4 _ rfl,(k5).cell 5 _ rfl]
   refine FN.mono (each_c w4 (ptr g) q (Value.slice na q.no.length nc) til ⟨_,_,_,rfl⟩ ⟨_,rfl⟩) ?_
   rintro _ w5 ⟨bg,bq,bt,rfl,vg,vq,vt,hE5,y1,y2,y3⟩
   have hX5 := hX4.trans hE5
   have z4 := hX4.size
   have z5 := hE5.size
   have ol5 := (o5.ext hE5).lt
   have ol4 := o5.lt
   have hG5 := h.ext hX5
   have hW5 : Wst w5 (fun k => k < w5.heap.size ∧ k ≠ w.heap.size + 1 + 1) g p v L t R M a r m bg bq q (Value.slice na q.no.length nc) := ⟨vg, vq, hG5, hno.ext hX5, ⟨vg.lt, by omega⟩, ⟨vq.lt, by omega⟩, ⟨hG5.blk.lt, by have := h.blk.lt; omega⟩, ⟨hG5.plan.lt, by have := h.plan.lt; omega⟩, fun hn => ⟨hG5.plan.rlt hn, by have := h.plan.rlt hn; omega⟩, fun k hk => ⟨hG5.tab.lt k hk, by have := h.tab.lt k hk; omega⟩, ⟨hG5.led.lt.1, by have := h.led.lt; omega⟩, ⟨hG5.led.lt.2, by have := h.led.lt; omega⟩, fun hn => ⟨(hno.ext hX5).lt (List.length_pos_iff.2 fun e => hn (by
    cases hq0 : q.no with
    | nil => rfl
    | cons c cs => rw [hq0] at e; simp at e)), by
     have := hno.lt (List.length_pos_iff.2 fun e => hn (by
      cases hq0 : q.no with
      | nil => rfl
      | cons c cs => rw [hq0] at e; simp at e))
     omega⟩⟩
   have hit := each_it (til := til) hW5 vt ⟨vt.lt,by omega⟩ hg hm hsl hq hL hl hnl (fun k hk => hk.1)
   rw [← hsnt] at hit
   have last : ∀ (C : Nat → Prop) (l : List Tl) (W1 : World) (ao : Option Addr) (ac : Nat), WJ w5 (w.heap.size + 1 + 1) w5.heap.size C l (.slice ao l.length ac) W1 → W1.heap[w5.heap.size]? = some (.deferred (some [])) → l ≠ [] → WaysT L snt q til many l 0 →
     ∀ σ : Env,(σ 8 = ptr (w.heap.size + 1 + 1) ∧ σ 9 = i64 0) → LV Tryz.prog #[.cell 8 48,.tmp 9] (fun e w' => WaysE L snt q til many w e w' ∧ Ext w w') σ [{ target := .collected w5.heap.size,args := #[] }] .returning (W1.setCell ⟨w.heap.size + 1 + 1,0,none⟩ (.slice ao l.length ac)) := by
    rintro C l W1 ao ac hj hD hne hT9 σ ⟨s8,s9⟩
    have z1 := hj.m.size
    have hDl := (Array.getElem?_eq_some_iff.1 hD).1
    have hX1 : Ext w W1 := (hX5.mod (S := fun k => w.heap.size ≤ k)).trans (hj.m.weaken fun k hk => by omega) |>.ext fun _ h => h
    have hMs := Mod.setCell (S := fun k => k = w.heap.size + 1 + 1) (Mod.refl _ W1) ⟨w.heap.size + 1 + 1,0,none⟩ (.slice ao l.length ac) (.inl rfl)
    have v2 := hj.v.set (.slice ao l.length ac)
    have hF := fin W1 (.slice ao l.length ac) hX1
    have hD2 := hMs.obj hD (by omega)
    have hn := own_nil hj.o (List.length_pos_iff.2 hne)
    have hge := own_ge hj.o hn
    obtain ⟨cc,hcc⟩ := own_obj hj.o hn
    have hsl2 := (sl_of_own hj.o).toB.mod hMs fun _ => (by omega)
    generalize (W1.setCell ⟨w.heap.size + 1 + 1,0,none⟩ (.slice ao l.length ac)) = W2 at *
    refine LV_mark hD2 (by simp) ?_
    have hMp := Mod.putObj (w := W2) w5.heap.size (.deferred none)
    have v3 := v2.mod hMp (by omega)
    simp [s8,s9,v3.cell]
    refine ⟨⟨.slice ao l.length ac,l,0,rfl,hsl2.mod hMp fun _ e => ?_,hT9,fun _ => by omega⟩,((hF.mod (S := fun k => w.heap.size ≤ k)).trans (hMp.weaken fun k hk => by omega)).ext fun _ h => h⟩
    rw [e,hD] at hcc
    cases hcc
   simp
   refine WC_rangeFuncA (gf := 39) (first := #[]) (caps := #[ptr bq, ptr bt, ptr bg]) (enc := fun x : Tl => [wyV (tlWy x)]) (by simp) (fun _ _ => callFunc_enter Tryz.func39 rfl rfl _ _) hit (fun x => rfl) (fun k => k = w.heap.size + 1 + 1)
    (fun C pre W' => ∃ vo,WJ w5 (w.heap.size + 1 + 1) w5.heap.size C pre vo W' ∧ (pre.length : Int) < many)
    (fun c C pre W' => c = .exit 0 ∧ ∃ vo,WJ w5 (w.heap.size + 1 + 1) w5.heap.size C pre vo W' ∧ (pre.length : Int) = many)
    (fun k hk => hk) (fun k hk => by omega) ?_ ?_ ⟨.slice none 0 0,⟨o5.ext hE5,World.ownsRow_nil _ _ _ _,fun k => by simp [slN],Mod.refl _ _⟩,by simp; omega⟩ (fun x B ρ' W' => ∃ q6,ρ' 10 = ptr q6 ∧ B ≤ q6 ∧ Blk W' q6 (wtC x) ∧ ρ' 7 = ptr (w.heap.size + 1) ∧ ρ' 8 = ptr (w.heap.size + 1 + 1)) ?_ ?_ ?_ ?_ ?_
   ·rintro C pre W1 W2 ⟨vo,h1,h2⟩ hag
    exact ⟨vo,h1.agr hag,h2⟩
   ·rintro c C pre W1 W2 ⟨h0,vo,h1,h2⟩ hag
    exact ⟨h0,vo,h1.agr hag,h2⟩
   ·rintro x B ρ' W1 W2 ⟨q6,h1,h2,h3,h4⟩ hag
    exact ⟨q6,h1,h2,h3.agr hag h2,h4⟩
   ·intro lp x W1
    simp [f7,f8]
    exact ⟨(Ext.refl W1).alloc _,Blk.new W1 (wtC x) 66⟩
   ·rintro lp C pre x B ρ' W1 hsp ⟨vo,hj,hlt⟩ hl1 hl2 - hBW ⟨q6,e10,hB,hx,e7,e8⟩
    have z1 := hj.m.size
    have hplen := hsp.len
    rw [List.length_append,List.length_singleton] at hplen
    obtain ⟨ao,ac,hvo⟩ := own_val hj.o
    have hE6 : Ext W1 (W1.alloc (.cells #[u64 (tlWy x).a,i64 (tlWy x).h,u32 (tlWy x).n,u32 (tlWy x).f.fr,u32 (tlWy x).f.to',u64 (tlWy x).f.sf,u64 (tlWy x).f.su,u64 (tlWy x).f.rate] 66)) := (Ext.refl W1).alloc _
    have hone : Sl (W1.alloc (.cells #[u64 (tlWy x).a,i64 (tlWy x).h,u32 (tlWy x).n,u32 (tlWy x).f.fr,u32 (tlWy x).f.to',u64 (tlWy x).f.sf,u64 (tlWy x).f.su,u64 (tlWy x).f.rate] 66)) 8 (.slice (some ⟨W1.heap.size,0,none⟩) 1 1) 1 (wtC x) := Sl.made W1 (wtC x) 66 8 1 rfl
    simp [e8,e10,hj.v.cell,(hx).cell 0 _ rfl,(hx).cell 1 _ rfl,(hx).cell 2 _ rfl,(hx).cell 3 _ rfl,(hx).cell 4 _ rfl,(hx).cell 5 _ rfl,(hx).cell 6 _ rfl,(hx).cell 7 _ rfl]
    generalize (W1.alloc (.cells #[u64 (tlWy x).a,i64 (tlWy x).h,u32 (tlWy x).n,u32 (tlWy x).f.fr,u32 (tlWy x).f.to',u64 (tlWy x).f.sf,u64 (tlWy x).f.su,u64 (tlWy x).f.rate] 66)) = W2 at *
    have z2 := hE6.size
    obtain ⟨v',W3,hr3,ho3,hM3,hn3⟩ := append_own (P := Tryz.prog) (t := 48) (ty := 48) (e := 66) (s := 8) (by simp) (by simp) (by kernel_rfl) (own_ext hj.o hE6) hone (fun u hu => wt_one [x] u (by simpa using hu)) (by omega) (by omega)
    have v3 := (hj.v.ext hE6).mod hM3 (fun ⟨h1,h2⟩ => by have := own_ge hj.o h1; omega)
    have m5' := ((m5.ext hE5).mod hj.m (by omega)).ext hE6 |>.mod hM3 (fun ⟨h1,h2⟩ => by have := own_ge hj.o h1; omega)
    obtain ⟨ao',ac',rfl⟩ := own_val ho3
    have hMs := Mod.setCell (S := fun k => k = w.heap.size + 1 + 1) (Mod.refl _ W3) ⟨w.heap.size + 1 + 1,0,none⟩ (.slice ao' (pre.length + 1) ac') (.inl rfl)
    have v4 := v3.set (.slice ao' (pre.length + 1) ac')
    have m6 := m5'.mod hMs (by omega)
    have ho4 := own_keep (w' := W3.setCell ⟨w.heap.size + 1 + 1,0,none⟩ (.slice ao' (pre.length + 1) ac')) ho3 fun hn hl => hMs.blk _ hl fun e => by have := own_ge ho3 hn; omega
    have hMall : Mod (fun k => k = w.heap.size + 1 + 1 ∨ (slN vo = false ∧ k = slB vo)) W1 (W3.setCell ⟨w.heap.size + 1 + 1,0,none⟩ (.slice ao' (pre.length + 1) ac')) := (hE6.mod.trans (hM3.weaken fun k hk => .inr hk)).trans (hMs.weaken fun k hk => .inl hk)
    have hW6 : ∃ C', WJ w5 (w.heap.size + 1 + 1) w5.heap.size C' (pre ++ [x]) (.slice ao' (pre.length + 1) ac') (W3.setCell ⟨w.heap.size + 1 + 1, 0, none⟩ (.slice ao' (pre.length + 1) ac')) ∧ Own C C' W1 (W3.setCell ⟨w.heap.size + 1 + 1, 0, none⟩ (.slice ao' (pre.length + 1) ac')) := by
     refine ⟨fun k => k = w.heap.size + 1 + 1 ∨ (slN (.slice ao' (pre.length + 1) ac') = false ∧ k = slB (.slice ao' (pre.length + 1) ac')), ⟨v4, by simpa [List.flatMap_append] using ho4, fun k => Iff.rfl, ?_⟩, ⟨hMall.weaken fun k hk => (hj.c k).2 hk, ?_, ?_⟩⟩
     ·exact ⟨hMall.os.trans hj.m.os, hMall.tape.trans hj.m.tape, hMall.out.trans hj.m.out, Nat.le_trans hj.m.size hMall.size, fun b hb hs => (hMall.blk b (by omega) (by
       rintro (hk | ⟨hk1, hk2⟩)
       ·exact hs hk
       ·have := own_ge hj.o hk1; omega)).trans (hj.m.blk b hb hs)⟩
     ·rintro k (hk | ⟨hk1, hk2⟩)
      ·exact .inl ((hj.c k).2 (.inl hk))
      ·rcases hn3 hk1 with ⟨h1, h2⟩ | h1
       ·exact .inl ((hj.c k).2 (.inr ⟨h1,by rw [hk2,h2]⟩))
       ·exact .inr (by omega)
     ·rintro k (hk | ⟨hk1, hk2⟩)
      ·exact .inl ((hj.c k).2 (.inl hk))
      ·refine .inr ?_
       have := own_lt ho4 hk1
       omega
    obtain ⟨C',hj6,hown⟩ := hW6
    have hlen : (((pre ++ [x]).length : Nat) : Int) = (pre.length : Int) + 1 := by simp
    by_cases hz : (pre.length : Int) + 1 = many
    ·simp [hr3,e7,e8,v3.cell,v3.thaw,v4.cell,m6.cell,hz]
     exact ⟨C',⟨_,hj6⟩,hown⟩
    ·simp [hr3,e7,e8,v3.cell,v3.thaw,v4.cell,m6.cell,beq_dec,hz]
     refine ⟨C',?_,hown⟩
     exact ⟨⟨_,hj6⟩,by omega⟩
   ·rintro C xs W1 hxs ⟨vo,hj,hlt⟩ hD
    have hxs' : WaysOf L snt q til q.no xs := by
     unfold EachS at hxs
     rwa [hbW] at hxs
    obtain ⟨ao,ac,rfl⟩ := own_val hj.o
    have z1 := hj.m.size
    have hDl := (Array.getElem?_eq_some_iff.1 hD).1
    have hX1 : Ext w W1 := (hX5.mod (S := fun k => w.heap.size ≤ k)).trans (hj.m.weaken fun k hk => by omega) |>.ext fun _ h => h
    have lenO := fun ty W' => (sl_of_own hj.o).isLen (P := Tryz.prog) (t := 48) (by simp) ty W'
    by_cases hx0 : xs = []
    ·subst hx0
     have hMs := Mod.setCell (S := fun k => k = w.heap.size + 1 + 1) (Mod.refl _ W1) ⟨w.heap.size + 1 + 1,0,none⟩ (.slice none 0 0) (.inl rfl)
     have v2 := hj.v.set (.slice none 0 0)
     have hF := fin W1 (.slice none 0 0) hX1
     have hD2 := hMs.obj hD (by omega)
     simp [f8,hj.v.cell,hj.v.thaw]
     generalize (W1.setCell ⟨w.heap.size + 1 + 1,0,none⟩ (.slice none 0 0)) = W2 at *
     refine LV_mark hD2 (by simp) ?_
     have hMp := Mod.putObj (w := W2) w5.heap.size (.deferred none)
     have v3 := v2.mod hMp (by omega)
     simp [f8,v3.cell]
     exact ⟨⟨.slice none 0 0,[],310,rfl,SlB.nil _ _ _,⟨fun h => (by rw [hbM] at h; cases h),fun _ => ⟨hxs'.wyp,by simp; omega,fun _ => hxs',rfl⟩⟩,fun h => (h rfl).elim⟩,((hF.mod (S := fun k => w.heap.size ≤ k)).trans (hMp.weaken fun k hk => by omega)).ext fun _ h => h⟩
    ·have hl0 : ¬ xs.length = 0 := fun e => hx0 (List.eq_nil_of_length_eq_zero e)
     simp [f8,hj.v.cell,hj.v.thaw,lenO,hx0,beq_dec]
     exact last C xs W1 ao ac hj hD hx0 ⟨fun h => (by rw [hbM] at h; cases h),fun _ => ⟨hxs'.wyp,by omega,fun _ => hxs',by rw [if_neg hx0]⟩⟩ _ (by simp [f8])
   ·rintro c C pre W1 hsp ⟨rfl,vo,hj,heq⟩ hD
    obtain ⟨ao,ac,rfl⟩ := own_val hj.o
    have z1 := hj.m.size
    have hX1 : Ext w W1 := (hX5.mod (S := fun k => w.heap.size ≤ k)).trans (hj.m.weaken fun k hk => by omega) |>.ext fun _ h => h
    have lenO := fun ty W' => (sl_of_own hj.o).isLen (P := Tryz.prog) (t := 48) (by simp) ty W'
    have hx0 : ¬ pre = [] := fun e => by subst e; simp at heq; omega
    simp [f8,hj.v.cell,hj.v.thaw,lenO,hx0,beq_dec]
    exact last C pre W1 ao ac hj hD hx0 ⟨fun h => (by rw [hbM] at h; cases h),fun _ => ⟨by unfold EachP at hsp; rwa [hbW] at hsp,by omega,fun h => (by omega),by rw [if_neg hx0]⟩⟩ _ (by simp [f8])
end Go.Proofs