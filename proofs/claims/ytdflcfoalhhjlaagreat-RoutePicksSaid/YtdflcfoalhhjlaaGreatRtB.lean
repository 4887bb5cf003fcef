/-
 Ways one by one,plain: a beginning of the ways.
-/
import Derived.Test.YtdflcfoalhhjlaaGreatRtA
import Derived.Test.YtdflcfoalhhjlaaGreatRuC
namespace Go.Proofs.Gr
section
variable (L : List Ct) (snt : Ct → Int → Option Int) (fr at0 : Int) (K : Nat) (to' til : Int)
inductive Wyp : List Ct → List Tl → Prop
 | nil (no : List Ct) : Wyp no []
 | cons (no : List Ct) (t : Tl) (l : List Tl) (h : BestOf L snt (Fs L fr no) at0 K to' t) (ht : t.a < til) (hl : Wyp (no ++ [t.f]) l) : Wyp no (t :: l)
end
variable {L : List Ct} {snt snt' : Ct → Int → Option Int} {fr at0 : Int} {K : Nat} {to' til : Int}
theorem Wys.wyp {no : List Ct} {l : List Tl} (h : Wys L snt fr at0 K to' til no l) : Wyp L snt fr at0 K to' til no l := by
 induction h with
 | nil no h => exact .nil no
 | cons no t l h ht hl ih => exact .cons no t l h ht ih
theorem Wyp.snoc {no : List Ct} {l : List Tl} (h : Wyp L snt fr at0 K to' til no l) {t : Tl} (hb : BestOf L snt (Fs L fr (no ++ l.map (·.f))) at0 K to' t) (ht : t.a < til) : Wyp L snt fr at0 K to' til no (l ++ [t]) := by
 induction h with
 | nil no => exact .cons no t [] (by simpa using hb) ht (.nil _)
 | cons no s l h hs hl ih => exact .cons no s (l ++ [t]) h hs (ih (by simpa using hb))
theorem Wyp.wys {no : List Ct} {l : List Tl} (h : Wyp L snt fr at0 K to' til no l) {r : List Tl} (hr : Wys L snt fr at0 K to' til (no ++ l.map (·.f)) r) : Wys L snt fr at0 K to' til no (l ++ r) := by
 induction h with
 | nil no => simpa using hr
 | cons no s l h hs hl ih => exact .cons no s (l ++ r) h hs (ih (by simpa using hr))
theorem Wyp.pre (hA : FApart (Fs L fr [])) {no : List Ct} {l l' : List Tl} (h : Wyp L snt fr at0 K to' til no l) (h' : Wys L snt fr at0 K to' til no l') : ∃ r, l' = l ++ r := by
 induction h generalizing l' with
 | nil no => exact ⟨l',rfl⟩
 | cons no t l h ht hl ih =>
  cases h' with
  | nil _ h1 =>
   rcases h1 with ⟨t', h4, h5⟩ | h4
   ·have := h.uniq (Fs_apart hA no) h4
    subst this
    omega
   ·exact (h4 t h.wk h.h h.at_).elim
  | cons _ t' l' h1 h2 h3 =>
   obtain rfl := h.uniq (Fs_apart hA no) h1
   obtain ⟨r,rfl⟩ := ih h3
   exact ⟨r,rfl⟩
theorem Wyp.mem {no : List Ct} {l : List Tl} (h : Wyp L snt fr at0 K to' til no l) : ∀ x ∈ l, x.f ∈ Fs L fr no ∧ x.n = to' ∧ x.h ≤ K ∧ x.a < til := by
 induction h with
 | nil => simp
 | cons no t l h ht hl ih =>
  intro x hx
  rcases List.mem_cons.1 hx with rfl | hx
  ·exact ⟨h.wk.f_mem,h.at_,h.h,ht⟩
  ·obtain ⟨h2,h3⟩ := ih x hx
   have hf := mem_Fs.1 h2
   exact ⟨mem_Fs.2 ⟨hf.1,hf.2.1,fun hn => hf.2.2 (by simp [hn])⟩,h3⟩
theorem Wyp.firsts {no : List Ct} {l : List Tl} (h : Wyp L snt fr at0 K to' til no l) : (l.map (·.f)).Nodup := by
 induction h with
 | nil => simp
 | cons no t l h ht hl ih =>
  simp only [List.map_cons,List.nodup_cons]
  refine ⟨fun hm => ?_,ih⟩
  obtain ⟨x,hx,e⟩ := List.mem_map.1 hm
  have := (mem_Fs.1 (hl.mem x hx).1).2.2
  rw [e] at this
  simp at this
theorem Wyp.len {no : List Ct} {l : List Tl} (h : Wyp L snt fr at0 K to' til no l) : l.length ≤ L.length := by
 have := sub_len h.firsts (m := L) fun c hc => by
  obtain ⟨x,hx,rfl⟩ := List.mem_map.1 hc
  exact (mem_Fs.1 (h.mem x hx).1).1
 simpa using this
theorem Wyp.cmp (hA : FApart (Fs L fr [])) {no : List Ct} {l l' : List Tl} (h : Wyp L snt fr at0 K to' til no l) (h' : Wyp L snt fr at0 K to' til no l') (hl : l.length ≤ l'.length) : ∃ r, l' = l ++ r := by
 induction h generalizing l' with
 | nil no => exact ⟨l',rfl⟩
 | cons no t l h ht hl ih =>
  cases h' with
  | nil _ => simp at hl
  | cons _ t' l' h1 h2 h3 =>
   obtain rfl := h.uniq (Fs_apart hA no) h1
   obtain ⟨r,rfl⟩ := ih h3 (by simpa using hl)
   exact ⟨r,rfl⟩
theorem Wyp.same (hA : FApart (Fs L fr [])) {no : List Ct} {n : Nat} {l l' : List Tl} (h : Wyp L snt fr at0 K to' til no l) (hn : l.length ≤ n) (hs : l.length < n → Wys L snt fr at0 K to' til no l) (h' : Wyp L snt fr at0 K to' til no l') (hn' : l'.length ≤ n) (hs' : l'.length < n → Wys L snt fr at0 K to' til no l') : l = l' := by
 rcases Nat.lt_trichotomy l.length l'.length with k | k | k
 ·obtain ⟨r,e⟩ := h'.pre hA (hs (by omega))
  have := congrArg List.length e
  rw [List.length_append] at this
  omega
 ·obtain ⟨r,e⟩ := h.cmp hA h' (by omega)
  have := congrArg List.length e
  rw [List.length_append] at this
  have hr : r = [] := List.eq_nil_of_length_eq_zero (by omega)
  rw [e,hr,List.append_nil]
 ·obtain ⟨r,e⟩ := h.pre hA (hs' (by omega))
  have := congrArg List.length e
  rw [List.length_append] at this
  omega
end Go.Proofs.Gr
namespace Go.Proofs
open Pk
set_option maxRecDepth 10000
def badW (q : Qu) (til : Int) : Bool := (badQ q || badE q) || decide (4611686018427387903 < til)
abbrev WaysP (L : List Ct) (snt : Ct → Int → Option Int) (q : Qu) (til : Int) : List Ct → List Tl → Prop := Gr.Wyp L snt q.fr q.at_ q.most.toNat q.to' til
def EachS (L : List Ct) (snt : Ct → Int → Option Int) (q : Qu) (til : Int) (xs : List Tl) : Prop := if badW q til = true then xs = [] else WaysOf L snt q til q.no xs
def EachP (L : List Ct) (snt : Ct → Int → Option Int) (q : Qu) (til : Int) (xs : List Tl) : Prop := if badW q til = true then xs = [] else WaysP L snt q til q.no xs
theorem way_best {L : List Ct} {snt : Ct → Int → Option Int} {q : Qu} {no : List Ct} {x : Wy} (hb : (badQ q || badE q) = false) (h : BestT L snt (firsts L (qNo q no)) (qNo q no) x 0) :
  ∃ t,x = tlWy t ∧ Gr.BestOf L snt (Gr.Fs L q.fr no) q.at_ q.most.toNat q.to' t := by
 rw [firsts_Fs] at h
 rcases h.ok hb with ⟨t, h1, rfl, -⟩ | ⟨-, -, h2⟩
 ·exact ⟨t,rfl,h1⟩
 ·cases h2
theorem each_c (w : World) (g : Value) (q : Qu) (nv : Value) (til : Int) (hn : ∃ a n c, nv = .slice a n c) (h : ∃ o, g = .pointer o) : FN Tryz.prog 17 [g, quV q nv, u64 til] w fun e w' => ∃ bg bq bt, e = .returned (.func (.func 39) #[] #[ptr bq, ptr bt, ptr bg]) ∧ Var w' bg g ∧ Blk w' bq (quC q nv) ∧ Var w' bt (u64 til) ∧ Ext w w' ∧ w.heap.size ≤ bg ∧ w.heap.size ≤ bq ∧ w.heap.size ≤ bt := by
 obtain ⟨o,rfl⟩ := h
 refine FN_enter Tryz.func17 rfl rfl (by kernel_rfl) ?_
 have h1 := (Var.new w (.pointer o) 34).ext (((Ext.refl _).alloc (.cells #[u32 q.fr,u32 q.to',u64 q.at_,u64 q.size,i64 q.most,nv] 29)).alloc (.cells #[u64 til] 27))
 have h2 := (Blk.new (w.alloc (.cells #[.pointer o] 34)) (quC q nv) 29).ext ((Ext.refl _).alloc (.cells #[u64 til] 27))
 have h3 := Var.new ((w.alloc (.cells #[.pointer o] 34)).alloc (.cells #[u32 q.fr,u32 q.to',u64 q.at_,u64 q.size,i64 q.most,nv] 29)) (u64 til) 27
 have hE : Ext w (((w.alloc (.cells #[.pointer o] 34)).alloc (.cells #[u32 q.fr,u32 q.to',u64 q.at_,u64 q.size,i64 q.most,nv] 29)).alloc (.cells #[u64 til] 27)) := (((Ext.refl w).alloc _).alloc _).alloc _
 simp at h2 h3
 obtain ⟨a,n,c,rfl⟩ := hn
 simp
 exact ⟨_,_,_,⟨rfl,rfl,rfl⟩,h1,h2,h3,hE,by omega,by omega,by omega⟩
theorem QuOk.no {q : Qu} (h : QuOk q) {no : List Ct} : QuOk (qNo q no) := by
 obtain ⟨a,b,c,d,e⟩ := h
 exact ⟨a,b,c,d,e⟩
structure ER (L : List Ct) (snt : Ct → Int → Option Int) (q : Qu) (til : Int) (W : World) (C0 : Nat → Prop) (J : (Nat → Prop) → List Tl → World → Prop) (w' : World) (C : Nat → Prop) (pre : List Tl) (no' : List Ct) (nv' : Value) : Prop where
 j : J C pre w'
 own : ∀ k,C k → C0 k ∨ W.heap.size ≤ k
 lt : ∀ k,C k → k < w'.heap.size
 ag : Agr (fun k => k < W.heap.size ∧ ¬ C0 k) W w'
 s : Blk w' W.heap.size (seC (qNo q no') nv' til)
 os : ¬ C W.heap.size
 no : SlB w' 5 nv' no'.length (no'.flatMap ctC)
 on : no' ≠ [] → ¬ C (slB nv') ∧ slB nv' ≠ W.heap.size
 eno : no' = q.no ++ pre.map (·.f)
 p : EachP L snt q til pre
def ELoop (L : List Ct) (snt : Ct → Int → Option Int) (q : Qu) (til : Int) (W : World) (C0 : Nat → Prop) (J : (Nat → Prop) → List Tl → World → Prop) (y : Value) (bg : Nat) (k : Nat) (ρ : Env) (ds : List Deferred) (w' : World) : Prop :=
 ∃ C pre no' nv',ER L snt q til W C0 J w' C pre no' nv' ∧ k = L.length + 1 - pre.length ∧ ρ 0 = y ∧ ρ 3 = ptr bg ∧ ρ 5 = ptr W.heap.size ∧ ds = []
theorem EachP.len {L : List Ct} {snt : Ct → Int → Option Int} {q : Qu} {til : Int} {l : List Tl} (h : EachP L snt q til l) : l.length ≤ L.length := by
 unfold EachP at h
 split at h
 ·simp [h]
 ·exact h.len
set_option maxHeartbeats 2000000 in
theorem each_it {w : World} {S : Nat → Prop} {g p t R a r bg bq bt : Nat} {v nv : Value} {L : List Ct} {M : ME} {m : VM} {q : Qu} {til : Int} (h : Wst w S g p v L t R M a r m bg bq q nv) (ht : Var w bt (u64 til)) (sT : S bt) (hg : gdT M) (hm : vmOk m) (hsl : ∀ p, (sps M p).length ≤ 255) (hq : QuOk q)
  (hL : ∀ c ∈ L,CtOk c) (hl : L.length ≤ 14) (hnl : q.no.length ≤ 800) (hS : ∀ k,S k → k < w.heap.size) :
  Iter Tryz.prog (.func (.func 39) #[] #[ptr bq,ptr bt,ptr bg]) (fun x : Tl => [wyV (tlWy x)]) (EachS L (gSnt M m q.size) q til) (EachP L (gSnt M m q.size) q til) S w := by
 intro y C0 J Jx W hA hcap hC0 hJ hJx hyl h0
 have hAs := hA.size
 have hMA : Mod (fun k => ¬ k < w.heap.size) w W := hA.mod (S' := fun k => ¬ k < w.heap.size) fun k hk => Decidable.not_not.1 hk
 have hW : Wst W S g p v L t R M a r m bg bq q nv := h.mod hMA fun k hk hlt hn => hn hlt
 have tW : Var W bt (u64 til) := ht.mod hMA (by have := hS _ sT; omega)
 obtain ⟨snt,hsnt⟩ : ∃ snt,snt = gSnt M m q.size := ⟨_,rfl⟩
 rw [← hsnt] at hyl ⊢
 refine FN_enter Tryz.func39 rfl rfl (by kernel_rfl) ?_
 obtain ⟨na,nc,rfl⟩ := hW.no.isSlice
 have hE : Ext W ((W.alloc (.cells #[u32 q.fr,u32 q.to',u64 q.at_,u64 q.size,i64 q.most,.slice na q.no.length nc,u64 til] 109)).alloc (.cells #[u64 til] 27)) := ((Ext.refl W).alloc _).alloc _
 have k1 : Blk ((W.alloc (.cells #[u32 q.fr,u32 q.to',u64 q.at_,u64 q.size,i64 q.most,.slice na q.no.length nc,u64 til] 109)).alloc (.cells #[u64 til] 27)) W.heap.size (seC q (.slice na q.no.length nc) til) := (Blk.new W (seC q (.slice na q.no.length nc) til) 109).ext ((Ext.refl _).alloc _)
 have hs1 : Sl ((W.alloc (.cells #[u32 q.fr, u32 q.to', u64 q.at_, u64 q.size, i64 q.most, .slice na q.no.length nc, u64 til] 109)).alloc (.cells #[u64 til] 27)) 1 (.slice (some ⟨W.heap.size + 1, 0, none⟩) 1 1) 1 ([til].map u64) := by
  have := Sl.made (W.alloc (.cells #[u32 q.fr,u32 q.to',u64 q.at_,u64 q.size,i64 q.most,.slice na q.no.length nc,u64 til] 109)) ([til].map u64) 27 1 1 rfl
  simpa using this
 refine WC_scope 0 _ rfl ?_
 simp [(hW.vq).cell 0 _ rfl,(hW.vq).cell 1 _ rfl,(hW.vq).cell 2 _ rfl,(hW.vq).cell 3 _ rfl,(hW.vq).cell 4 _ rfl,(hW.vq).cell 5 _ rfl,tW.cell]
 generalize ((W.alloc (.cells #[u32 q.fr,u32 q.to',u64 q.at_,u64 q.size,i64 q.most,.slice na q.no.length nc,u64 til] 109)).alloc (.cells #[u64 til] 27)) = w1 at *
 refine FN.mono (ccheck_c (l := [til]) hs1 (by simp)) ?_
 rintro _ w2 ⟨rfl,hE2⟩
 have hX2 := hE.trans hE2
 have k2 := k1.ext hE2
 have zz := hX2.size
 have kl := k2.lt
 by_cases htil : til ≤ 4611686018427387903
 ·have e0 : timesOk [til] = true := by simp [timesOk,htil]
  simp [e0]
  have hst : ER L snt q til W C0 J w2 C0 [] q.no (.slice na q.no.length nc) := {
   j := hJ _ _ _ _ h0 hX2.agr
   own := fun k hk => .inl hk
   lt := fun k hk => by have := hC0 k hk; omega
   ag := hX2.agr
   s := k2
   os := fun hc => by have := hC0 _ hc; omega
   no := hW.no.ext hX2
   on := fun hn => ⟨fun hc => (hcap _ (h.s7 hn)).2 hc,by have := (hcap _ (h.s7 hn)).1; omega⟩
   eno := by simp
   p := by unfold EachP; split; rfl; exact .nil _ }
  refine WC_loop (fun k ρ ds w' => ELoop L snt q til W C0 J y bg k ρ ds w') (L.length + 1) ?_ ?_
  ·exact ⟨C0,[],q.no,_,hst,rfl,by simp,by simp,by simp,rfl⟩
  rintro k ρ ds w5 ⟨C,pre,no',nv',hw,rfl,e0',e3,e5,rfl⟩
  have hpl := hw.p.len
  have hnl' : no'.length = q.no.length + pre.length := by rw [hw.eno]; simp
  have hM5 : Mod (fun k => ¬ (k < W.heap.size ∧ ¬ C0 k)) W w5 := hw.ag.mod fun k hk => Classical.not_not.1 hk
  have hW5 := hW.mod hM5 fun k hk hlt hn => hn ⟨hlt,(hcap k hk).2⟩
  have zz5 := hM5.size
  simp [e3,e5,hW5.vg.cell]
  refine FN.mono (next_c (q := qNo q no') hW5.gr hw.no hg hm hsl hq.no hL hl (by show no'.length ≤ 900; omega) hw.s) ?_
  rintro _ w6 ⟨x,b,no2,nv2,rfl,hT,hM6,hs6,hno6,hnv6⟩
  rw [show gSnt M m (qNo q no').size = snt from hsnt.symm] at hT
  have z6 := hM6.size
  have hA6 : Agr (fun k => k < W.heap.size ∨ C k) w5 w6 := hM6.agr fun k hk e => by
   subst e
   rcases hk with hk | hk
   ·omega
   ·exact hw.os hk
  have hag6 : Agr (fun k => k < W.heap.size ∧ ¬ C0 k) W w6 := hw.ag.trans (hM6.agr fun k hk e => by omega)
  cases b with
  | false =>
   obtain ⟨-,rfl,x0,n0,hT0,hn0⟩ := hT.n rfl
   simp
   have hE7 := (Ext.refl w6).alloc (.cells #[u64 x.a,i64 x.h,u32 x.n,u32 x.f.fr,u32 x.f.to',u64 x.f.sf,u64 x.f.su,u64 x.f.rate] 66)
   generalize (w6.alloc (.cells #[u64 x.a,i64 x.h,u32 x.n,u32 x.f.fr,u32 x.f.to',u64 x.f.sf,u64 x.f.su,u64 x.f.rate] 66)) = w7 at *
   refine ⟨C,.inl ⟨pre,?_,hJ _ _ _ _ (hJ _ _ _ _ hw.j hA6) hE7.agr⟩⟩
   have hp := hw.p
   unfold EachP at hp
   unfold EachS
   split
   ·rename_i hb
    rw [if_pos hb] at hp
    exact hp
   ·rename_i hb
    rw [if_neg hb] at hp
    have hbq : (badQ q || badE q) = false := by
     unfold badW at hb
     simp at hb
     simp [hb.1]
    have h9 := way_none hbq hT0 hn0
    rw [hw.eno] at h9
    have := hp.wys h9
    rwa [List.append_nil] at this
  | true =>
   obtain ⟨hT0,hxa,rfl⟩ := hT.y rfl
   have hbq : (badQ q || badE q) = false := by
    cases hb : badQ q || badE q with
    | false => rfl
    | true => have := (hT0.bad hb).2; cases this
   have hbW : ¬ badW q til = true := by unfold badW; rw [hbq]; simp; omega
   obtain ⟨t',rfl,hbest⟩ := way_best hbq hT0
   have hSp : EachP L snt q til (pre ++ [t']) := by
    have hp := hw.p
    unfold EachP at hp ⊢
    rw [if_neg hbW] at hp ⊢
    rw [hw.eno] at hbest
    exact hp.snoc hbest hxa
   have hplen := hSp.len
   rw [List.length_append,List.length_singleton] at hplen
   have hE7 := (Ext.refl w6).alloc (.cells #[u64 (tlWy t').a,i64 (tlWy t').h,u32 (tlWy t').n,u32 (tlWy t').f.fr,u32 (tlWy t').f.to',u64 (tlWy t').f.sf,u64 (tlWy t').f.su,u64 (tlWy t').f.rate] 66)
   have k7 : Blk (w6.alloc (.cells #[u64 (tlWy t').a,i64 (tlWy t').h,u32 (tlWy t').n,u32 (tlWy t').f.fr,u32 (tlWy t').f.to',u64 (tlWy t').f.sf,u64 (tlWy t').f.su,u64 (tlWy t').f.rate] 66)) w6.heap.size (wyC (tlWy t')) := Blk.new w6 (wyC (tlWy t')) 66
   simp
   generalize (w6.alloc (.cells #[u64 (tlWy t').a,i64 (tlWy t').h,u32 (tlWy t').n,u32 (tlWy t').f.fr,u32 (tlWy t').f.to',u64 (tlWy t').f.sf,u64 (tlWy t').f.su,u64 (tlWy t').f.rate] 66)) = w7 at *
   simp [e0']
   have hj7 := hJ _ _ _ _ (hJ _ _ _ _ hw.j hA6) hE7.agr
   have z7 := hE7.size
   refine CV.mono (hyl C pre t' w7 hSp hj7) ?_
   have hnvC : ¬ C (slB nv2) ∧ slB nv2 ≠ W.heap.size := by
    rcases hnv6 with ⟨-, h1⟩ | h1
    ·have := congrArg List.length h1
     simp at this
    ·exact ⟨fun hc => by have := hw.lt _ hc; omega,by have := hw.s.lt; omega⟩
   rintro _ w10 (⟨rfl, C', hj', hown⟩ | ⟨rfl, C', hj', hown⟩)
   ·simp
    have os7 : ¬ C' W.heap.size := fun hc => by
     rcases hown.own _ hc with h1 | h1
     ·exact hw.os h1
     ·have := hw.s.lt; omega
    have hs10 := (hs6.ext hE7).mod hown.mod hw.os
    have hno10 := (hno6.ext hE7).mod hown.mod fun _ => hnvC.1
    refine ⟨L.length + 1 - (pre.length + 1), by omega, C', pre ++ [t'], no' ++ [(tlWy t').f], nv2, ⟨hj', fun k hk => ?_, fun k hk => ?_, ?_, hs10, os7, hno10, fun _ => ⟨fun hc => ?_, hnvC.2⟩, by rw [hw.eno]; simp [tlWy], hSp⟩, by simp, ?_, ?_, ?_, rfl⟩
    ·rcases hown.own k hk with h1 | h1
     ·exact hw.own k h1
     ·exact .inr (by omega)
    ·rcases hown.lt k hk with h1 | h1
     ·have := hw.lt k h1; have := hown.mod.size; omega
     ·exact h1
    ·exact (hag6.trans hE7.agr).trans (hown.mod.agr fun k hk hc => by
      rcases hw.own k hc with h1 | h1
      ·exact hk.2 h1
      ·omega)
    ·rcases hown.own _ hc with h1 | h1
     ·exact hnvC.1 h1
     ·have := (hno6.ext hE7).lt (by simp [ctC]); omega
    all_goals simp [e0',e3,e5]
   ·simp
    exact ⟨C',.inr ⟨pre ++ [t'],hSp,hj'⟩⟩
 ·have e0 : timesOk [til] = false := by simp [timesOk,htil]
  simp [e0]
  exact ⟨C0,.inl ⟨[],by unfold EachS badW; simp; omega,hJ _ _ _ _ h0 hX2.agr⟩⟩
end Go.Proofs