/-
 Contracts of the functions that the law reaches,step by step.
-/
import Derived.Test.YtdgkfilajbnhgaaGreatGeW
namespace Go.Proofs
open Pk
set_option maxRecDepth 10000
def nxW (w : Wy) (c : Ct) (b : Int) : Wy := if w.h = 0 then ⟨b,w.h + 1,c.to',c⟩ else ⟨b,w.h + 1,w.n,w.f⟩
def onS (snt : Ct → Int → Option Int) (rec : Wy → Int → Wy × Bool) (w : Wy) (n : Int) (acc : Wy × Bool) (c : Ct) : Wy × Bool :=
 if c.fr = n then (match snt c w.a with | some b => (if (rec (nxW w c b) c.to').2 && (!acc.2 || decide (wyLt (rec (nxW w c b) c.to').1 acc.1)) then ((rec (nxW w c b) c.to').1,true) else acc) | none => acc) else acc
def onW (snt : Ct → Int → Option Int) (L : List Ct) (to' : Int) : Nat → Wy → Int → Wy × Bool
 | 0,w,n => (w,decide (n = to') && decide (0 < w.h))
 | d + 1,w,n => L.foldl (onS snt (onW snt L to' d) w n) (w,decide (n = to') && decide (0 < w.h))
inductive Fr (L : List Ct) (snt : Ct → Int → Option Int) : Nat → Wy → Int → Wy → Int → Prop
 | nil (w : Wy) (n : Int) : Fr L snt 0 w n w n
 | cons (k : Nat) (w : Wy) (c : Ct) (b : Int) (x : Wy) (m : Int) (hc : c ∈ L) (hs : snt c w.a = some b) (h : Fr L snt k (nxW w c b) c.to' x m) : Fr L snt (k + 1) w c.fr x m
structure Bs (Cd : Wy → Prop) (r : Wy × Bool) : Prop where
 is : r.2 = true → Cd r.1 ∧ ∀ y,Cd y → ¬ wyLt y r.1
 no : r.2 = false → ∀ y,¬ Cd y
theorem Bs.congr {Cd Cd' : Wy → Prop} {r : Wy × Bool} (h : Bs Cd r) (e : ∀ y, Cd' y ↔ Cd y) : Bs Cd' r :=
 ⟨fun hr => ⟨(e _).2 (h.is hr).1,fun y hy => (h.is hr).2 y ((e y).1 hy)⟩,fun hr y hy => h.no hr y ((e y).1 hy)⟩
theorem wy_tr {x y z : Wy} (h1 : wyLt x y) (h2 : wyLt y z) : wyLt x z := by unfold wyLt at *; omega
theorem wy_tr' {x y z : Wy} (h1 : ¬ wyLt x y) (h2 : ¬ wyLt y z) : ¬ wyLt x z := by unfold wyLt at *; omega
theorem wy_irr (x : Wy) : ¬ wyLt x x := by unfold wyLt; omega
theorem onS_bs {snt : Ct → Int → Option Int} {rec : Wy → Int → Wy × Bool} {w : Wy} {n : Int} {acc : Wy × Bool} {Cd : Wy → Prop} {K : Wy → Int → Wy → Prop} (h : Bs Cd acc) (hr : ∀ w n, Bs (K w n) (rec w n)) (c : Ct) :
  Bs (fun y => Cd y ∨ (c.fr = n ∧ ∃ b,snt c w.a = some b ∧ K (nxW w c b) c.to' y)) (onS snt rec w n acc c) := by
 unfold onS
 by_cases hn : c.fr = n
 ·rw [if_pos hn]
  cases hs : snt c w.a with
  | none =>
   refine h.congr fun y => ⟨fun hy => ?_,.inl⟩
   rcases hy with hy | ⟨-, b, hb, -⟩
   ·exact hy
   ·cases hb
  | some b =>
   have hb := hr (nxW w c b) c.to'
   dsimp only
   generalize rec (nxW w c b) c.to' = r at hb ⊢
   obtain ⟨r1,r2⟩ := r
   obtain ⟨a1,a2⟩ := acc
   have ex : ∀ y, (Cd y ∨ (c.fr = n ∧ ∃ b', some b = some b' ∧ K (nxW w c b') c.to' y)) ↔ (Cd y ∨ K (nxW w c b) c.to' y) := fun y => by
    constructor
    ·rintro (h | ⟨-, b', e, h⟩)
     ·exact .inl h
     ·cases e; exact .inr h
    ·rintro (h | h)
     ·exact .inl h
     ·exact .inr ⟨hn,b,rfl,h⟩
   refine Bs.congr ?_ ex
   cases r2 with
   | false =>
    simp only [Bool.false_and,Bool.false_eq_true,if_false]
    exact h.congr fun y => ⟨fun hy => Or.elim hy id fun hk => (hb.no rfl y hk).elim,Or.inl⟩
   | true =>
    obtain ⟨k1,k2⟩ := hb.is rfl
    cases a2 with
    | false =>
     simp only [Bool.not_false,Bool.true_or,Bool.and_true,if_true]
     exact ⟨fun _ => ⟨.inr k1,fun y hy => hy.elim (fun hc => (h.no rfl y hc).elim) (k2 y)⟩,fun hf => by cases hf⟩
    | true =>
     obtain ⟨l1,l2⟩ := h.is rfl
     by_cases hlt : wyLt r1 a1
     ·simp only [hlt,decide_true,Bool.not_true,Bool.false_or,Bool.and_true,if_true]
      exact ⟨fun _ => ⟨.inr k1,fun y hy => hy.elim (fun hc hl => l2 y hc (wy_tr hl hlt)) (k2 y)⟩,fun hf => by cases hf⟩
     ·simp only [hlt,decide_false,Bool.not_true,Bool.false_or,Bool.and_false,Bool.false_eq_true,if_false]
      exact ⟨fun _ => ⟨.inl l1,fun y hy => hy.elim (l2 y) (fun hk => wy_tr' (k2 y hk) hlt)⟩,fun hf => by cases hf⟩
 ·rw [if_neg hn]
  exact h.congr fun y => ⟨fun hy => hy.elim id fun hk => (hn hk.1).elim,.inl⟩
theorem fold_bs {snt : Ct → Int → Option Int} {rec : Wy → Int → Wy × Bool} {w : Wy} {n : Int} {K : Wy → Int → Wy → Prop} (hr : ∀ w n, Bs (K w n) (rec w n)) : ∀ (l : List Ct) (acc : Wy × Bool) (Cd : Wy → Prop), Bs Cd acc →
  Bs (fun y => Cd y ∨ ∃ c ∈ l,c.fr = n ∧ ∃ b,snt c w.a = some b ∧ K (nxW w c b) c.to' y) (l.foldl (onS snt rec w n) acc)
 | [],acc,Cd,h => h.congr fun y => by simp
 | c :: l, acc, Cd, h => by
  refine (fold_bs hr l _ _ (onS_bs (w := w) (n := n) (snt := snt) h hr c)).congr fun y => ?_
  simp only [List.mem_cons,exists_eq_or_imp]
  exact (or_assoc).symm
def Cand (L : List Ct) (snt : Ct → Int → Option Int) (to' : Int) (d : Nat) (w : Wy) (n : Int) (y : Wy) : Prop := ∃ k,k ≤ d ∧ Fr L snt k w n y to' ∧ 0 < y.h
theorem onW_bs (L : List Ct) (snt : Ct → Int → Option Int) (to' : Int) : ∀ (d : Nat) (w : Wy) (n : Int), Bs (Cand L snt to' d w n) (onW snt L to' d w n)
 | 0, w, n => by
  have hb : Bs (fun y => n = to' ∧ y = w ∧ 0 < w.h) (w, decide (n = to') && decide (0 < w.h)) := by
   constructor
   ·intro h
    simp at h
    exact ⟨⟨h.1,rfl,h.2⟩,fun y hy => hy.2.1 ▸ wy_irr y⟩
   ·rintro h y ⟨h1,h2,h3⟩
    simp [h1,h3] at h
  refine hb.congr fun y => ⟨?_, ?_⟩
  ·rintro ⟨k,hk,hF,hh⟩
   cases hF with
   | nil => exact ⟨rfl,rfl,hh⟩
   | cons => omega
  ·rintro ⟨rfl,rfl,hh⟩
   exact ⟨0,by omega,.nil _ _,hh⟩
 | d + 1, w, n => by
  have hb : Bs (fun y => n = to' ∧ y = w ∧ 0 < w.h) (w, decide (n = to') && decide (0 < w.h)) := by
   constructor
   ·intro h
    simp at h
    exact ⟨⟨h.1,rfl,h.2⟩,fun y hy => hy.2.1 ▸ wy_irr y⟩
   ·rintro h y ⟨h1,h2,h3⟩
    simp [h1,h3] at h
  refine (fold_bs (n := n) (w := w) (snt := snt) (fun w n => onW_bs L snt to' d w n) L _ _ hb).congr fun y => ⟨?_, ?_⟩
  ·rintro ⟨k,hk,hF,hh⟩
   cases hF with
   | nil => exact .inl ⟨rfl,rfl,hh⟩
   | cons k w c b x m hc hs h => exact .inr ⟨c,hc,rfl,b,hs,k,by omega,h,hh⟩
  ·rintro (⟨rfl, rfl, hh⟩ | ⟨c, hc, rfl, b, hs, k, hk, hF, hh⟩)
   ·exact ⟨0,by omega,.nil _ _,hh⟩
   ·exact ⟨k + 1,by omega,.cons k w c b _ _ hc hs hF,hh⟩
theorem Fr.snoc {L : List Ct} {snt : Ct → Int → Option Int} {k : Nat} {w x : Wy} {n m : Int} (h : Fr L snt k w n x m) {c : Ct} {b : Int} (hc : c ∈ L) (hn : c.fr = m) (hs : snt c x.a = some b) : Fr L snt (k + 1) w n (nxW x c b) c.to' := by
 induction h with
 | nil w n => subst hn; exact .cons 0 w c b _ _ hc hs (.nil _ _)
 | cons k w c' b' x m hc' hs' h ih => exact .cons (k + 1) w c' b' _ _ hc' hs' (ih hn hs)
theorem nxW_tl (x : Tl) (hx : 0 < x.h) (c : Ct) (b : Int) : nxW (tlWy x) c b = tlWy ⟨b, x.h + 1, x.f, c.to'⟩ := by
 unfold nxW tlWy
 rw [if_neg (by simp only; omega)]
 simp
theorem Wk_pos {L : List Ct} {snt : Ct → Int → Option Int} {F : List Ct} {at0 : Int} {x : Tl} (h : Gr.Wk L snt F at0 x) : 0 < x.h := by
 cases h <;> simp
theorem Fr.walk {L : List Ct} {snt : Ct → Int → Option Int} {F : List Ct} {at0 : Int} {k : Nat} {w y : Wy} {n m : Int} (h : Fr L snt k w n y m) : ∀ x : Tl, Gr.Wk L snt F at0 x → w = tlWy x → n = x.n → ∃ t, Gr.Wk L snt F at0 t ∧ t.n = m ∧ y = tlWy t ∧ t.h = x.h + k := by
 induction h with
 | nil w n => exact fun x hx e1 e2 => ⟨x,hx,e2.symm,e1,rfl⟩
 | cons k w c b y m hc hs h ih =>
  intro x hx e1 e2
  subst e1
  have hs' : snt c x.a = some b := hs
  obtain ⟨t,h1,h2,h3,h4⟩ := ih ⟨b,x.h + 1,x.f,c.to'⟩ (.step x c b hx hc e2 hs') (nxW_tl x (Wk_pos hx) c b) rfl
  exact ⟨t,h1,h2,h3,by simp only at h4; omega⟩
theorem firsts_mem {L : List Ct} {q : Qu} (hno : q.no = []) {f : Ct} : f ∈ firsts L q ↔ f ∈ L ∧ f.fr = q.fr := by
 unfold firsts fromL
 rw [hno]
 simp
abbrev wy0 (a : Int) : Wy := ⟨a,0,0,⟨0,0,0,0,0⟩⟩
theorem cand_walk {L : List Ct} {snt : Ct → Int → Option Int} {q : Qu} (hno : q.no = []) {K : Nat} {y : Wy} : Cand L snt q.to' K (wy0 q.at_) q.fr y ↔ ∃ t, Gr.Wk L snt (firsts L q) q.at_ t ∧ t.h ≤ K ∧ t.n = q.to' ∧ y = tlWy t := by
 constructor
 ·rintro ⟨k,hk,hF,hh⟩
  generalize hw : wy0 q.at_ = w0 at hF
  generalize hn : q.fr = n0 at hF
  cases hF with
  | nil => rw [← hw] at hh; simp at hh
  | cons k w c b x m hc hs h =>
   subst hw
   have hf : c ∈ firsts L q := (firsts_mem hno).2 ⟨hc,hn.symm⟩
   obtain ⟨t,h1,h2,h3,h4⟩ := h.walk (F := firsts L q) (at0 := q.at_) ⟨b,1,c,c.to'⟩ (.one c b hf hs) (by simp [nxW,tlWy]) rfl
   exact ⟨t,h1,by simp only at h4; omega,h2,h3⟩
 ·rintro ⟨t,ht,hh,hn,rfl⟩
  have key : ∀ x, Gr.Wk L snt (firsts L q) q.at_ x → Fr L snt x.h (wy0 q.at_) q.fr (tlWy x) x.n := by
   intro x hx
   induction hx with
   | one f a hf hs =>
    obtain ⟨h1,h2⟩ := (firsts_mem hno).1 hf
    have := Fr.cons (L := L) (snt := snt) 0 (wy0 q.at_) f a (tlWy ⟨a, 1, f, f.to'⟩) f.to' h1 hs (by
     have e : nxW (wy0 q.at_) f a = tlWy ⟨a,1,f,f.to'⟩ := by simp [nxW,tlWy]
     rw [e]
     exact .nil _ _)
    rw [h2] at this
    exact this
   | step x c b hx hc hn hs ih =>
    have := ih.snoc hc hn (b := b) hs
    rw [nxW_tl x (Wk_pos hx)] at this
    exact this
  have h1 := key t ht
  rw [hn] at h1
  exact ⟨t.h,hh,h1,by have := Wk_pos ht; simp [tlWy]; omega⟩
theorem on_best {L : List Ct} {snt : Ct → Int → Option Int} {q : Qu} {x : Wy} {n : Int} (hA : L.Pairwise aheadP) (hno : q.no = []) (hb : (badQ q || badE q) = false) (h : BestT L snt (firsts L q) q x n) :
  ((onW snt L q.to' q.most.toNat (wy0 q.at_) q.fr).2 = true → n = 0 ∧ x = (onW snt L q.to' q.most.toNat (wy0 q.at_) q.fr).1) ∧ ((onW snt L q.to' q.most.toNat (wy0 q.at_) q.fr).2 = false → n = 310) := by
 have hF := firsts_apart hA q
 have hB := onW_bs L snt q.to' q.most.toNat (wy0 q.at_) q.fr
 generalize onW snt L q.to' q.most.toNat (wy0 q.at_) q.fr = r at hB ⊢
 constructor
 ·intro hr
  obtain ⟨h1,h2⟩ := hB.is hr
  obtain ⟨t,t1,t2,t3,t4⟩ := (cand_walk hno).1 h1
  rcases h.ok hb with ⟨t', b1, rfl, rfl⟩ | ⟨b1, -, -⟩
  ·refine ⟨rfl,?_⟩
   have hb2 : Gr.BestOf L snt (firsts L q) q.at_ q.most.toNat q.to' t := ⟨t1,t3,t2,fun y y1 y2 y3 hk => h2 (tlWy y) ((cand_walk hno).2 ⟨y,y1,y3,y2,rfl⟩) (by rw [t4]; exact (wy_key y t).2 hk)⟩
   rw [t4,b1.uniq hF hb2]
  ·exact (b1 t t1 t2 t3).elim
 ·intro hr
  rcases h.ok hb with ⟨t', b1, rfl, rfl⟩ | ⟨-, -, h3⟩
  ·exact (hB.no hr _ ((cand_walk hno).2 ⟨t',b1.wk,b1.h,b1.at_,rfl⟩)).elim
  ·exact h3
end Go.Proofs