/-
 Contracts of the functions that the law reaches,step by step.
-/
import Derived.Test.YtdflcfoalhhjlaaGreatProg
import Derived.Test.YtdflcfoalhhjlaaGreatEngV
import Derived.Test.YtdflcfoalhhjlaaGreatEngR
import Derived.Test.YtdflcfoalhhjlaaGreatEngJ
namespace Go.Proofs
open Pk
set_option maxRecDepth 10000
abbrev u32 (x : Int) : Value := .int .u32 x
abbrev u64 (x : Int) : Value := .int .u64 x
abbrev i64 (x : Int) : Value := .int .i64 x
abbrev u8 (x : Int) : Value := .int .u8 x
abbrev ptr (b : Nat) : Value := .pointer (some ⟨b,0,none⟩)
end Go.Proofs
namespace Go.Proofs.Gr
structure Ct where
 fr : Int
 to' : Int
 sf : Int
 su : Int
 rate : Int
deriving DecidableEq
structure Tl where
 a : Int
 h : Nat
 f : Ct
 n : Int
deriving DecidableEq
abbrev Tl.st (x : Tl) : Int × Ct := (x.n,x.f)
def keyLt (x y : Tl) : Prop := x.a < y.a ∨ x.a = y.a ∧ (x.h < y.h ∨ x.h = y.h ∧ (x.f.to' < y.f.to' ∨ x.f.to' = y.f.to' ∧ x.f.sf < y.f.sf))
instance (x y : Tl) : Decidable (keyLt x y) := by unfold keyLt; infer_instance
theorem keyLt_irrefl (x : Tl) : ¬ keyLt x x := by unfold keyLt; omega
theorem not_keyLt_a {x y : Tl} (h : ¬ keyLt y x) : x.a ≤ y.a := by unfold keyLt at h; omega
structure Sn (snt : Ct → Int → Option Int) : Prop where
 up : ∀ c t a,snt c t = some a → t < a
 fifo : ∀ c t t' a',t ≤ t' → snt c t' = some a' → ∃ a,snt c t = some a ∧ a ≤ a'
section
variable (L : List Ct) (snt : Ct → Int → Option Int) (F : List Ct) (at0 : Int)
inductive Wk : Tl → Prop
 | one (f : Ct) (a : Int) (hf : f ∈ F) (hs : snt f at0 = some a) : Wk ⟨a,1,f,f.to'⟩
 | step (x : Tl) (c : Ct) (b : Int) (hx : Wk x) (hc : c ∈ L) (hn : c.fr = x.n) (hs : snt c x.a = some b) : Wk ⟨b,x.h + 1,x.f,c.to'⟩
def kids (most : Nat) (x : Tl) : List Tl := L.filterMap fun c => if c.fr = x.n then (match snt c x.a with | some b => if x.h < most then some ⟨b,x.h + 1,x.f,c.to'⟩ else none | none => none) else none
theorem mem_kids {most : Nat} {x y : Tl} : y ∈ kids L snt most x ↔ ∃ c ∈ L, c.fr = x.n ∧ ∃ b, snt c x.a = some b ∧ x.h < most ∧ y = ⟨b, x.h + 1, x.f, c.to'⟩ := by
 unfold kids
 rw [List.mem_filterMap]
 constructor
 ·rintro ⟨c,hc,h⟩
  split at h
  ·split at h
   ·split at h
    ·cases h; exact ⟨c,hc,by assumption,_,by assumption,by assumption,rfl⟩
    ·cases h
   ·cases h
  ·cases h
 ·rintro ⟨c,hc,h1,b,h2,h3,rfl⟩
  refine ⟨c,hc,?_⟩
  rw [if_pos h1,h2]
  simp [h3]
def inis (most : Nat) : List Tl := F.filterMap fun f => match snt f at0 with | some a => if 0 < most then some ⟨a,1,f,f.to'⟩ else none | none => none
theorem mem_inis {most : Nat} {y : Tl} : y ∈ inis snt F at0 most ↔ ∃ f ∈ F, ∃ a, snt f at0 = some a ∧ 0 < most ∧ y = ⟨a, 1, f, f.to'⟩ := by
 unfold inis
 rw [List.mem_filterMap]
 constructor
 ·rintro ⟨c,hc,h⟩
  split at h
  ·split at h
   ·cases h; exact ⟨c,hc,_,by assumption,by assumption,rfl⟩
   ·cases h
  ·cases h
 ·rintro ⟨c,hc,b,h2,h3,rfl⟩
  refine ⟨c,hc,?_⟩
  rw [h2]
  simp [h3]
def Settled (H X : List Tl) (y : Tl) : Prop := y ∈ H ∨ ∃ x ∈ X,x.st = y.st ∧ x.a ≤ y.a ∧ x.h ≤ y.h
structure Inv (most : Nat) (H X : List Tl) (R : Int × Ct → Option Nat) : Prop where
 wH : ∀ z ∈ H,Wk L snt F at0 z ∧ z.h ≤ most
 wX : ∀ x ∈ X,Wk L snt F at0 x ∧ x.h ≤ most
 ord : ∀ x ∈ X,∀ z ∈ H,x.a ≤ z.a
 ini : ∀ y ∈ inis snt F at0 most,Settled H X y
 chd : ∀ x ∈ X,∀ y ∈ kids L snt most x,Settled H X y
 r1 : ∀ s r,R s = some r → ∃ x ∈ X,x.st = s ∧ x.h = r
 r2 : ∀ x ∈ X,∃ r,R x.st = some r ∧ r ≤ x.h
 trl : ∀ z ∈ H,∃ tr : List (Int × Ct),tr.Nodup ∧ tr.length + 1 = z.h ∧ ∀ s ∈ tr,(∃ c ∈ L,c.to' = s.1) ∧ s.2 ∈ F ∧ ∃ r,R s = some r ∧ r < z.h
variable {L snt F at0}
theorem Wk.f_mem {x : Tl} (h : Wk L snt F at0 x) : x.f ∈ F := by
 induction h with
 | one f a hf hs => exact hf
 | step x c b hx hc hn hs ih => exact ih
theorem Wk.n_mem {x : Tl} (h : Wk L snt F at0 x) (hF : ∀ f ∈ F, f ∈ L) : ∃ c ∈ L, c.to' = x.n := by
 cases h with
 | one f a hf hs => exact ⟨f,hF f hf,rfl⟩
 | step x c b hx hc hn hs => exact ⟨c,hc,rfl⟩
theorem inv_start (most : Nat) : Inv L snt F at0 most (inis snt F at0 most) [] (fun _ => none) where
 wH := fun z hz => by
  obtain ⟨f,hf,a,hs,h0,rfl⟩ := (mem_inis snt F at0).1 hz
  exact ⟨.one f a hf hs,h0⟩
 wX := fun x hx => by cases hx
 ord := fun x hx => by cases hx
 ini := fun y hy => .inl hy
 chd := fun x hx => by cases hx
 r1 := fun s r h => by cases h
 r2 := fun x hx => by cases hx
 trl := fun z hz => by
  obtain ⟨f,hf,a,hs,h0,rfl⟩ := (mem_inis snt F at0).1 hz
  exact ⟨[],by simp,rfl,by simp⟩
theorem Inv.perm {most : Nat} {H H' X : List Tl} {R : Int × Ct → Option Nat} (h : Inv L snt F at0 most H X R) (p : H.Perm H') : Inv L snt F at0 most H' X R where
 wH := fun z hz => h.wH z (p.mem_iff.2 hz)
 wX := h.wX
 ord := fun x hx z hz => h.ord x hx z (p.mem_iff.2 hz)
 ini := fun y hy => (h.ini y hy).imp (fun k => p.mem_iff.1 k) id
 chd := fun x hx y hy => (h.chd x hx y hy).imp (fun k => p.mem_iff.1 k) id
 r1 := h.r1
 r2 := h.r2
 trl := fun z hz => h.trl z (p.mem_iff.2 hz)
theorem Inv.skip {most : Nat} {x : Tl} {H X : List Tl} {R : Int × Ct → Option Nat} (h : Inv L snt F at0 most (x :: H) X R) {r : Nat} (hr : R x.st = some r) (hle : r ≤ x.h) : Inv L snt F at0 most H X R := by
 obtain ⟨x0,hx0,hst,hh⟩ := h.r1 _ _ hr
 have ha := h.ord x0 hx0 x (by simp)
 have lower : ∀ y, Settled (x :: H) X y → Settled H X y := fun y hy => by
  rcases hy with hy | hy
  ·rcases List.mem_cons.1 hy with rfl | hy
   ·exact .inr ⟨x0,hx0,hst,ha,by omega⟩
   ·exact .inl hy
  ·exact .inr hy
 exact ⟨fun z hz => h.wH z (by simp [hz]),h.wX,fun x' hx' z hz => h.ord x' hx' z (by simp [hz]),fun y hy => lower y (h.ini y hy),fun x' hx' y hy => lower y (h.chd x' hx' y hy),h.r1,h.r2,fun z hz => h.trl z (by simp [hz])⟩
theorem Inv.take {most : Nat} (hS : Sn snt) (hF : ∀ f ∈ F, f ∈ L) {x : Tl} {H X : List Tl} {R : Int × Ct → Option Nat} (h : Inv L snt F at0 most (x :: H) X R) (hmin : ∀ z ∈ H, x.a ≤ z.a) (hno : ∀ r, R x.st = some r → ¬ r ≤ x.h) :
  Inv L snt F at0 most (H ++ kids L snt most x) (X ++ [x]) (fun s => if s = x.st then some x.h else R s) := by
 have hwx := h.wH x (by simp)
 have lift : ∀ y, Settled (x :: H) X y → Settled (H ++ kids L snt most x) (X ++ [x]) y := fun y hy => by
  rcases hy with hy | ⟨x0, h1, h2⟩
  ·rcases List.mem_cons.1 hy with rfl | hy
   ·exact .inr ⟨_,by simp,rfl,Int.le_refl _,Nat.le_refl _⟩
   ·exact .inl (by simp [hy])
  ·exact .inr ⟨x0,by simp [h1],h2⟩
 refine ⟨fun z hz => ?_, fun x' hx' => ?_, fun x' hx' z hz => ?_, fun y hy => lift y (h.ini y hy), fun x' hx' y hy => ?_, fun s r hr => ?_, fun x' hx' => ?_, fun z hz => ?_⟩
 ·rcases List.mem_append.1 hz with hz | hz
  ·exact h.wH z (by simp [hz])
  ·obtain ⟨c,hc,h1,b,h2,h3,rfl⟩ := (mem_kids L snt).1 hz
   exact ⟨.step x c b hwx.1 hc h1 h2,by simp; omega⟩
 ·rcases List.mem_append.1 hx' with hx' | hx'
  ·exact h.wX x' hx'
  ·simp at hx'; subst hx'; exact hwx
 ·have hz' : x.a ≤ z.a := by
   rcases List.mem_append.1 hz with hz | hz
   ·exact hmin z hz
   ·obtain ⟨c,hc,h1,b,h2,h3,rfl⟩ := (mem_kids L snt).1 hz
    have := hS.up _ _ _ h2
    simp only; omega
  rcases List.mem_append.1 hx' with hx' | hx'
  ·have := h.ord x' hx' x (by simp)
   omega
  ·simp at hx'; subst hx'; exact hz'
 ·rcases List.mem_append.1 hx' with hx' | hx'
  ·exact lift y (h.chd x' hx' y hy)
  ·simp at hx'; subst hx'; exact .inl (by simp [hy])
 ·split at hr
  ·rename_i he
   cases hr
   exact ⟨x,by simp,he.symm,rfl⟩
  ·obtain ⟨x0,h1,h2⟩ := h.r1 s r hr
   exact ⟨x0,by simp [h1],h2⟩
 ·rcases List.mem_append.1 hx' with hx' | hx'
  ·obtain ⟨r,h1,h2⟩ := h.r2 x' hx'
   by_cases he : x'.st = x.st
   ·rw [he] at h1
    have := hno r h1
    exact ⟨x.h,by simp [he],by omega⟩
   ·exact ⟨r,by simp [he]; exact h1,h2⟩
  ·simp at hx'; subst hx'
   exact ⟨x'.h,by simp,Nat.le_refl _⟩
 ·have old : ∀ (z : Tl) (tr : List (Int × Ct)), (∀ s ∈ tr, (∃ c ∈ L, c.to' = s.1) ∧ s.2 ∈ F ∧ ∃ r, R s = some r ∧ r < z.h) → ∀ s ∈ tr, (∃ c ∈ L, c.to' = s.1) ∧ s.2 ∈ F ∧ ∃ r, (if s = x.st then some x.h else R s) = some r ∧ r < z.h := fun z tr ht s hs => by
   obtain ⟨h1,h2,r,h3,h4⟩ := ht s hs
   refine ⟨h1,h2,?_⟩
   by_cases he : s = x.st
   ·subst he
    have := hno r h3
    exact ⟨x.h,by simp,by omega⟩
   ·exact ⟨r,by simp [he]; exact h3,h4⟩
  rcases List.mem_append.1 hz with hz | hz
  ·obtain ⟨tr,t1,t2,t3⟩ := h.trl z (by simp [hz])
   exact ⟨tr,t1,t2,old z tr t3⟩
  ·obtain ⟨c,hc,h1,b,h2,h3,rfl⟩ := (mem_kids L snt).1 hz
   obtain ⟨tr,t1,t2,t3⟩ := h.trl x (by simp)
   have hnot : x.st ∉ tr := fun hm => by
    obtain ⟨-,-,r,h4,h5⟩ := t3 _ hm
    exact hno r h4 (by omega)
   refine ⟨x.st :: tr,List.nodup_cons.2 ⟨hnot,t1⟩,by simp; omega,fun s hs => ?_⟩
   rcases List.mem_cons.1 hs with rfl | hs
   ·exact ⟨hwx.1.n_mem hF,hwx.1.f_mem,x.h,by simp,by simp⟩
   ·obtain ⟨k1,k2,r,k3,k4⟩ := t3 s hs
    refine ⟨k1,k2,?_⟩
    by_cases he : s = x.st
    ·exact ⟨x.h,by simp [he],by simp⟩
    ·exact ⟨r,by simp [he]; exact k3,by simp; omega⟩
theorem Inv.cover {most : Nat} (hS : Sn snt) {H X : List Tl} {R : Int × Ct → Option Nat} (h : Inv L snt F at0 most H X R) {y : Tl} (hy : Wk L snt F at0 y) : y.h ≤ most →
  (∃ z ∈ H,z.f = y.f ∧ (z.a < y.a ∨ (z.a ≤ y.a ∧ z.h ≤ y.h))) ∨ ∃ x ∈ X,x.st = y.st ∧ x.a ≤ y.a ∧ x.h ≤ y.h := by
 induction hy with
 | one f a hf hs =>
  intro hm
  rcases h.ini ⟨a, 1, f, f.to'⟩ ((mem_inis snt F at0).2 ⟨f, hf, a, hs, hm, rfl⟩) with h1 | h1
  ·exact .inl ⟨_,h1,rfl,.inr ⟨Int.le_refl _,Nat.le_refl _⟩⟩
  ·exact .inr h1
 | step x c b hx hc hn hs ih =>
  intro hm
  simp only at hm
  rcases ih (by omega) with ⟨z, hz, h1, h2⟩ | ⟨x0, hx0, h1, h2, h3⟩
  ·have := hS.up _ _ _ hs
   exact .inl ⟨z,hz,h1,.inl (by simp only; omega)⟩
  ·obtain ⟨b0,hb0,hle⟩ := hS.fifo c x0.a x.a b h2 hs
   have e1 : x0.n = x.n := congrArg Prod.fst h1
   have e2 : x0.f = x.f := congrArg Prod.snd h1
   rcases h.chd x0 hx0 ⟨b0, x0.h + 1, x0.f, c.to'⟩ ((mem_kids L snt).2 ⟨c, hc, by rw [hn, e1], b0, hb0, by omega, rfl⟩) with k | ⟨x1, k1, k2, k3, k4⟩
   ·exact .inl ⟨_,k,e2,.inr ⟨hle,by simp only; omega⟩⟩
   ·refine .inr ⟨x1,k1,?_,by simp only at k3 ⊢; omega,by simp only at k4 ⊢; omega⟩
    rw [k2]
    simp only [Tl.st,e2]
theorem Inv.first {most : Nat} (hS : Sn snt) {x : Tl} {H X : List Tl} {R : Int × Ct → Option Nat} (h : Inv L snt F at0 most (x :: H) X R) (hmin : ∀ z ∈ H, ¬ keyLt z x) (hnew : ∀ x' ∈ X, x'.n ≠ x.n) {y : Tl} (hy : Wk L snt F at0 y) (hm : y.h ≤ most) (hn : y.n = x.n) : ¬ keyLt y x := by
 intro hk
 rcases h.cover hS hy hm with ⟨z, hz, h1, h2⟩ | ⟨x0, hx0, h1, -⟩
 ·have hzx : ¬ keyLt z x := by
   rcases List.mem_cons.1 hz with rfl | hz
   ·exact keyLt_irrefl _
   ·exact hmin z hz
  unfold keyLt at hk hzx
  rw [h1] at hzx
  omega
 ·exact hnew x0 hx0 (by rw [show x0.n = y.n from congrArg Prod.fst h1,hn])
end
end Go.Proofs.Gr
namespace Go.Proofs.Gr
variable {L : List Ct} {snt : Ct → Int → Option Int} {F : List Ct} {at0 : Int}
theorem sub_len {α : Type} [DecidableEq α] : ∀ {l m : List α}, l.Nodup → (∀ x ∈ l, x ∈ m) → l.length ≤ m.length
 | [],m,_,_ => by simp
 | a :: l, m, hn, hs => by
  obtain ⟨h1,h2⟩ := List.nodup_cons.1 hn
  have ha := hs a (by simp)
  have := sub_len (m := m.erase a) h2 fun x hx => (List.mem_erase_of_ne ((by rintro rfl; exact h1 hx))).2 (hs x (by simp [hx]))
  rw [List.length_erase_of_mem ha] at this
  have := List.length_pos_of_mem ha
  simp only [List.length_cons]
  omega
def states (L F : List Ct) : List (Int × Ct) := L.flatMap fun c => F.map fun f => (c.to',f)
theorem mem_states {s : Int × Ct} : s ∈ states L F ↔ (∃ c ∈ L, c.to' = s.1) ∧ s.2 ∈ F := by
 unfold states
 rw [List.mem_flatMap]
 constructor
 ·rintro ⟨c,hc,h⟩
  obtain ⟨f,hf,rfl⟩ := List.mem_map.1 h
  exact ⟨⟨c,hc,rfl⟩,hf⟩
 ·rintro ⟨⟨c,hc,h1⟩,h2⟩
  exact ⟨c,hc,List.mem_map.2 ⟨s.2,h2,by rw [h1]⟩⟩
def wgt (N : Nat) (R : Int × Ct → Option Nat) (s : Int × Ct) : Nat := match R s with | none => N + 2 | some r => r
def mu (L F : List Ct) (R : Int × Ct → Option Nat) (n : Nat) : Nat := ((states L F).map (wgt (states L F).length R)).sum * (L.length + 1) + n
theorem kids_len (most : Nat) (x : Tl) : (kids L snt most x).length ≤ L.length := List.length_filterMap_le _ _
theorem Inv.hops {most : Nat} {H X : List Tl} {R : Int × Ct → Option Nat} (h : Inv L snt F at0 most H X R) {z : Tl} (hz : z ∈ H) : z.h ≤ (states L F).length + 1 := by
 obtain ⟨tr,t1,t2,t3⟩ := h.trl z hz
 have := sub_len t1 fun s hs => mem_states.2 ⟨(t3 s hs).1,(t3 s hs).2.1⟩
 omega
theorem sum_lt {α : Type} {f g : α → Nat} : ∀ {l : List α}, (∀ x ∈ l, f x ≤ g x) → (∃ x ∈ l, f x < g x) → (l.map f).sum < (l.map g).sum
 | [],_,⟨x,hx,_⟩ => by cases hx
 | a :: l, h1, ⟨x, hx, h2⟩ => by
  have ha := h1 a (by simp)
  simp only [List.map_cons,List.sum_cons]
  rcases List.mem_cons.1 hx with rfl | hx
  ·have : (l.map f).sum ≤ (l.map g).sum := by
    clear h2 hx ha
    induction l with
    | nil => simp
    | cons b l ih =>
     simp only [List.map_cons,List.sum_cons]
     have := h1 b (by simp)
     have := ih fun y hy => h1 y (by rcases List.mem_cons.1 hy with rfl | hy <;> simp [*])
     omega
   omega
  ·have := sum_lt (l := l) (fun y hy => h1 y (by simp [hy])) ⟨x,hx,h2⟩
   omega
theorem Inv.mu_take {most : Nat} (hF : ∀ f ∈ F, f ∈ L) {x : Tl} {H X : List Tl} {R : Int × Ct → Option Nat} (h : Inv L snt F at0 most (x :: H) X R) (hno : ∀ r, R x.st = some r → ¬ r ≤ x.h) :
  mu L F (fun s => if s = x.st then some x.h else R s) (H ++ kids L snt most x).length < mu L F R (x :: H).length := by
 have hwx := (h.wH x (by simp)).1
 have hin : x.st ∈ states L F := mem_states.2 ⟨hwx.n_mem hF,hwx.f_mem⟩
 have hb := h.hops (z := x) (by simp)
 have hs := sum_lt (l := states L F) (f := wgt (states L F).length (fun s => if s = x.st then some x.h else R s)) (g := wgt (states L F).length R) (fun s _ => by
  unfold wgt
  simp only
  by_cases he : s = x.st
  ·rw [if_pos he,he]
   cases hr : R x.st with
   | none => simp only; omega
   | some r => have := hno r hr; simp only; omega
  ·rw [if_neg he]; exact Nat.le_refl _) ⟨x.st,hin,by
  unfold wgt
  simp only [if_true]
  cases hr : R x.st with
  | none => simp only; omega
  | some r => have := hno r hr; simp only; omega⟩
 unfold mu
 have hk := kids_len (L := L) (snt := snt) most x
 have hm := Nat.mul_le_mul_right (L.length + 1) (Nat.succ_le_of_lt hs)
 rw [Nat.succ_mul] at hm
 rw [List.length_append,List.length_cons]
 omega
theorem mu_skip (R : Int × Ct → Option Nat) (x : Tl) (H : List Tl) : mu L F R H.length < mu L F R (x :: H).length := by
 unfold mu; simp
structure BestOf (L : List Ct) (snt : Ct → Int → Option Int) (F : List Ct) (at0 : Int) (K : Nat) (n : Int) (x : Tl) : Prop where
 wk : Wk L snt F at0 x
 at_ : x.n = n
 h : x.h ≤ K
 min : ∀ y,Wk L snt F at0 y → y.n = n → y.h ≤ K → ¬ keyLt y x
def FApart (F : List Ct) : Prop := ∀ f ∈ F,∀ g ∈ F,f.to' = g.to' → f.sf = g.sf → f = g
theorem BestOf.uniq (hA : FApart F) {K : Nat} {n : Int} {x y : Tl} (hx : BestOf L snt F at0 K n x) (hy : BestOf L snt F at0 K n y) : x = y := by
 have h1 := hx.min y hy.wk hy.at_ hy.h
 have h2 := hy.min x hx.wk hx.at_ hx.h
 have hf : x.f = y.f := hA _ hx.wk.f_mem _ hy.wk.f_mem (by unfold keyLt at h1 h2; omega) (by unfold keyLt at h1 h2; omega)
 obtain ⟨a,h,f,m⟩ := x
 obtain ⟨a',h',f',m'⟩ := y
 have e1 := hx.at_
 have e2 := hy.at_
 unfold keyLt at h1 h2
 simp only at hf h1 h2 e1 e2
 subst hf
 have : a = a' := by omega
 have : h = h' := by omega
 subst_vars
 rfl
end Go.Proofs.Gr
namespace Go.Proofs.Gr
variable {L : List Ct} {snt : Ct → Int → Option Int} {F : List Ct} {at0 : Int}
def upd {α : Type} (m : Int → Option α) (k : Int) (v : α) : Int → Option α := fun n => if n = k then some v else m n
end Go.Proofs.Gr
namespace Go.Proofs.Gr
def par (i : Nat) : Nat := (i - 1) / 2
def gsw (g : Nat → Tl) (i j : Nat) : Nat → Tl := fun k => if k = i then g j else if k = j then g i else g k
def HeapOk (g : Nat → Tl) (n : Nat) : Prop := ∀ i,0 < i → i < n → ¬ keyLt (g i) (g (par i))
structure HeapUp (g : Nat → Tl) (n j : Nat) : Prop where
 lt : j < n
 ok : ∀ i,0 < i → i < n → i ≠ j → ¬ keyLt (g i) (g (par i))
 kid : ∀ i,0 < i → i < n → par i = j → 0 < j → ¬ keyLt (g i) (g (par j))
structure HeapDown (g : Nat → Tl) (n i : Nat) : Prop where
 ok : ∀ k,0 < k → k < n → par k ≠ i → ¬ keyLt (g k) (g (par k))
 kid : ∀ k,0 < k → k < n → par k = i → 0 < i → ¬ keyLt (g k) (g (par i))
theorem par_lt {i : Nat} (h : 0 < i) : par i < i := by unfold par; omega
theorem nlt_trans {x y z : Tl} (h : ¬ keyLt x y) (k : ¬ keyLt y z) : ¬ keyLt x z := by unfold keyLt at *; omega
theorem lt_asymm {x y : Tl} (h : keyLt x y) : ¬ keyLt y x := by unfold keyLt at *; omega
theorem HeapOk.push {g : Nat → Tl} {n : Nat} (h : HeapOk g n) (x : Tl) : HeapUp (fun k => if k = n then x else g k) (n + 1) n := by
 refine ⟨by omega, fun i h0 h1 h2 => ?_, fun i h0 h1 h2 h3 => ?_⟩
 ·have := par_lt h0
  rw [if_neg h2,if_neg (by omega)]
  exact h i h0 (by omega)
 ·have := par_lt h0
  omega
theorem HeapUp.stop {g : Nat → Tl} {n j : Nat} (h : HeapUp g n j) (hs : j = 0 ∨ ¬ keyLt (g j) (g (par j))) : HeapOk g n := fun i h0 h1 => by
 by_cases e : i = j
 ·subst e
  rcases hs with hs | hs
  ·omega
  ·exact hs
 ·exact h.ok i h0 h1 e
theorem HeapUp.step {g : Nat → Tl} {n j : Nat} (h : HeapUp g n j) (h0 : 0 < j) (hl : keyLt (g j) (g (par j))) : HeapUp (gsw g (par j) j) n (par j) := by
 have hp := par_lt h0
 have hj := h.lt
 refine ⟨by omega, fun i i0 i1 i2 => ?_, fun i i0 i1 i2 i3 => ?_⟩
 ·have hpi := par_lt i0
  by_cases e : i = j
  ·subst e
   unfold gsw
   rw [if_neg i2,if_pos rfl,if_pos rfl]
   exact lt_asymm hl
  ·unfold gsw
   rw [if_neg i2,if_neg e]
   by_cases e1 : par i = par j
   ·rw [if_pos e1]
    have h1 := h.ok i i0 i1 e
    rw [e1] at h1
    exact nlt_trans h1 (lt_asymm hl)
   ·rw [if_neg e1]
    by_cases e2 : par i = j
    ·rw [if_pos e2]
     exact h.kid i i0 i1 e2 h0
    ·rw [if_neg e2]
     exact h.ok i i0 i1 e
 ·have hpp := par_lt i3
  unfold gsw
  rw [if_neg (show par (par j) ≠ par j by omega),if_neg (show par (par j) ≠ j by omega)]
  by_cases e : i = j
  ·subst e
   rw [if_neg (show i ≠ par i by omega),if_pos rfl]
   exact h.ok (par i) i3 (by omega) (by omega)
  ·have hpi := par_lt i0
   rw [if_neg (show i ≠ par j by omega),if_neg e]
   have h1 := h.ok i i0 i1 e
   rw [i2] at h1
   exact nlt_trans h1 (h.ok (par j) i3 (by omega) (by omega))
theorem HeapOk.root {g : Nat → Tl} {n : Nat} (h : HeapOk g n) : ∀ i, i < n → ¬ keyLt (g i) (g 0) := by
 intro i
 induction i using Nat.strongRecOn with
 | _ i ih =>
  intro hi
  by_cases h0 : i = 0
  ·subst h0; exact keyLt_irrefl _
  ·have hp := par_lt (show 0 < i by omega)
   exact nlt_trans (h i (by omega) hi) (ih (par i) hp (by omega))
theorem HeapOk.pop {g : Nat → Tl} {n : Nat} (h : HeapOk g (n + 1)) : HeapDown (gsw g 0 n) n 0 := by
 refine ⟨fun k k0 k1 k2 => ?_,fun k k0 k1 k2 k3 => by omega⟩
 have hp := par_lt k0
 unfold gsw
 rw [if_neg (by omega),if_neg (by omega),if_neg k2,if_neg (by omega)]
 exact h k k0 (by omega)
theorem HeapDown.stop {g : Nat → Tl} {n i : Nat} (h : HeapDown g n i) (hs : ∀ k, 0 < k → k < n → par k = i → ¬ keyLt (g k) (g i)) : HeapOk g n := fun k k0 k1 => by
 by_cases e : par k = i
 ·rw [e]; exact hs k k0 k1 e
 ·exact h.ok k k0 k1 e
theorem HeapDown.step {g : Nat → Tl} {n i j : Nat} (h : HeapDown g n i) (j0 : 0 < j) (jn : j < n) (hj : par j = i) (hmin : ∀ k, 0 < k → k < n → par k = i → ¬ keyLt (g k) (g j)) (hl : keyLt (g j) (g i)) : HeapDown (gsw g i j) n j := by
 have hp := par_lt j0
 refine ⟨fun k k0 k1 k2 => ?_, fun k k0 k1 k2 k3 => ?_⟩
 ·have hpk := par_lt k0
  unfold gsw
  rw [if_neg k2]
  by_cases e : k = i
  ·subst e
   rw [if_pos rfl,if_neg (show par k ≠ k by omega)]
   exact h.kid j j0 jn hj k0
  ·rw [if_neg e]
   by_cases e1 : k = j
   ·subst e1
    rw [if_pos rfl,if_pos hj]
    exact lt_asymm hl
   ·rw [if_neg e1]
    by_cases e2 : par k = i
    ·rw [if_pos e2]; exact hmin k k0 k1 e2
    ·rw [if_neg e2]; exact h.ok k k0 k1 e2
 ·have hpk := par_lt k0
  unfold gsw
  rw [if_pos hj,if_neg (show k ≠ i by omega),if_neg (show k ≠ j by omega)]
  have := h.ok k k0 k1 (by omega)
  rw [k2] at this
  exact this
end Go.Proofs.Gr
namespace Go.Proofs.Gr
def tl0 : Tl := ⟨0,0,⟨0,0,0,0,0⟩,0⟩
def atL (l : List Tl) (k : Nat) : Tl := l[k]?.getD tl0
def lsw (l : List Tl) (i j : Nat) : List Tl := (l.set i (atL l j)).set j (atL l i)
theorem lsw_len (l : List Tl) (i j : Nat) : (lsw l i j).length = l.length := by simp [lsw]
theorem lsw_at {l : List Tl} {i j : Nat} (hi : i < l.length) (hj : j < l.length) : atL (lsw l i j) = gsw (atL l) i j := by
 funext k
 unfold gsw
 unfold atL lsw
 rw [List.getElem?_set,List.getElem?_set]
 simp only [List.length_set]
 by_cases e1 : k = j
 ·subst e1
  by_cases e2 : k = i
  ·subst e2
   simp [hj,atL]
  ·simp [hj,e2]
   rfl
 ·by_cases e2 : k = i
  ·subst e2
   have : ¬ j = k := fun h => e1 h.symm
   simp [this,hi]
   rfl
  ·have h1 : ¬ j = k := fun h => e1 h.symm
   have h2 : ¬ i = k := fun h => e2 h.symm
   simp [h1,h2,e1,e2]
theorem lsw_perm {l : List Tl} {i j : Nat} (hi : i < l.length) (hj : j < l.length) : (lsw l i j).Perm l := by
 rw [List.perm_iff_count]
 intro a
 unfold lsw
 by_cases e : i = j
 ·subst e
  have : (l.set i (atL l i)).set i (atL l i) = l := by
   unfold atL
   rw [List.set_set,List.getElem?_eq_getElem hi]
   simp
  rw [this]
 ·rw [List.count_set (by simpa using hj),List.count_set hi]
  have h1 : (l.set i (atL l j))[j]'(by simpa using hj) = l[j] := by rw [List.getElem_set_ne e]
  rw [h1]
  have ai : atL l i = l[i] := by unfold atL; rw [List.getElem?_eq_getElem hi]; rfl
  have aj : atL l j = l[j] := by unfold atL; rw [List.getElem?_eq_getElem hj]; rfl
  rw [ai,aj]
  have c1 : (if l[i] == a then 1 else 0) ≤ l.count a := by
   split
   ·rename_i h
    have : l[i] = a := by simpa using h
    exact List.count_pos_iff.2 (this ▸ List.getElem_mem hi)
   ·exact Nat.zero_le _
  generalize (l[i] == a) = p at *
  generalize (l[j] == a) = q at *
  generalize List.count a l = c at *
  cases p <;> cases q <;> simp at c1 ⊢ <;> omega
theorem atL_append {l : List Tl} {x : Tl} : atL (l ++ [x]) = fun k => if k = l.length then x else atL l k := by
 funext k
 unfold atL
 by_cases e : k = l.length
 ·subst e; simp
 ·rw [if_neg e]
  by_cases h : k < l.length
  ·rw [List.getElem?_append_left h]
  ·rw [List.getElem?_eq_none (by simp; omega),List.getElem?_eq_none (by omega)]
def LHeap (l : List Tl) : Prop := HeapOk (atL l) l.length
theorem LHeap.nil : LHeap [] := fun i h0 h1 => by simp at h1
theorem HeapOk.congr {g g' : Nat → Tl} {n : Nat} (h : HeapOk g n) (e : ∀ k, k < n → g' k = g k) : HeapOk g' n := fun i h0 h1 => by
 have := par_lt h0
 rw [e i h1,e (par i) (by omega)]
 exact h i h0 h1
theorem LHeap.root {l : List Tl} (h : LHeap l) : ∀ z ∈ l, ¬ keyLt z (atL l 0) := fun z hz => by
 obtain ⟨k,hk,rfl⟩ := List.getElem_of_mem hz
 have := HeapOk.root h k hk
 unfold atL at this ⊢
 rw [List.getElem?_eq_getElem hk] at this
 exact this
theorem LHeap.take {l : List Tl} {n : Nat} (h : HeapOk (atL l) n) (hn : n ≤ l.length) : LHeap (l.take n) := by
 unfold LHeap
 rw [List.length_take,Nat.min_eq_left hn]
 exact h.congr fun k hk => by unfold atL; rw [List.getElem?_take,if_pos hk]
end Go.Proofs.Gr
namespace Go.Proofs
open Pk
set_option maxRecDepth 10000
structure Qn where
 f : Value
 e : Int
 b : Bool
def askE : List Qn → Int
 | [] => 0
 | q :: qs => if q.b then q.e else askE qs
def askCells (qs : List Qn) : List Value := qs.flatMap fun q => [q.f,.int .i64 q.e]
theorem askCells_at : ∀ (qs : List Qn) (i : Nat) (q : Qn), qs[i]? = some q → (askCells qs)[i * 2]? = some q.f ∧ (askCells qs)[i * 2 + 1]? = some (.int .i64 q.e)
 | [],i,q,h => by simp at h
 | a :: qs, 0, q, h => by
  simp at h; subst h
  simp [askCells]
 | a :: qs, i + 1, q, h => by
  have := askCells_at qs i q (by simpa using h)
  have e1 : (i + 1) * 2 = i * 2 + 1 + 1 := by omega
  have e2 : (i + 1) * 2 + 1 = i * 2 + 1 + 1 + 1 := by omega
  rw [e1]
  simp only [askCells,List.flatMap_cons] at this ⊢
  simpa using this
theorem askE_none : ∀ (qs : List Qn), (∀ (j : Nat) (q : Qn), qs[j]? = some q → q.b = false) → askE qs = 0
 | [],_ => rfl
 | q :: qs, h => by
  have h0 := h 0 q rfl
  simp [askE,h0]
  exact askE_none qs fun j q hj => h (j + 1) q hj
theorem askE_at : ∀ (qs : List Qn) (i : Nat) (q : Qn), qs[i]? = some q → q.b = true → (∀ (j : Nat) (q : Qn), j < i → qs[j]? = some q → q.b = false) → askE qs = q.e
 | [],i,q,h,_,_ => by simp at h
 | a :: qs, 0, q, h, hb, _ => by
  simp at h; subst h
  simp [askE,hb]
 | a :: qs, i + 1, q, h, hb, hn => by
  have h0 := hn 0 a (by omega) rfl
  simp [askE,h0]
  exact askE_at qs i q (by simpa using h) hb fun j q hj hq => hn (j + 1) q (by omega) (by simpa using hq)
abbrev Ct := Gr.Ct
end Go.Proofs