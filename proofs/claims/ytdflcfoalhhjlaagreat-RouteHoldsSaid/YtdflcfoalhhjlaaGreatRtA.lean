/-
 Ways one by one,plain: best ways,each with another first contact than those ahead.
-/
import Derived.Test.YtdflcfoalhhjlaaGreatAmO
import Derived.Test.YtdflcfoalhhjlaaGreatGdJ
import Derived.Test.YtdflcfoalhhjlaaGreatGdP
namespace Go.Proofs.Gr
section
variable (L : List Ct) (snt : Ct → Int → Option Int) (fr at0 : Int) (K : Nat) (to' til : Int)
def Fs (no : List Ct) : List Ct := L.filter fun c => decide (c.fr = fr) && !decide (c ∈ no)
inductive Wys : List Ct → List Tl → Prop
 | nil (no : List Ct) (h : (∃ t,BestOf L snt (Fs L fr no) at0 K to' t ∧ til ≤ t.a) ∨ ∀ y,Wk L snt (Fs L fr no) at0 y → y.h ≤ K → y.n ≠ to') : Wys no []
 | cons (no : List Ct) (t : Tl) (l : List Tl) (h : BestOf L snt (Fs L fr no) at0 K to' t) (ht : t.a < til) (hl : Wys (no ++ [t.f]) l) : Wys no (t :: l)
end
variable {L : List Ct} {snt snt' : Ct → Int → Option Int} {fr at0 : Int} {K : Nat} {to' til : Int}
theorem mem_Fs {no : List Ct} {c : Ct} : c ∈ Fs L fr no ↔ c ∈ L ∧ c.fr = fr ∧ c ∉ no := by
 unfold Fs
 simp [List.mem_filter]
theorem Wk.sub {F F' : List Ct} {x : Tl} (h : Wk L snt F at0 x) (hx : x.f ∈ F') : Wk L snt F' at0 x := by
 induction h with
 | one f a hf hs => exact .one f a hx hs
 | step x c b hx' hc hn hs ih => exact .step x c b (ih hx) hc hn hs
theorem keyNot_trans {x y z : Tl} (h1 : ¬ keyLt x y) (h2 : ¬ keyLt y z) : ¬ keyLt x z := by unfold keyLt at *; omega
theorem Fs_apart (hA : FApart (Fs L fr [])) (no : List Ct) : FApart (Fs L fr no) := fun f hf g hg h1 h2 =>
 hA f (mem_Fs.2 ⟨(mem_Fs.1 hf).1,(mem_Fs.1 hf).2.1,by simp⟩) g (mem_Fs.2 ⟨(mem_Fs.1 hg).1,(mem_Fs.1 hg).2.1,by simp⟩) h1 h2
theorem Wys.uniq (hA : FApart (Fs L fr [])) {no : List Ct} {l l' : List Tl} (h : Wys L snt fr at0 K to' til no l) (h' : Wys L snt fr at0 K to' til no l') : l = l' := by
 induction h generalizing l' with
 | nil no h =>
  cases h' with
  | nil => rfl
  | cons _ t l h1 h2 h3 =>
   rcases h with ⟨t', h4, h5⟩ | h4
   ·have := h1.uniq (Fs_apart hA no) h4
    subst this
    omega
   ·exact (h4 t h1.wk h1.h h1.at_).elim
 | cons no t l h ht hl ih =>
  cases h' with
  | nil _ h1 =>
   rcases h1 with ⟨t', h4, h5⟩ | h4
   ·have := h.uniq (Fs_apart hA no) h4
    subst this
    omega
   ·exact (h4 t h.wk h.h h.at_).elim
  | cons _ t' l' h1 h2 h3 =>
   obtain rfl := h.uniq (Fs_apart hA no) h1
   rw [ih h3]
theorem Wys.drop {no : List Ct} {l : List Tl} (h : Wys L snt fr at0 K to' til no l) : ∀ i, i ≤ l.length → Wys L snt fr at0 K to' til (no ++ (l.take i).map (·.f)) (l.drop i) := by
 induction h with
 | nil no h => intro i hi; simp at hi; subst hi; simpa using Wys.nil no h
 | cons no t l h ht hl ih =>
  intro i hi
  cases i with
  | zero => simpa using Wys.cons no t l h ht hl
  | succ i =>
   have := ih i (by simpa using hi)
   simpa using this
theorem Wys.mem {no : List Ct} {l : List Tl} (h : Wys L snt fr at0 K to' til no l) : ∀ x ∈ l, Wk L snt (Fs L fr no) at0 x ∧ x.f ∈ Fs L fr no ∧ x.n = to' ∧ x.h ≤ K ∧ x.a < til := by
 induction h with
 | nil => simp
 | cons no t l h ht hl ih =>
  intro x hx
  rcases List.mem_cons.1 hx with rfl | hx
  ·exact ⟨h.wk,h.wk.f_mem,h.at_,h.h,ht⟩
  ·obtain ⟨h1,h2,h3⟩ := ih x hx
   have hf := mem_Fs.1 h2
   have : x.f ∈ Fs L fr no := mem_Fs.2 ⟨hf.1,hf.2.1,fun hn => hf.2.2 (by simp [hn])⟩
   exact ⟨h1.sub this,this,h3⟩
theorem Wys.firsts {no : List Ct} {l : List Tl} (h : Wys L snt fr at0 K to' til no l) : (l.map (·.f)).Nodup := by
 induction h with
 | nil => simp
 | cons no t l h ht hl ih =>
  simp only [List.map_cons,List.nodup_cons]
  refine ⟨fun hm => ?_,ih⟩
  obtain ⟨x,hx,e⟩ := List.mem_map.1 hm
  have := (mem_Fs.1 (hl.mem x hx).2.1).2.2
  rw [e] at this
  simp at this
theorem Wys.len {no : List Ct} {l : List Tl} (h : Wys L snt fr at0 K to' til no l) : l.length ≤ L.length := by
 have := sub_len h.firsts (m := L) fun c hc => by
  obtain ⟨x,hx,rfl⟩ := List.mem_map.1 hc
  exact (mem_Fs.1 (h.mem x hx).2.1).1
 simpa using this
theorem Wys.sorted {no : List Ct} {l : List Tl} (h : Wys L snt fr at0 K to' til no l) : l.Pairwise fun x y => ¬ keyLt y x := by
 induction h with
 | nil => simp
 | cons no t l h ht hl ih =>
  refine List.pairwise_cons.2 ⟨fun y hy => ?_,ih⟩
  obtain ⟨h1,h2,h3,h4,h5⟩ := hl.mem y hy
  have hf := mem_Fs.1 h2
  exact h.min y (h1.sub (mem_Fs.2 ⟨hf.1,hf.2.1,fun hn => hf.2.2 (by simp [hn])⟩)) h3 h4
def Later (snt snt' : Ct → Int → Option Int) : Prop := ∀ c t a',snt' c t = some a' → ∃ a,snt c t = some a ∧ a ≤ a'
theorem Wk.ahead (hS : Sn snt) (hl : Later snt snt') {F : List Ct} {x : Tl} (h : Wk L snt' F at0 x) : ∃ y, Wk L snt F at0 y ∧ y.n = x.n ∧ y.h = x.h ∧ y.f = x.f ∧ y.a ≤ x.a := by
 induction h with
 | one f a hf hs =>
  obtain ⟨b,h1,h2⟩ := hl f at0 a hs
  exact ⟨⟨b,1,f,f.to'⟩,.one f b hf h1,rfl,rfl,rfl,h2⟩
 | step x c b hx hc hn hs ih =>
  obtain ⟨y,y1,y2,y3,y4,y5⟩ := ih
  obtain ⟨b1,h1,h2⟩ := hl c x.a b hs
  obtain ⟨b2,h3,h4⟩ := hS.fifo c y.a x.a b1 y5 h1
  exact ⟨⟨b2,y.h + 1,y.f,c.to'⟩,.step y c b2 y1 hc (by rw [hn,y2]) h3,rfl,by simp [y3],y4,by simp only; omega⟩
theorem has_new {α : Type} [DecidableEq α] {l m : List α} (hl : l.Nodup) (h : m.length < l.length) : ∃ x ∈ l, x ∉ m := by
 by_cases hx : ∃ x ∈ l, x ∉ m
 ·exact hx
 ·have := sub_len hl (m := m) fun x hm => Decidable.byContradiction fun hn => hx ⟨x,hm,hn⟩
  omega
theorem Wys.worse (hS : Sn snt) (hl : Later snt snt') {no : List Ct} {l m : List Tl} (h : Wys L snt fr at0 K to' til no l) (h' : Wys L snt' fr at0 K to' til no m) {i : Nat} (hi : i < m.length) :
  ∃ hil : i < l.length,¬ keyLt m[i] l[i] := by
 have hle : i ≤ l.length ∨ l.length < i := by omega
 have pick : ∀ k, k ≤ i → k ≤ l.length → ∃ j, ∃ hj : j < m.length, j ≤ k ∧ m[j].f ∉ (l.take k).map (·.f) := by
  intro k hk hkl
  have hnd : ((m.take (k + 1)).map (·.f)).Nodup := (List.map_take ▸ (h'.firsts).sublist (List.take_sublist _ _))
  obtain ⟨f,hf,hn⟩ := has_new (m := (l.take k).map (·.f)) hnd (by simp; omega)
  obtain ⟨x,hx,rfl⟩ := List.mem_map.1 hf
  obtain ⟨j,hj,rfl⟩ := List.getElem_of_mem hx
  simp at hj
  refine ⟨j,by omega,by omega,?_⟩
  rw [List.getElem_take] at hn
  exact hn
 have step : ∀ k, k ≤ i → k ≤ l.length → ∃ hk : k < l.length, ∃ j, ∃ hj : j < m.length, j ≤ k ∧ ¬ keyLt m[j] l[k] := by
  intro k hk hkl
  obtain ⟨j,hj,hjk,hjf⟩ := pick k hk hkl
  obtain ⟨w1,w2,w3,w4,w5⟩ := h'.mem m[j] (List.getElem_mem hj)
  obtain ⟨y,y1,y2,y3,y4,y5⟩ := w1.ahead hS hl
  have hd := h.drop k hkl
  have hf := mem_Fs.1 w2
  have hyF : y.f ∈ Fs L fr (no ++ (l.take k).map (·.f)) := mem_Fs.2 ⟨by rw [y4]; exact hf.1, by rw [y4]; exact hf.2.1, by
   rw [y4]
   intro hm
   rcases List.mem_append.1 hm with hm | hm
   ·exact hf.2.2 hm
   ·exact hjf hm⟩
  have hyW := y1.sub hyF
  have hworse : ¬ keyLt m[j] y := by unfold keyLt; rw [y3,y4]; omega
  by_cases hkl' : k < l.length
  ·refine ⟨hkl',j,hj,hjk,?_⟩
   rw [List.drop_eq_getElem_cons hkl'] at hd
   cases hd with
   | cons _ _ _ b1 b2 b3 => exact keyNot_trans hworse (b1.min y hyW (by rw [y2,w3]) (by omega))
  ·exfalso
   rw [List.drop_eq_nil_of_le (by omega)] at hd
   cases hd with
   | nil _ b1 =>
    rcases b1 with ⟨t, ht, e1⟩ | hnone
    ·have e2 := ht.min y hyW (by rw [y2,w3]) (by omega)
     have := not_keyLt_a e2
     omega
    ·exact hnone y hyW (by omega) (by rw [y2,w3])
 have all : ∀ k, k ≤ i → k < l.length := by
  intro k
  induction k with
  | zero => intro hk; exact (step 0 hk (by omega)).1
  | succ k ih => intro hk; exact (step (k + 1) hk (by have := ih (by omega); omega)).1
 refine ⟨all i (Nat.le_refl _),?_⟩
 obtain ⟨hk,j,hj,hjk,hh⟩ := step i (Nat.le_refl _) (by have := all i (Nat.le_refl _); omega)
 rcases Nat.lt_or_ge j i with hji | hji
 ·exact keyNot_trans (List.pairwise_iff_getElem.1 h'.sorted j i hj hi hji) hh
 ·obtain rfl : j = i := by omega
  exact hh
end Go.Proofs.Gr
namespace Go.Proofs
open Pk
set_option maxRecDepth 10000
theorem overT_mono_n {f n n' r : Int} (hf : 0 ≤ f) (h0 : 0 ≤ n) (h : n ≤ n') (hr : 0 ≤ r) : overT f n r ≤ overT f n' r := by
 unfold overT
 by_cases h1 : n' = 0
 ·have : n = 0 := by omega
  rw [if_pos h1,if_pos this]
  omega
 rw [if_neg h1]
 by_cases hr0 : r = 0
 ·rw [if_pos hr0,if_pos hr0]
  split
  ·exact top_le f
  ·omega
 rw [if_neg hr0,if_neg hr0]
 have hrp : 0 < r := by omega
 have e1 := Int.emod_add_mul_ediv n r
 have e2 := Int.emod_nonneg n hr0
 have f1 := Int.emod_add_mul_ediv n' r
 have f2 := Int.emod_nonneg n' hr0
 have e3 := Int.ediv_nonneg h0 hr
 have f3 := Int.ediv_le_ediv hrp h
 have key : n / r + min 1 (n % r) ≤ n' / r + min 1 (n' % r) := by
  by_cases hq : n / r = n' / r
  ·rw [hq] at e1 ⊢
   omega
  ·omega
 have hk : 0 ≤ n / r + min 1 (n % r) := by omega
 split
 ·unfold addT top; omega
 ·unfold addT
  refine top_mono ?_
  have := top_mono key
  omega
theorem bkd_book {m : VM} {c0 : Ct} {n0 : Int} (h0 : 0 ≤ n0) (c : Ct) : bkd m c ≤ bkd (bookM m c0 n0) c := by
 unfold bookM
 split
 ·unfold bkd
  rw [kget_mset]
  by_cases hk : vkey c = vkey c0
  ·rw [if_pos hk,hk]
   simp
   omega
  ·rw [if_neg hk]
   omega
 ·omega
theorem booked_book {m : VM} {c0 : Ct} {n0 : Int} (h0 : 0 ≤ n0) (c : Ct) : bookedT m c ≤ bookedT (bookM m c0 n0) c := by
 unfold bookedT
 split
 ·exact bkd_book h0 c
 ·omega
theorem later_book {M : ME} {m : VM} (hm : vmOk m) {c0 : Ct} {n0 : Int} (h0 : 0 ≤ n0) (n : Int) : Gr.Later (gSnt M m n) (gSnt M (bookM m c0 n0) n) := by
 intro c t a' h
 unfold gSnt at h ⊢
 split at h
 ·rename_i h1
  rw [if_pos h1]
  obtain ⟨k1,k2,k3,k4⟩ := sentO_is h
  obtain ⟨l1,l2,l3⟩ := sentN_is k1
  have hc := ctRight_is l1
  have hb := booked_book (m := m) (c0 := c0) h0 c
  have hb0 : 0 ≤ bookedT m c := by
   unfold bookedT
   rw [if_pos l1]
   exact (bkd_b hm c).1
  have hroom : roomT (bookM m c0 n0) c t ≤ roomT m c t := by
   unfold roomT
   rw [if_pos l1,if_pos l1]
   omega
  have hover : overL m c t n ≤ overL (bookM m c0 n0) c t n := by
   unfold overL
   rw [if_pos l1,if_pos l1]
   have ha : addT (bookedT m c) n ≤ addT (bookedT (bookM m c0 n0) c) n := by
    unfold addT
    exact top_mono (by have := top_mono hb; omega)
   have ha0 : 0 ≤ addT (bookedT m c) n := by
    unfold addT top
    omega
   have := overT_mono_n (f := c.sf) h1.1 ha0 ha (r := c.rate) (by omega)
   omega
  have hle := sentB_mono (m := sps M (c.fr,c.to')) (kys _) (kys_ok _) (u := c.su) hover k2
  refine ⟨sentB (sps M (c.fr,c.to')) (overL m c t n) c.su (lnd (sps M (c.fr,c.to')) (overL m c t n)) (kys (sps M (c.fr,c.to'))),?_,by omega⟩
  unfold sentO
  rw [if_neg (by rw [sentN_of l1 l2 (Int.le_trans l3 hroom)]; simp),if_neg (by omega),if_neg (by omega)]
 ·cases h
end Go.Proofs
namespace Go.Proofs
open Pk
set_option maxRecDepth 10000
theorem firsts_Fs (L : List Ct) (q : Qu) : firsts L q = Gr.Fs L q.fr q.no := by
 unfold firsts fromL Gr.Fs
 rw [List.filter_filter]
 refine List.filter_congr fun c _ => ?_
 exact Bool.and_comm _ _
abbrev qNo (q : Qu) (no : List Ct) : Qu := { q with no := no }
abbrev WaysOf (L : List Ct) (snt : Ct → Int → Option Int) (q : Qu) (til : Int) : List Ct → List Tl → Prop := Gr.Wys L snt q.fr q.at_ q.most.toNat q.to' til
theorem way_none {L : List Ct} {snt : Ct → Int → Option Int} {q : Qu} {no : List Ct} {x : Wy} {n til : Int} (hb : (badQ q || badE q) = false) (h : BestT L snt (firsts L (qNo q no)) (qNo q no) x n) (hn : n = 0 → til ≤ x.a) : WaysOf L snt q til no [] := by
 rw [firsts_Fs] at h
 rcases h.ok hb with ⟨t, h1, rfl, h2⟩ | ⟨h1, -, -⟩
 ·exact .nil no (.inl ⟨t,h1,hn h2⟩)
 ·exact .nil no (.inr h1)
end Go.Proofs