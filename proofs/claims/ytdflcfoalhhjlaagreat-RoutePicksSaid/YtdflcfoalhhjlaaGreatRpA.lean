/-
 Stable sorting in place,plain: elements with the place they had,insertion,rotation,the merge by rotation.
-/
import Derived.Test.YtdflcfoalhhjlaaGreatRuQ
import Derived.Test.YtdflcfoalhhjlaaGreatEngV
namespace Go.Proofs.St
variable {α : Type}
structure Swo (lt : α → α → Prop) : Prop where
 asy : ∀ {x y},lt x y → ¬ lt y x
 nt : ∀ {x y z},¬ lt x y → ¬ lt y z → ¬ lt x z
def tl (lt : α → α → Prop) (x y : α × Nat) : Prop := ¬ lt y.1 x.1 ∧ (lt x.1 y.1 ∨ x.2 < y.2)
variable {lt : α → α → Prop}
theorem tl_trans (h : Swo lt) {x y z : α × Nat} (h1 : tl lt x y) (h2 : tl lt y z) : tl lt x z := by
 obtain ⟨a1,a2⟩ := h1
 obtain ⟨b1,b2⟩ := h2
 refine ⟨h.nt b1 a1,?_⟩
 rcases a2 with a2 | a2
 ·exact .inl (Classical.byContradiction fun hn => h.nt hn b1 a2)
 ·rcases b2 with b2 | b2
  ·exact .inl (Classical.byContradiction fun hn => h.nt a1 hn b2)
  ·exact .inr (by omega)
theorem tl_asym (h : Swo lt) {x y : α × Nat} (h1 : tl lt x y) (h2 : tl lt y x) : False := by
 obtain ⟨a1,a2⟩ := h1
 obtain ⟨b1,b2⟩ := h2
 rcases a2 with a2 | a2
 ·exact b1 a2
 ·rcases b2 with b2 | b2
  ·exact a1 b2
  ·omega
def Sd (lt : α → α → Prop) (F : Nat → α × Nat) (a b : Nat) : Prop := ∀ i j,a ≤ i → i < j → j < b → tl lt (F i) (F j)
def PM (F G : Nat → α × Nat) (n : Nat) : Prop := ((List.range n).map F).Perm ((List.range n).map G)
theorem PM.refl (F : Nat → α × Nat) (n : Nat) : PM F F n := List.Perm.refl _
theorem PM.trans {F G H : Nat → α × Nat} {n : Nat} (h : PM F G n) (k : PM G H n) : PM F H n := List.Perm.trans h k
theorem uniq (h : Swo lt) {F G : Nat → α × Nat} {n : Nat} (h1 : Sd lt F 0 n) (h2 : Sd lt G 0 n) (hp : PM F G n) : (List.range n).map F = (List.range n).map G := by
 refine List.Perm.eq_of_pairwise (le := tl lt) (fun x y _ _ a b => (tl_asym h a b).elim) ?_ ?_ hp
 ·rw [List.pairwise_iff_getElem]
  intro i j hi hj hij
  simp at hi hj
  simpa using h1 i j (Nat.zero_le _) hij hj
 ·rw [List.pairwise_iff_getElem]
  intro i j hi hj hij
  simp at hi hj
  simpa using h2 i j (Nat.zero_le _) hij hj
def sw (F : Nat → α × Nat) (i j : Nat) : Nat → α × Nat := fun x => if x = j then F i else if x = i then F j else F x
def up {β : Type} (f : Nat → β) (i : Nat) (x : β) : Nat → β := fun y => if y = i then x else f y
theorem map_up {β : Type} (f : Nat → β) (i : Nat) (x : β) (n : Nat) : (List.range n).map (up f i x) = ((List.range n).map f).set i x := by
 apply List.ext_getElem
 ·simp
 ·intro j h1 h2
  simp [List.getElem_set,up,eq_comm]
theorem sw_up (F : Nat → α × Nat) (i j : Nat) : sw F i j = up (up F i (F j)) j (F i) := by
 funext x
 unfold sw up
 by_cases h1 : x = j
 ·simp [h1]
 ·by_cases h2 : x = i <;> simp [h1,h2]
theorem PM.sw {F G : Nat → α × Nat} {n : Nat} (h : PM F G n) {i j : Nat} (hi : i < n) (hj : j < n) : PM (St.sw F i j) G n := by
 refine List.Perm.trans ?_ h
 unfold PM at *
 rw [sw_up,map_up,map_up]
 have := @List.set_set_perm _ ((List.range n).map F) i j (by simpa using hi) (by simpa using hj)
 simpa using this
structure Rg (F' F : Nat → α × Nat) (a b : Nat) : Prop where
 out : ∀ x,x < a ∨ b ≤ x → F' x = F x
 in' : ∀ i,a ≤ i → i < b → ∃ j,a ≤ j ∧ j < b ∧ F' i = F j
theorem Rg.refl (F : Nat → α × Nat) (a b : Nat) : Rg F F a b := ⟨fun _ _ => rfl,fun i h1 h2 => ⟨i,h1,h2,rfl⟩⟩
theorem Rg.trans {F G H : Nat → α × Nat} {a b : Nat} (h : Rg F G a b) (k : Rg G H a b) : Rg F H a b :=
 ⟨fun x hx => (h.out x hx).trans (k.out x hx), fun i h1 h2 => by
  obtain ⟨j,j1,j2,e⟩ := h.in' i h1 h2
  obtain ⟨l,l1,l2,e'⟩ := k.in' j j1 j2
  exact ⟨l,l1,l2,e.trans e'⟩⟩
theorem Rg.wide {F G : Nat → α × Nat} {a b a' b' : Nat} (h : Rg F G a b) (ha : a' ≤ a) (hb : b ≤ b') : Rg F G a' b' :=
 ⟨fun x hx => h.out x (by omega), fun i h1 h2 => by
  by_cases hi : a ≤ i ∧ i < b
  ·obtain ⟨j,j1,j2,e⟩ := h.in' i hi.1 hi.2
   exact ⟨j,by omega,by omega,e⟩
  ·exact ⟨i,h1,h2,h.out i (by omega)⟩⟩
theorem Rg.sw {F G : Nat → α × Nat} {a b i j : Nat} (h : Rg F G a b) (hi : a ≤ i ∧ i < b) (hj : a ≤ j ∧ j < b) : Rg (St.sw F i j) G a b := by
 refine Rg.trans ⟨fun x hx => ?_, fun x h1 h2 => ?_⟩ h
 ·unfold St.sw
  rw [if_neg (by omega),if_neg (by omega)]
 ·unfold St.sw
  by_cases e : x = j
  ·exact ⟨i,hi.1,hi.2,by simp [e]⟩
  ·by_cases e2 : x = i
   ·exact ⟨j,hj.1,hj.2,by rw [if_neg e,if_pos e2]⟩
   ·exact ⟨x,h1,h2,by simp [e,e2]⟩
structure Ins (lt : α → α → Prop) (F : Nat → α × Nat) (a i j : Nat) : Prop where
 p1 : ∀ p q,a ≤ p → p < q → q ≤ i → p ≠ j → q ≠ j → tl lt (F p) (F q)
 p2 : ∀ q,j < q → q ≤ i → tl lt (F j) (F q)
 t : ∀ p,a ≤ p → p < j → (F p).2 < (F j).2
theorem Ins.start {F : Nat → α × Nat} {a i : Nat} (h : Sd lt F a i) (ht : ∀ p, a ≤ p → p < i → (F p).2 < (F i).2) : Ins lt F a i i :=
 ⟨fun p q h1 h2 h3 h4 h5 => h p q h1 h2 (by omega),fun q h1 h2 => by omega,ht⟩
theorem Ins.step (hS : Swo lt) {F : Nat → α × Nat} {a i j : Nat} (h : Ins lt F a i j) (hj : a < j) (hji : j ≤ i) (hl : lt (F j).1 (F (j - 1)).1) : Ins lt (St.sw F j (j - 1)) a i (j - 1) := by
 have e1 : ∀ x,x ≠ j - 1 → x ≠ j → St.sw F j (j - 1) x = F x := fun x h1 h2 => by simp [St.sw,h1,h2]
 have e2 : St.sw F j (j - 1) (j - 1) = F j := by simp [St.sw]
 have e3 : St.sw F j (j - 1) j = F (j - 1) := by
  unfold St.sw
  rw [if_neg (by omega),if_pos rfl]
 refine ⟨fun p q h1 h2 h3 h4 h5 => ?_, fun q h1 h2 => ?_, fun p h1 h2 => ?_⟩
 ·by_cases hp : p = j
  ·subst hp
   rw [e3,e1 q (by omega) (by omega)]
   exact h.p1 (p - 1) q (by omega) (by omega) h3 (by omega) (by omega)
  ·by_cases hq : q = j
   ·subst hq
    rw [e3,e1 p (by omega) (by omega)]
    exact h.p1 p (q - 1) h1 (by omega) (by omega) (by omega) (by omega)
   ·rw [e1 p h4 hp,e1 q h5 hq]
    exact h.p1 p q h1 h2 h3 hp hq
 ·rw [e2]
  by_cases hq : q = j
  ·subst hq
   rw [e3]
   exact ⟨hS.asy hl,.inl hl⟩
  ·rw [e1 q (by omega) hq]
   exact h.p2 q (by omega) h2
 ·rw [e2,e1 p (by omega) (by omega)]
  exact h.t p h1 (by omega)
theorem Ins.stop (hS : Swo lt) {F : Nat → α × Nat} {a i j : Nat} (h : Ins lt F a i j) (hj : a ≤ j) (hji : j ≤ i) (hl : a < j → ¬ lt (F j).1 (F (j - 1)).1) : Sd lt F a (i + 1) := by
 intro p q h1 h2 h3
 by_cases hp : p = j
 ·subst hp
  exact h.p2 q h2 (by omega)
 ·by_cases hq : q = j
  ·subst hq
   have hb : tl lt (F (q - 1)) (F q) := ⟨hl (by omega),.inr (h.t _ (by omega) (by omega))⟩
   by_cases he : p = q - 1
   ·rw [he]; exact hb
   ·exact tl_trans hS (h.p1 p (q - 1) h1 (by omega) (by omega) hp (by omega)) hb
  ·exact h.p1 p q h1 h2 (by omega) hp hq
end Go.Proofs.St
namespace Go.Proofs.St
variable {α : Type} {lt : α → α → Prop}
def swr (F : Nat → α × Nat) (a b n : Nat) : Nat → α × Nat := fun x => if a ≤ x ∧ x < a + n then F (b + (x - a)) else if b ≤ x ∧ x < b + n then F (a + (x - b)) else F x
theorem swr_0 (F : Nat → α × Nat) (a b : Nat) : swr F a b 0 = F := by
 funext x
 unfold swr
 rw [if_neg (by omega),if_neg (by omega)]
theorem swr_step (F : Nat → α × Nat) {a b n : Nat} (h : a + n < b) : sw (swr F a b n) (a + n) (b + n) = swr F a b (n + 1) := by
 funext x
 unfold sw swr
 by_cases h1 : x = b + n
 ·rw [if_pos h1,if_neg (by omega),if_neg (by omega),if_neg (by omega),if_pos (by omega)]
  congr 1; omega
 ·rw [if_neg h1]
  by_cases h2 : x = a + n
  ·rw [if_pos h2,if_neg (by omega),if_neg (by omega),if_pos (by omega)]
   congr 1; omega
  ·rw [if_neg h2]
   by_cases h3 : a ≤ x ∧ x < a + n
   ·rw [if_pos h3,if_pos (by omega)]
   ·rw [if_neg h3]
    by_cases h4 : b ≤ x ∧ x < b + n
    ·rw [if_pos h4,if_neg (by omega),if_pos (by omega)]
    ·rw [if_neg h4,if_neg (by omega),if_neg (by omega)]
def rot (F : Nat → α × Nat) (a m b : Nat) : Nat → α × Nat := fun x => if a ≤ x ∧ x < a + (b - m) then F (x - a + m) else if a + (b - m) ≤ x ∧ x < b then F (x - (a + (b - m)) + a) else F x
theorem rot_gt (F : Nat → α × Nat) {m i j : Nat} (hi : i ≤ m) (hij : j < i) : rot (swr F (m - i) m j) (m - i + j) m (m + j) = rot F (m - i) m (m + j) := by
 funext x
 unfold rot
 by_cases h1 : m - i ≤ x ∧ x < m - i + (m + j - m)
 ·rw [if_pos h1,if_neg (by omega),if_neg (by omega)]
  unfold swr
  rw [if_pos (by omega)]
  congr 1; omega
 ·rw [if_neg h1]
  by_cases h2 : m - i + (m + j - m) ≤ x ∧ x < m + j
  ·rw [if_pos h2]
   by_cases h3 : m - i + j ≤ x ∧ x < m - i + j + (m + j - m)
   ·rw [if_pos h3]
    unfold swr
    rw [if_neg (by omega),if_pos (by omega)]
    congr 1; omega
   ·rw [if_neg h3,if_pos (by omega)]
    unfold swr
    rw [if_neg (by omega),if_neg (by omega)]
    congr 1; omega
  ·rw [if_neg h2,if_neg (by omega),if_neg (by omega)]
   unfold swr
   rw [if_neg (by omega),if_neg (by omega)]
theorem rot_lt (F : Nat → α × Nat) {m i j : Nat} (hi : i ≤ m) (hij : i < j) : rot (swr F (m - i) (m + j - i) i) (m - i) m (m + (j - i)) = rot F (m - i) m (m + j) := by
 funext x
 unfold rot
 by_cases h1 : m - i ≤ x ∧ x < m - i + (m + (j - i) - m)
 ·rw [if_pos h1,if_pos (by omega)]
  unfold swr
  by_cases h3 : m - i ≤ x - (m - i) + m ∧ x - (m - i) + m < m - i + i
  ·omega
  ·rw [if_neg h3,if_neg (by omega)]
 ·rw [if_neg h1]
  by_cases h2 : m - i + (m + (j - i) - m) ≤ x ∧ x < m + (j - i)
  ·rw [if_pos h2,if_pos (by omega)]
   unfold swr
   rw [if_pos (by omega)]
   congr 1; omega
  ·rw [if_neg h2]
   by_cases h4 : m - i + (m + j - m) ≤ x ∧ x < m + j
   ·rw [if_neg (by omega),if_pos h4]
    unfold swr
    rw [if_neg (by omega),if_pos (by omega)]
    congr 1; omega
   ·rw [if_neg (by omega),if_neg h4]
    unfold swr
    rw [if_neg (by omega),if_neg (by omega)]
theorem rot_eq (F : Nat → α × Nat) {m i : Nat} (hi : i ≤ m) : swr F (m - i) m i = rot F (m - i) m (m + i) := by
 funext x
 unfold rot swr
 by_cases h1 : m - i ≤ x ∧ x < m - i + i
 ·rw [if_pos h1,if_pos (by omega)]
  congr 1; omega
 ·rw [if_neg h1]
  by_cases h2 : m ≤ x ∧ x < m + i
  ·rw [if_pos h2,if_neg (by omega),if_pos (by omega)]
   congr 1; omega
  ·rw [if_neg h2,if_neg (by omega),if_neg (by omega)]
theorem rot_none {F : Nat → α × Nat} {a m b : Nat} (h : a = m ∨ m = b) (hab : a ≤ b) : rot F a m b = F := by
 funext x
 unfold rot
 by_cases h1 : a ≤ x ∧ x < a + (b - m)
 ·rw [if_pos h1]
  congr 1; omega
 ·rw [if_neg h1]
  by_cases h2 : a + (b - m) ≤ x ∧ x < b
  ·rw [if_pos h2]
   congr 1; omega
  ·rw [if_neg h2]
theorem PM.swr {F G : Nat → α × Nat} {N a b n : Nat} (h : PM F G N) (hab : a + n ≤ b) (hb : b + n ≤ N) : PM (St.swr F a b n) G N := by
 induction n with
 | zero => rw [swr_0]; exact h
 | succ n ih =>
  rw [← swr_step F (by omega)]
  exact (ih (by omega) (by omega)).sw (by omega) (by omega)
theorem Rg.rot {F : Nat → α × Nat} {a m b : Nat} (h1 : a ≤ m) (h2 : m ≤ b) : Rg (St.rot F a m b) F a b := by
 refine ⟨fun x hx => ?_, fun i k1 k2 => ?_⟩
 ·unfold St.rot
  rw [if_neg (by omega),if_neg (by omega)]
 ·unfold St.rot
  by_cases e : a ≤ i ∧ i < a + (b - m)
  ·rw [if_pos e]; exact ⟨_,by omega,by omega,rfl⟩
  ·rw [if_neg e,if_pos (by omega)]; exact ⟨_,by omega,by omega,rfl⟩
structure Mg (lt : α → α → Prop) (F : Nat → α × Nat) (a m b : Nat) : Prop where
 l : Sd lt F a m
 r : Sd lt F m b
 t : ∀ i j,a ≤ i → i < m → m ≤ j → j < b → (F i).2 < (F j).2
def mv1 (F : Nat → α × Nat) (a k : Nat) : Nat → α × Nat := fun x => if a ≤ x ∧ x < k then F (x + 1) else if x = k then F a else F x
theorem mv1_0 (F : Nat → α × Nat) (a : Nat) : mv1 F a a = F := by
 funext x
 unfold mv1
 rw [if_neg (by omega)]
 split
 ·rename_i h; rw [h]
 ·rfl
theorem mv1_step (F : Nat → α × Nat) {a k : Nat} (h : a ≤ k) : sw (mv1 F a k) k (k + 1) = mv1 F a (k + 1) := by
 funext x
 unfold sw mv1
 by_cases h1 : x = k + 1
 ·rw [if_pos h1,if_neg (by omega),if_pos rfl,if_neg (by omega),if_pos h1]
 ·rw [if_neg h1]
  by_cases h2 : x = k
  ·rw [if_pos h2,if_neg (by omega),if_neg (by omega),if_pos (by omega),h2]
  ·rw [if_neg h2]
   by_cases h3 : a ≤ x ∧ x < k
   ·rw [if_pos h3,if_pos (by omega)]
   ·rw [if_neg h3,if_neg h2,if_neg (by omega),if_neg h1]
theorem Mg.one (h : Swo lt) {F : Nat → α × Nat} {a b i : Nat} (hM : Mg lt F a (a + 1) b) (hi : a + 1 ≤ i ∧ i ≤ b) (h1 : ∀ c, a + 1 ≤ c → c < i → lt (F c).1 (F a).1) (h2 : ∀ c, i ≤ c → c < b → ¬ lt (F c).1 (F a).1) : Sd lt (mv1 F a (i - 1)) a b := by
 intro p q k1 k2 k3
 unfold mv1
 have hl : ∀ c,a + 1 ≤ c → c < i → tl lt (F c) (F a) := fun c c1 c2 => ⟨h.asy (h1 c c1 c2),.inl (h1 c c1 c2)⟩
 have hr : ∀ c,i ≤ c → c < b → tl lt (F a) (F c) := fun c c1 c2 => ⟨h2 c c1 c2,.inr (hM.t a c (Nat.le_refl _) (by omega) (by omega) c2)⟩
 by_cases p1 : a ≤ p ∧ p < i - 1
 ·rw [if_pos p1]
  by_cases q1 : a ≤ q ∧ q < i - 1
  ·rw [if_pos q1]; exact hM.r _ _ (by omega) (by omega) (by omega)
  ·rw [if_neg q1]
   by_cases q2 : q = i - 1
   ·rw [if_pos q2]; exact hl _ (by omega) (by omega)
   ·rw [if_neg q2]; exact hM.r _ _ (by omega) (by omega) k3
 ·rw [if_neg p1,if_neg (show ¬ (a ≤ q ∧ q < i - 1) by omega),if_neg (show ¬ q = i - 1 by omega)]
  by_cases p2 : p = i - 1
  ·rw [if_pos p2]; exact hr _ (by omega) k3
  ·rw [if_neg p2]; exact hM.r _ _ (by omega) (by omega) k3
theorem Mg.one_lt (h : Swo lt) {F : Nat → α × Nat} {a b c c' : Nat} (hM : Mg lt F a (a + 1) b) (hc : a + 1 ≤ c') (hcc : c' ≤ c) (hb : c < b) (hl : lt (F c).1 (F a).1) : lt (F c').1 (F a).1 := by
 by_cases e : c' = c
 ·rw [e]; exact hl
 ·exact Classical.byContradiction fun hn => h.nt (hM.r c' c hc (by omega) hb).1 hn hl
theorem Mg.one_nlt (h : Swo lt) {F : Nat → α × Nat} {a b c c' : Nat} (hM : Mg lt F a (a + 1) b) (hc : a + 1 ≤ c) (hcc : c ≤ c') (hb : c' < b) (hl : ¬ lt (F c).1 (F a).1) : ¬ lt (F c').1 (F a).1 := by
 by_cases e : c' = c
 ·rw [e]; exact hl
 ·exact h.nt (hM.r c c' hc (by omega) hb).1 hl
def mv2 (F : Nat → α × Nat) (m k : Nat) : Nat → α × Nat := fun x => if k < x ∧ x ≤ m then F (x - 1) else if x = k then F m else F x
theorem mv2_0 (F : Nat → α × Nat) (m : Nat) : mv2 F m m = F := by
 funext x
 unfold mv2
 rw [if_neg (by omega)]
 split
 ·rename_i h; rw [h]
 ·rfl
theorem mv2_step (F : Nat → α × Nat) {m k : Nat} (h : k ≤ m) (h0 : 0 < k) : sw (mv2 F m k) k (k - 1) = mv2 F m (k - 1) := by
 funext x
 unfold sw mv2
 by_cases h1 : x = k - 1
 ·rw [if_pos h1,if_neg (by omega),if_pos rfl,if_neg (by omega),if_pos h1]
 ·rw [if_neg h1]
  by_cases h2 : x = k
  ·rw [if_pos h2,if_neg (by omega),if_neg (by omega),if_pos (by omega),h2]
  ·rw [if_neg h2]
   by_cases h3 : k < x ∧ x ≤ m
   ·rw [if_pos h3,if_pos (by omega)]
   ·rw [if_neg h3,if_neg h2,if_neg (by omega),if_neg h1]
theorem Mg.two (h : Swo lt) {F : Nat → α × Nat} {a m i : Nat} (hM : Mg lt F a m (m + 1)) (hi : a ≤ i ∧ i ≤ m) (h1 : ∀ c, a ≤ c → c < i → ¬ lt (F m).1 (F c).1) (h2 : ∀ c, i ≤ c → c < m → lt (F m).1 (F c).1) : Sd lt (mv2 F m i) a (m + 1) := by
 intro p q k1 k2 k3
 unfold mv2
 have hl : ∀ c,a ≤ c → c < i → tl lt (F c) (F m) := fun c c1 c2 => ⟨h1 c c1 c2,.inr (hM.t c m c1 (by omega) (Nat.le_refl _) (by omega))⟩
 have hr : ∀ c,i ≤ c → c < m → tl lt (F m) (F c) := fun c c1 c2 => ⟨h.asy (h2 c c1 c2),.inl (h2 c c1 c2)⟩
 by_cases q1 : i < q ∧ q ≤ m
 ·rw [if_pos q1]
  by_cases p1 : i < p ∧ p ≤ m
  ·rw [if_pos p1]; exact hM.l _ _ (by omega) (by omega) (by omega)
  ·rw [if_neg p1]
   by_cases p2 : p = i
   ·rw [if_pos p2]; exact hr _ (by omega) (by omega)
   ·rw [if_neg p2]; exact hM.l _ _ k1 (by omega) (by omega)
 ·rw [if_neg q1,if_neg (show ¬ (i < p ∧ p ≤ m) by omega)]
  rw [if_neg (show ¬ p = i by omega)]
  by_cases q2 : q = i
  ·rw [if_pos q2]; exact hl _ k1 (by omega)
  ·rw [if_neg q2]; exact hM.l _ _ k1 k2 (by omega)
theorem Mg.two_nlt (h : Swo lt) {F : Nat → α × Nat} {a m c c' : Nat} (hM : Mg lt F a m (m + 1)) (hc : a ≤ c') (hcc : c' ≤ c) (hb : c < m) (hl : ¬ lt (F m).1 (F c).1) : ¬ lt (F m).1 (F c').1 := by
 by_cases e : c' = c
 ·rw [e]; exact hl
 ·exact h.nt hl (hM.l c' c hc (by omega) hb).1
theorem Mg.two_lt (h : Swo lt) {F : Nat → α × Nat} {a m c c' : Nat} (hM : Mg lt F a m (m + 1)) (hc : a ≤ c) (hcc : c ≤ c') (hb : c' < m) (hl : lt (F m).1 (F c).1) : lt (F m).1 (F c').1 := by
 by_cases e : c' = c
 ·rw [e]; exact hl
 ·exact Classical.byContradiction fun hn => h.nt hn (hM.l c c' hc (by omega) hb).1 hl
theorem Mg.up (h : Swo lt) {F : Nat → α × Nat} {a m b c c' p : Nat} (hM : Mg lt F a m b) (hc : a ≤ c') (hcc : c' ≤ c) (hcm : c < m) (hp : m ≤ p - c) (hpb : p - c' < b) (hcp : c ≤ p) (hl : ¬ lt (F (p - c)).1 (F c).1) : ¬ lt (F (p - c')).1 (F c').1 := by
 by_cases e : c' = c
 ·rw [e]; exact hl
 ·exact h.nt (hM.r (p - c) (p - c') hp (by omega) hpb).1 (h.nt hl (hM.l c' c hc (by omega) hcm).1)
theorem Mg.dn (h : Swo lt) {F : Nat → α × Nat} {a m b c c' p : Nat} (hM : Mg lt F a m b) (hc : a ≤ c) (hcc : c ≤ c') (hcm : c' < m) (hp : m ≤ p - c') (hpb : p - c < b) (hcp : c' ≤ p) (hl : lt (F (p - c)).1 (F c).1) : lt (F (p - c')).1 (F c').1 := by
 by_cases e : c' = c
 ·rw [e]; exact hl
 ·exact Classical.byContradiction fun hn => h.nt (hM.r (p - c') (p - c) hp (by omega) hpb).1 (h.nt hn (hM.l c c' hc (by omega) hcm).1) hl
structure Half (lt : α → α → Prop) (G : Nat → α × Nat) (a s d e b : Nat) : Prop where
 x : Mg lt G a s d
 y : Mg lt G d e b
 c : ∀ i j,a ≤ i → i < d → d ≤ j → j < b → tl lt (G i) (G j)
theorem Half.done {G F2 F3 : Nat → α × Nat} {a s d e b : Nat} (h : Half lt G a s d e b) (h2 : Rg F2 G a d) (k2 : Sd lt F2 a d) (h3 : Rg F3 F2 d b) (k3 : Sd lt F3 d b) : Sd lt F3 a b := by
 intro p q q1 q2 q3
 by_cases hq : q < d
 ·rw [h3.out p (by omega),h3.out q (by omega)]
  exact k2 p q q1 q2 hq
 ·by_cases hp : d ≤ p
  ·exact k3 p q hp q2 q3
  ·rw [h3.out p (by omega)]
   obtain ⟨p',a1,a2,e1⟩ := h2.in' p q1 (by omega)
   obtain ⟨q',b1,b2,e2⟩ := h3.in' q (by omega) q3
   rw [e1,e2,h2.out q' (by omega)]
   exact h.c p' q' a1 a2 b1 b2
theorem Mg.half (h : Swo lt) {F : Nat → α × Nat} {a m b s d e : Nat} (hM : Mg lt F a m b) (hs : a ≤ s ∧ s ≤ m) (hd : s ≤ d) (he : e + s = d + m) (hmb : m ≤ e ∧ e ≤ b)
  (h1 : a < s → e < b → ¬ lt (F e).1 (F (s - 1)).1) (h2 : s < m → m < e → lt (F (e - 1)).1 (F s).1) : Half lt (rot F s m e) a s d e b := by
 have r0 : ∀ x,x < s ∨ e ≤ x → rot F s m e x = F x := fun x hx => by unfold rot; rw [if_neg (by omega),if_neg (by omega)]
 have r1 : ∀ x,s ≤ x → x < d → rot F s m e x = F (x - s + m) := fun x k1 k2 => by unfold rot; rw [if_pos (by omega)]
 have r2 : ∀ x, d ≤ x → x < e → rot F s m e x = F (x - d + s) := fun x k1 k2 => by
  unfold rot
  rw [if_neg (by omega),if_pos (by omega)]
  congr 1; omega
 have LL : ∀ i j,a ≤ i → i < s → s ≤ j → j < m → tl lt (F i) (F j) := fun i j k1 k2 k3 k4 => hM.l i j k1 (by omega) k4
 have RR : ∀ i j,m ≤ i → i < e → e ≤ j → j < b → tl lt (F i) (F j) := fun i j k1 k2 k3 k4 => hM.r i j k1 (by omega) k4
 have LR : ∀ i j, a ≤ i → i < s → e ≤ j → j < b → tl lt (F i) (F j) := fun i j k1 k2 k3 k4 => by
  have hb : tl lt (F (s - 1)) (F e) := ⟨h1 (by omega) (by omega),.inr (hM.t _ _ (by omega) (by omega) (by omega) (by omega))⟩
  have x1 : tl lt (F i) (F e) := by
   by_cases c : i = s - 1
   ·rw [c]; exact hb
   ·exact tl_trans h (hM.l i (s - 1) k1 (by omega) (by omega)) hb
  by_cases c : j = e
  ·rw [c]; exact x1
  ·exact tl_trans h x1 (hM.r e j (by omega) (by omega) k4)
 have RL : ∀ i j, m ≤ i → i < e → s ≤ j → j < m → tl lt (F i) (F j) := fun i j k1 k2 k3 k4 => by
  have hl := h2 (by omega) (by omega)
  have hb : tl lt (F (e - 1)) (F s) := ⟨h.asy hl,.inl hl⟩
  have x1 : tl lt (F i) (F s) := by
   by_cases c : i = e - 1
   ·rw [c]; exact hb
   ·exact tl_trans h (hM.r i (e - 1) k1 (by omega) (by omega)) hb
  by_cases c : j = s
  ·rw [c]; exact x1
  ·exact tl_trans h x1 (hM.l s j (by omega) (by omega) k4)
 refine ⟨⟨fun i j k1 k2 k3 => ?_, fun i j k1 k2 k3 => ?_, fun i j k1 k2 k3 k4 => ?_⟩, ⟨fun i j k1 k2 k3 => ?_, fun i j k1 k2 k3 => ?_, fun i j k1 k2 k3 k4 => ?_⟩, fun i j k1 k2 k3 k4 => ?_⟩
 ·rw [r0 i (by omega),r0 j (by omega)]; exact hM.l i j k1 k2 (by omega)
 ·rw [r1 i k1 (by omega),r1 j (by omega) k3]; exact hM.r _ _ (by omega) (by omega) (by omega)
 ·rw [r0 i (by omega),r1 j k3 k4]; exact hM.t _ _ k1 (by omega) (by omega) (by omega)
 ·rw [r2 i k1 (by omega),r2 j (by omega) k3]; exact hM.l _ _ (by omega) (by omega) (by omega)
 ·rw [r0 i (by omega),r0 j (by omega)]; exact hM.r i j (by omega) k2 k3
 ·rw [r2 i k1 (by omega),r0 j (by omega)]; exact hM.t _ _ (by omega) (by omega) (by omega) k4
 ·by_cases c1 : i < s
  ·rw [r0 i (by omega)]
   by_cases c2 : j < e
   ·rw [r2 j k3 c2]; exact LL _ _ k1 c1 (by omega) (by omega)
   ·rw [r0 j (by omega)]; exact LR _ _ k1 c1 (by omega) k4
  ·rw [r1 i (by omega) k2]
   by_cases c2 : j < e
   ·rw [r2 j k3 c2]; exact RL _ _ (by omega) (by omega) (by omega) (by omega)
   ·rw [r0 j (by omega)]; exact RR _ _ (by omega) (by omega) (by omega) k4
end Go.Proofs.St
namespace Go.Proofs
open Pk St
set_option maxRecDepth 10000
theorem swo_wy : Swo wyLt := ⟨fun {x y} h => by unfold wyLt at *; omega,fun {x y z} h1 h2 => by unfold wyLt at *; omega⟩
theorem fEnds : flatA Tryz.prog 134 = some [.bool,.bool] := by kernel_rfl
theorem eqEnds (a b c d : Bool) (w : World) : (binOp .eql 134 (.agg #[.bool a, .bool b]) (.agg #[.bool c, .bool d])).run Tryz.prog w = .ok (.bool ((a == c) && (b == d))) w := by
 have := run_eql_flat w fEnds #[Value.bool a,Value.bool b] #[Value.bool c,Value.bool d] rfl rfl
 cases a <;> cases b <;> cases c <;> cases d <;> exact this
def cmpK (x y : Wy) : Int := if wyLt x y then -1 else if wyLt y x then 1 else 0
theorem cmpK_lt (x y : Wy) : decide (cmpK x y < 0) = decide (wyLt x y) := by
 unfold cmpK
 by_cases h : wyLt x y
 ·simp [h]
 ·by_cases h2 : wyLt y x <;> simp [h,h2]
theorem sorted1_c (x y : Wy) (w : World) : FN Tryz.prog 62 [wyV x, wyV y] w fun e w' => e = .returned (i64 (cmpK x y)) ∧ Ext w w' := by
 refine FN_enter Tryz.func62 rfl rfl (by kernel_rfl) ?_
 have hE : Ext w ((w.alloc (.cells #[u64 x.a,i64 x.h,u32 x.n,u32 x.f.fr,u32 x.f.to',u64 x.f.sf,u64 x.f.su,u64 x.f.rate] 66)).alloc (.cells #[u64 y.a,i64 y.h,u32 y.n,u32 y.f.fr,u32 y.f.to',u64 y.f.sf,u64 y.f.su,u64 y.f.rate] 66)) := ((Ext.refl w).alloc _).alloc _
 have b0 : Blk ((w.alloc (.cells #[u64 x.a,i64 x.h,u32 x.n,u32 x.f.fr,u32 x.f.to',u64 x.f.sf,u64 x.f.su,u64 x.f.rate] 66)).alloc (.cells #[u64 y.a,i64 y.h,u32 y.n,u32 y.f.fr,u32 y.f.to',u64 y.f.sf,u64 y.f.su,u64 y.f.rate] 66)) w.heap.size (wyC x) := (Blk.new w (wyC x) 66).ext ((Ext.refl _).alloc _)
 have b1 : Blk ((w.alloc (.cells #[u64 x.a, i64 x.h, u32 x.n, u32 x.f.fr, u32 x.f.to', u64 x.f.sf, u64 x.f.su, u64 x.f.rate] 66)).alloc (.cells #[u64 y.a, i64 y.h, u32 y.n, u32 y.f.fr, u32 y.f.to', u64 y.f.sf, u64 y.f.su, u64 y.f.rate] 66)) (w.heap.size + 1) (wyC y) := by
  have := Blk.new (w.alloc (.cells #[u64 x.a,i64 x.h,u32 x.n,u32 x.f.fr,u32 x.f.to',u64 x.f.sf,u64 x.f.su,u64 x.f.rate] 66)) (wyC y) 66
  simpa using this
 simp
 generalize ((w.alloc (.cells #[u64 x.a,i64 x.h,u32 x.n,u32 x.f.fr,u32 x.f.to',u64 x.f.sf,u64 x.f.su,u64 x.f.rate] 66)).alloc (.cells #[u64 y.a,i64 y.h,u32 y.n,u32 y.f.fr,u32 y.f.to',u64 y.f.sf,u64 y.f.su,u64 y.f.rate] 66)) = w1 at *
 refine WC_drawL 8 (.F 0 <| .F 1 <| .F 3 <| .F 4 <| .D 7 <| .L 2 <| .L 5 <| .F 6 <| .W 7 <| .Z) (fun _ => false) (fun _ => false) (fun _ u W => ∃ j, u = ptr j ∧ w1.heap.size ≤ j ∧ Blk W j [.bool false, .bool false]) rfl (by kernel_rfl) (fun _ h => h)
  (fun _ _ _ _ ⟨j,h1,h2,h3⟩ hA => ⟨j,h1,h2,h3.ext (agr_ext hA)⟩) fun W hW => ?_
 have hEW : Ext w1 W := hW ▸ Ext.drew w1
 have hXW := hE.trans hEW
 simp [(b0.ext hEW).cell 0 _ rfl,(b0.ext hEW).cell 1 _ rfl,(b0.ext hEW).cell 2 _ rfl,(b0.ext hEW).cell 3 _ rfl,(b0.ext hEW).cell 4 _ rfl,(b0.ext hEW).cell 5 _ rfl,(b0.ext hEW).cell 6 _ rfl,(b0.ext hEW).cell 7 _ rfl,(b1.ext hEW).cell 0 _ rfl,(b1.ext hEW).cell 1 _ rfl,(b1.ext hEW).cell 2 _ rfl,(b1.ext hEW).cell 3 _ rfl,(b1.ext hEW).cell 4 _ rfl,(b1.ext hEW).cell 5 _ rfl,(b1.ext hEW).cell 6 _ rfl,(b1.ext hEW).cell 7 _ rfl]
 refine RL_float (fun W' h' => ?_) ?_
 ·simp
  have hs := (hEW.trans (agr_ext h')).size
  exact ⟨(Ext.refl _).alloc _,hs,Blk.new W' [.bool false,.bool false] 134⟩
 simp
 refine RL_loose fun W3 h3 => ?_
 simp
 refine FN.mono (better_c x y W3) ?_
 rintro _ W4 ⟨rfl,hE4⟩
 simp
 refine KR_ext hE4 ?_
 simp
 refine RL_loose fun W5 h5 => ?_
 simp
 refine FN.mono (better_c y x W5) ?_
 rintro _ W6 ⟨rfl,hE6⟩
 simp
 refine KR_ext hE6 ?_
 simp
 refine RL_wait fun v6 W7 h7 ⟨j,hj,hjs,hjb⟩ => ?_
 subst hj
 have hX7 := hXW.trans ((h3.trans hE4).trans ((h5.trans hE6).trans h7))
 have hM := ((Mod.refl (fun k => k = j) W7).setC 0 (.bool (decide (wyLt x y)))).setC 1 (.bool (decide (wyLt y x)))
 have kj := (hjb.set 0 (.bool (decide (wyLt x y)))).set 1 (.bool (decide (wyLt y x)))
 have z1 := hE.size
 have hX8 : Ext w ((W7.setCell ⟨j,0,none⟩ (.bool (decide (wyLt x y)))).setCell ⟨j,1,none⟩ (.bool (decide (wyLt y x)))) := ((hX7.mod (S := fun k => w.heap.size ≤ k)).trans (hM.weaken fun k hk => by omega)).ext fun _ h => h
 have e1 := fun W => eqEnds (decide (wyLt x y)) (decide (wyLt y x)) true false W
 have e2 := fun W => eqEnds (decide (wyLt x y)) (decide (wyLt y x)) false true W
 by_cases h1 : wyLt x y
 ·have h2 : ¬ wyLt y x := swo_wy.asy h1
  have hk : cmpK x y = -1 := by unfold cmpK; rw [if_pos h1]
  simp [h1,h2] at e1 e2 kj hX8
  simp [h1,h2,hjb.cell 0 _ rfl,hjb.cell 1 _ rfl,hjb.thaw,cell_setCell,e1,hk]
  exact hX8
 ·by_cases h2 : wyLt y x
  ·have hk : cmpK x y = 1 := by unfold cmpK; rw [if_neg h1,if_pos h2]
   simp [h1,h2] at e1 e2 kj hX8
   simp [h1,h2,hjb.cell 0 _ rfl,hjb.cell 1 _ rfl,hjb.thaw,cell_setCell,e1,e2,hk]
   exact hX8
  ·have hk : cmpK x y = 0 := by unfold cmpK; rw [if_neg h1,if_neg h2]
   simp [h1,h2] at e1 e2 kj hX8
   simp [h1,h2,hjb.cell 0 _ rfl,hjb.cell 1 _ rfl,hjb.thaw,cell_setCell,e1,e2,hk]
   exact hX8
def lst (F : Nat → Wy × Nat) (n : Nat) : List Wy := (List.range n).map fun i => (F i).1
theorem lst_len (F : Nat → Wy × Nat) (n : Nat) : (lst F n).length = n := by simp [lst]
theorem lst_get (F : Nat → Wy × Nat) {n i : Nat} (h : i < (lst F n).length) : (lst F n)[i] = (F i).1 := by simp [lst]
def RF (w : World) (base : Nat) (v : Value) (n : Nat) (F : Nat → Wy × Nat) : Prop := w.ownsRow base 66 8 v n ((lst F n).flatMap wyC)
section
variable {w w' : World} {base n : Nat} {v : Value} {F : Nat → Wy × Nat}
theorem RF.ext (h : RF w base v n F) (hE : Ext w w') : RF w' base v n F := own_ext h hE
theorem RF.sl (h : RF w base v n F) : Sl w 8 v (lst F n).length ((lst F n).flatMap wyC) := by rw [lst_len]; exact sl_of_own h
theorem RF.row (h : RF w base v n F) {i : Nat} (hi : i < n) : C8 w (slB v) (slO v + i * 8) (F i).1 := by
 have := wyRow h.sl (i := i) (by rw [lst_len]; exact hi)
 rwa [lst_get] at this
theorem RF.ix (h : RF w base v n F) {i : Nat} {k : Int} (hk : k = (i : Int)) (hi : i < n) (W : World) : (Instr.indexAt 48 v (.int .i64 k)).run Tryz.prog W = .ok (.pointer (some ⟨slB v, slO v + i * 8, none⟩)) W := by
 rw [hk]
 exact wyIndex h.sl i (by rw [lst_len]; exact hi) W
theorem RF.thaw (h : RF w base v n F) (hn : 0 < n) (k : Nat) : w.frozen? ⟨slB v,k,none⟩ = false := own_thaw h hn k
theorem RF.put (h : RF w base v n F) {i : Nat} (hi : i < n) (x : Wy × Nat) : RF (putC w (slB v) (slO v + i * 8) (wyC x.1)) base v n (up F i x) := by
 have h' : w.ownsRow base 66 8 v (lst F n).length ((lst F n).flatMap wyC) := by rw [lst_len]; exact h
 have := Pk.own_put wyC (fun _ => rfl) h' i (by rw [lst_len]; exact hi) x.1
 have e : (lst F n).set i x.1 = lst (up F i x) n := by
  unfold lst
  rw [← map_up (fun i => (F i).1) i x.1]
  refine List.map_congr_left fun y _ => ?_
  unfold up
  split <;> rfl
 rw [e,lst_len] at this
 exact this
theorem RF.len (h : RF w base v n F) : ∃ a c,v = .slice a n c := own_val h
end
def SwI (base : Nat) (v : Value) (N : Nat) (F : Nat → Wy × Nat) (a b n : Nat) (w : World) (k : Nat) (ρ : Env) (ds : List Deferred) (W : World) : Prop :=
 ∃ i : Nat,(k = n - i ∧ i ≤ n) ∧ (ρ 0 = v ∧ ρ 1 = i64 a ∧ ρ 2 = i64 b ∧ ρ 3 = i64 n ∧ ρ 10 = i64 i) ∧ ds = [] ∧ RF W base v N (swr F a b i) ∧ Mod (fun k => k = slB v) w W
set_option maxHeartbeats 2000000 in
theorem swapr_c {w : World} {base N a b n : Nat} {v : Value} {F : Nat → Wy × Nat} (h : RF w base v N F) (hab : a + n ≤ b) (hb : b + n ≤ N) (hN : N ≤ 1000) : FN Tryz.prog 169 [v, i64 a, i64 b, i64 n, (Value.func (.func 62) #[] #[])] w fun e w' => (∃ u, e = .returned u) ∧ RF w' base v N (swr F a b n) ∧ Mod (fun k => k = slB v) w w' := by
 refine FN_enter Tryz.func169 rfl rfl (by kernel_rfl) ?_
 simp
 refine WC_loop (SwI base v N F a b n w) n ⟨0,⟨by simp,by simp⟩,by simp,rfl,by rw [swr_0]; exact h,Mod.refl _ _⟩ ?_
 rintro k ρ ds W0 ⟨i,⟨rfl,hi⟩,⟨e0,e1,e2,e3,e10⟩,rfl,hR,hM⟩
 by_cases hlt : i < n
 ·have hlt' : (i : Int) < (n : Int) := by omega
  simp [e3,e10,hlt]
  refine WC_drawL 22 (.F 0 <| .F 1 <| .F 2 <| .F 3 <| .F 4 <| .F 5 <| .F 6 <| .F 7 <| .F 8 <| .F 9 <| .F 10 <| .F 11 <| .F 12 <| .F 13 <| .F 14 <| .F 15 <| .F 16 <| .F 17 <| .F 18 <| .F 19 <| .F 20 <| .S 21 <| .Z) (fun _ => false) (fun _ => false) (fun _ _ _ => False) rfl (by kernel_rfl) (fun _ h => h) (fun _ _ _ _ h1 h2 => h1) fun W hW => ?_
  have hEW : Ext W0 W := hW ▸ Ext.drew W0
  have wa : IntKind.i64.wrap ((a : Int) + (i : Int)) = (a : Int) + (i : Int) := wrap64 _ (by omega) (by omega)
  have wb : IntKind.i64.wrap ((b : Int) + (i : Int)) = (b : Int) + (i : Int) := wrap64 _ (by omega) (by omega)
  have nw : IntKind.i64.wrap ((i : Int) + 1) = (i : Int) + 1 := wrap64 _ (by omega) (by omega)
  have hRW := hR.ext hEW
  have ri := hRW.row (i := (a + i)) (by omega)
  have rj := hRW.row (i := (b + i)) (by omega)
  have xi := fun W => hRW.ix (i := (a + i)) (k := ((a : Int) + (i : Int))) (by omega) (by omega) W
  have xj := fun W => hRW.ix (i := (b + i)) (k := ((b : Int) + (i : Int))) (by omega) (by omega) W
  have th := fun k => hRW.thaw (by omega) k
  simp [e0,e1,e2,e10,wa,wb,xi,xj,ri.c0,ri.c1,ri.c2,ri.c3,ri.c4,ri.c5,ri.c6,ri.c7,rj.c0,rj.c1,rj.c2,rj.c3,rj.c4,rj.c5,rj.c6,rj.c7,th,cell_setCell]
  refine KR_mk (agr_any ((((((((((Mod.refl (fun _ => True) _).any _ _).any _ _).any _ _).any _ _).any _ _).any _ _).any _ _).any _ _)) ) ?_
  have hput := hRW.put (i := (a + i)) (by omega) ((swr F a b i) (b + i))
  have hMp : Mod (fun k => k = slB v) W (putC W (slB v) (slO v + (a + i) * 8) (wyC ((swr F a b i) (b + i)).1)) := putC_mod _ _ (Mod.refl _ _)
  generalize hW' : World.setCell _ ⟨slB v,slO v + (a + i) * 8 + 7,none⟩ _ = W'
  have e' : putC W (slB v) (slO v + (a + i) * 8) (wyC ((swr F a b i) (b + i)).1) = W' := hW'
  rw [e'] at hput hMp
  have rj' := hput.row (i := (b + i)) (by omega)
  have th' := fun k => hput.thaw (by omega) k
  simp [e0,e1,e2,e10,xj,rj'.c0,rj'.c1,rj'.c2,rj'.c3,rj'.c4,rj'.c5,rj'.c6,rj'.c7,th',cell_setCell]
  have hR3 := hput.put (i := (b + i)) (by omega) ((swr F a b i) (a + i))
  have hMp2 : Mod (fun k => k = slB v) W' (putC W' (slB v) (slO v + (b + i) * 8) (wyC ((swr F a b i) (a + i)).1)) := putC_mod _ _ (Mod.refl _ _)
  have hM3 := (hEW.mod.trans hMp).trans hMp2
  rw [← sw_up] at hR3
  generalize hW3 : World.setCell _ ⟨slB v,slO v + (b + i) * 8 + 7,none⟩ _ = W3
  have e3' : putC W' (slB v) (slO v + (b + i) * 8) (wyC ((swr F a b i) (a + i)).1) = W3 := hW3
  rw [e3'] at hR3 hM3
  rw [swr_step F (by omega)] at hR3
  simp [nw]
  exact ⟨n - (i + 1),by omega,i + 1,⟨rfl,by omega⟩,by simp [e0,e1,e2,e3],rfl,hR3,hM.trans hM3⟩
 ·have : i = n := by omega
  subst this
  simp [e3,e10]
  exact ⟨hR,hM⟩
end Go.Proofs