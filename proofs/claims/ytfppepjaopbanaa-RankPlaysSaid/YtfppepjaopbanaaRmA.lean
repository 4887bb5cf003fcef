/-
  Contracts of the functions that the law reaches, step by step.
-/
import Derived.Test.YtfppepjaopbanaaRkZ
namespace Go.Proofs
open Pk
set_option maxRecDepth 10000
/-! ### The neighbours, rising, and their sums -/
def insN : List (Int × Int) → Int → Int → List (Int × Int)
  | [], n, z => [(n, z)]
  | p :: t, n, z => if p.1 < n then p :: insN t n z else if p.1 = n then (n, p.2 + z) :: t else (n, z) :: p :: t
def risN (L : List (Int × Int)) : Prop := L.Pairwise fun p q => p.1 < q.1
def rn (s : List Wt) : List (Int × Int) := s.foldl (fun L y => insN L y.2.1 y.2.2.2) []
theorem rn_snoc (s : List Wt) (y : Wt) : rn (s ++ [y]) = insN (rn s) y.2.1 y.2.2.2 := by unfold rn; rw [List.foldl_append]; rfl
theorem insN_mem {L : List (Int × Int)} {n z : Int} {p : Int × Int} (h : p ∈ insN L n z) : p.1 = n ∨ p ∈ L := by
  induction L with
  | nil => simp [insN] at h; exact .inl (by rw [h])
  | cons q t ih =>
    unfold insN at h
    split at h
    · rcases List.mem_cons.1 h with rfl | h
      · exact .inr (by simp)
      · rcases ih h with h | h
        · exact .inl h
        · exact .inr (by simp [h])
    · split at h
      · rcases List.mem_cons.1 h with rfl | h
        · exact .inl rfl
        · exact .inr (by simp [h])
      · rcases List.mem_cons.1 h with rfl | h
        · exact .inl rfl
        · exact .inr h
theorem insN_ris {L : List (Int × Int)} (h : risN L) (n z : Int) : risN (insN L n z) := by
  induction L with
  | nil => exact List.pairwise_singleton _ _
  | cons p t ih =>
    obtain ⟨h1, h2⟩ := List.pairwise_cons.1 h
    unfold insN
    split
    · rename_i hlt
      refine List.pairwise_cons.2 ⟨fun q hq => ?_, ih h2⟩
      rcases insN_mem hq with e | e
      · omega
      · exact h1 q e
    · split
      · rename_i heq
        exact List.pairwise_cons.2 ⟨fun q hq => by have := h1 q hq; simp only; omega, h2⟩
      · rename_i hlt heq
        refine List.pairwise_cons.2 ⟨fun q hq => ?_, h⟩
        rcases List.mem_cons.1 hq with rfl | hq
        · simp only; omega
        · have := h1 q hq; simp only; omega
theorem mget_low {L : List (Int × Int)} {n : Int} (h : ∀ p ∈ L, n < p.1) : mget L n = none := by
  cases hg : mget L n with
  | none => rfl
  | some z => have := h _ (kget_mem hg); simp only at this; omega
theorem mget_cons' (p : Int × Int) (t : List (Int × Int)) (m : Int) : mget (p :: t) m = if p.1 = m then some p.2 else mget t m := by
  unfold mget
  rw [List.find?_cons]
  by_cases h : p.1 = m <;> simp [h]
theorem insN_mget {L : List (Int × Int)} (h : risN L) (n z m : Int) : mget (insN L n z) m = if m = n then some ((mget L n).getD 0 + z) else mget L m := by
  induction L with
  | nil =>
    unfold insN
    rw [mget_cons']
    by_cases e : m = n
    · subst e; simp [kget_nil]
    · have e' : ¬ n = m := fun x => e x.symm
      simp [e, e', kget_nil]
  | cons p t ih =>
    obtain ⟨h1, h2⟩ := List.pairwise_cons.1 h
    unfold insN
    split
    · rename_i hlt
      rw [mget_cons', mget_cons', mget_cons', ih h2]
      by_cases e : m = n
      · subst e
        have : ¬ p.1 = m := by omega
        simp [this]
      · have hn : ¬ p.1 = n := by omega
        simp [e]
    · split
      · rename_i hlt heq
        rw [mget_cons', mget_cons', mget_cons']
        by_cases e : m = n
        · subst e; simp [heq]
        · have e' : ¬ n = m := fun x => e x.symm
          have e2 : ¬ p.1 = m := fun x => e (x.symm.trans heq)
          simp [e, e', e2]
      · rename_i hlt heq
        have hlow : mget (p :: t) n = none := mget_low fun q hq => by
          rcases List.mem_cons.1 hq with rfl | hq
          · omega
          · have := h1 q hq; omega
        rw [mget_cons', hlow]
        by_cases e : m = n
        · subst e; simp
        · have e' : ¬ n = m := fun x => e x.symm
          simp [e, e']
theorem sumS_snoc (s : List Wt) (y : Wt) (nd : Int) : sumS (s ++ [y]) nd = if nd = y.2.1 then some ((sumS s nd).getD 0 + y.2.2.2) else sumS s nd := by
  have h1 : sumBy (szN nd) [y] = szN nd y := by simp [sumBy]
  unfold sumS
  rw [List.any_append, sumBy_app, h1]
  generalize hb : sumBy (szN nd) s = b
  by_cases e : nd = y.2.1
  · have h2 : szN nd y = y.2.2.2 := by simp [szN, e]
    rw [h2]
    cases hc : s.any (fun z => decide (z.2.1 = nd)) with
    | true => simp [e]
    | false =>
      have h0 : b = 0 := by
        rw [← hb]
        exact szN_no fun z hz => by
          have := List.any_eq_false.1 hc z hz
          simpa using this
      simp [h0, e]
  · have e' : ¬ y.2.1 = nd := fun x => e x.symm
    have h2 : szN nd y = 0 := by simp [szN, e']
    rw [h2]
    cases hc : s.any (fun z => decide (z.2.1 = nd)) <;> simp [e, e']
theorem rn_all (s : List Wt) : risN (rn s) ∧ ∀ nd, mget (rn s) nd = sumS s nd := by
  have key : ∀ (n : Nat) (s : List Wt), s.length = n → risN (rn s) ∧ ∀ nd, mget (rn s) nd = sumS s nd := by
    intro n
    induction n with
    | zero =>
      intro s hs
      have : s = [] := List.eq_nil_of_length_eq_zero hs
      subst this
      exact ⟨List.Pairwise.nil, fun nd => by simp [rn, sumS, kget_nil]⟩
    | succ n ih =>
      intro s hs
      have hne : s ≠ [] := fun e => by rw [e] at hs; simp at hs
      have hc := (List.dropLast_concat_getLast hne).symm
      obtain ⟨h1, h2⟩ := ih s.dropLast (by simp [hs])
      rw [hc, rn_snoc]
      refine ⟨insN_ris h1 _ _, fun nd => ?_⟩
      rw [insN_mget h1, sumS_snoc, h2, h2]
      by_cases e : nd = (s.getLast hne).2.1
      · rw [if_pos e, if_pos e, ← e]
      · rw [if_neg e, if_neg e]
  exact key _ s rfl
theorem rn_keys {w : World} {r : Nat} {m : List (Int × Int)} {s : List Wt} (h : SM w r m) (hm : ∀ nd, mget m nd = sumS s nd) : kNisKeys m ((rn s).map (·.1)) := by
  obtain ⟨h1, h2⟩ := rn_all s
  have hnd : ((rn s).map (·.1)).Nodup := by
    rw [List.Nodup, List.pairwise_map]
    exact h1.imp fun h e => by omega
  refine ⟨?_, ?_⟩
  · refine (List.perm_ext_iff_of_nodup hnd h.nodup).2 fun a => ?_
    have e : mget (rn s) a = mget m a := by rw [h2, hm]
    constructor
    · intro ha
      obtain ⟨p, hp, rfl⟩ := List.mem_map.1 ha
      have := (kget_iff hnd).2 (show (p.1, p.2) ∈ rn s from hp)
      rw [e] at this
      exact List.mem_map.2 ⟨_, kget_mem this, rfl⟩
    · intro ha
      obtain ⟨p, hp, rfl⟩ := List.mem_map.1 ha
      have := (kget_iff h.nodup).2 (show (p.1, p.2) ∈ m from hp)
      rw [← e] at this
      exact List.mem_map.2 ⟨_, kget_mem this, rfl⟩
  · rw [List.pairwise_map]
    exact h1.imp fun h => by omega
end Go.Proofs
namespace Go.Proofs
open Pk
set_option maxRecDepth 10000
theorem insN_eq : ∀ (L : List (Int × Int)) (n z : Int) (k : Nat) (hk : k < L.length), (∀ j (hj : j < k), (L[j]'(Nat.lt_trans hj hk)).1 < n) → L[k].1 = n → insN L n z = L.set k (n, L[k].2 + z)
  | [], _, _, k, hk, _, _ => by simp at hk
  | p :: t, n, z, 0, _, _, h => by
    have h' : p.1 = n := h
    have : ¬ p.1 < n := by omega
    unfold insN
    rw [if_neg this, if_pos h']
    rfl
  | p :: t, n, z, k + 1, hk, hl, h => by
    have h0 : p.1 < n := hl 0 (by omega)
    unfold insN
    rw [if_pos h0, insN_eq t n z k (by simpa using hk) (fun j hj => by simpa using hl (j + 1) (by omega)) (by simpa using h)]
    simp
theorem insN_new : ∀ (L : List (Int × Int)) (n z : Int) (k : Nat) (hk : k ≤ L.length), (∀ j (hj : j < k), (L[j]'(Nat.lt_of_lt_of_le hj hk)).1 < n) → (∀ h : k < L.length, n < L[k].1) → insN L n z = L.take k ++ (n, z) :: L.drop k
  | [], n, z, k, hk, _, _ => by
    have : k = 0 := by simpa using hk
    subst this; rfl
  | p :: t, n, z, 0, _, _, h => by
    have h' : n < p.1 := h (by simp)
    have h1 : ¬ p.1 < n := by omega
    have h2 : ¬ p.1 = n := by omega
    unfold insN
    rw [if_neg h1, if_neg h2]
    rfl
  | p :: t, n, z, k + 1, hk, hl, h => by
    have h0 : p.1 < n := hl 0 (by omega)
    unfold insN
    rw [if_pos h0, insN_new t n z k (by simpa using hk) (fun j hj => by simpa using hl (j + 1) (by omega)) (fun hh => by have := h (by simp; omega); simpa using this)]
    simp
theorem rn_len (s : List Wt) : (rn s).length ≤ s.length := by
  have key : ∀ (L : List (Int × Int)) (n z : Int), (insN L n z).length ≤ L.length + 1 := by
    intro L n z
    induction L with
    | nil => simp [insN]
    | cons p t ih =>
      unfold insN
      split
      · simp only [List.length_cons]; omega
      · split <;> simp
  have : ∀ (n : Nat) (s : List Wt), s.length = n → (rn s).length ≤ n := by
    intro n
    induction n with
    | zero => intro s hs; rw [List.eq_nil_of_length_eq_zero hs]; simp [rn]
    | succ n ih =>
      intro s hs
      have hne : s ≠ [] := fun e => by rw [e] at hs; simp at hs
      rw [(List.dropLast_concat_getLast hne).symm, rn_snoc]
      have h1 := ih s.dropLast (by simp [hs])
      have h2 := key (rn s.dropLast) (s.getLast hne).2.1 (s.getLast hne).2.2.2
      omega
  exact this _ s rfl
theorem own_set {w : World} {base e n j : Nat} {v : Value} {xs : List Value} (h : w.ownsRow base e 1 v n xs) (hj : j < n) (u : Value) : (w.setCell ⟨slB v, j, none⟩ u).ownsRow base e 1 v n (xs.set j u) := by
  obtain ⟨h1, h2⟩ := h
  refine ⟨by simpa using h1, ?_⟩
  rcases h2 with ⟨rfl, rfl⟩ | ⟨g, cap, cur, rfl, hb, hg, hc, hm, hs, ht⟩
  · omega
  · refine .inr ⟨g, cap, cur.set! j u, rfl, hb, ?_, hc, hm, by simpa using hs, ?_⟩
    · simpa [slB] using heap_setCell_same w g j cur e u hg
    · rw [← ht]
      simp [Array.set!, List.take_set]
theorem szN_bound {l : List Wt} (h : sized l) (nd : Int) : 0 ≤ sumBy (szN nd) l ∧ sumBy (szN nd) l ≤ 65536 * l.length := by
  induction l with
  | nil => simp [sumBy]
  | cons x l ih =>
    have h1 := h x (by simp)
    have h2 := ih fun y hy => h y (by simp [hy])
    rw [sumBy_cons, List.length_cons]
    unfold szN at *
    split <;> omega
theorem rn_val {s : List Wt} (h : sized s) {j : Nat} (hj : j < (rn s).length) : 0 ≤ (rn s)[j].2 ∧ (rn s)[j].2 ≤ 65536 * s.length := by
  obtain ⟨h1, h2⟩ := rn_all s
  have hnd : ((rn s).map (·.1)).Nodup := by
    rw [List.Nodup, List.pairwise_map]
    exact h1.imp fun h e => by omega
  have hg := (kget_iff hnd).2 (show ((rn s)[j].1, (rn s)[j].2) ∈ rn s from List.getElem_mem hj)
  rw [h2] at hg
  unfold sumS at hg
  split at hg
  · have := szN_bound h (rn s)[j].1
    have e := Option.some.inj hg
    omega
  · cases hg
/-- Ahead of a row's head: what is appended to an empty row of no room. -/
theorem append_new' {w : World} {base b n : Nat} {t e : TypeId} {ys : List Value} {v2 : Value} (hs : isS (Try.prog.underlying t) = true) (he : elemT (Try.prog.underlying t) = e) (hi : elOk (Try.prog.info? e) 1 = true)
    (hown : w.ownsRow base e 1 (.slice (some ⟨b, 0, none⟩) 0 0) 0 []) (h2 : Sl w 1 v2 n ys) (h1 : ∀ u ∈ ys, u.oneCell' = true) (hb : n ≤ 1000000) (hbase : base ≤ w.heap.size) :
    ∃ v' w', (Builtin.append_ #[t, t] t #[.slice (some ⟨b, 0, none⟩) 0 0, v2]).run Try.prog w = .ok v' w' ∧ w'.ownsRow base e 1 v' n ys ∧ Ext w w' := by
  obtain ⟨v', w', hr, ho, -, -⟩ := append_own (P := Try.prog) (t := t) (ty := t) (e := e) (s := 1) hs he hi hown h2 h1 (by omega) hbase
  obtain ⟨v2', w2', hr2, -, hE, -⟩ := append_full (P := Try.prog) (t := t) (ty := t) (e := e) (s := 1) hs he hi (sl_of_own hown) rfl h2 h1 (by omega)
  rw [hr] at hr2
  cases hr2
  exact ⟨v', w', hr, by simpa using ho, hE⟩
theorem own_empty' (W : World) (base : Nat) (e : TypeId) (h : base ≤ W.heap.size) : (W.alloc (.cells #[] e)).ownsRow base e 1 (.slice (some ⟨W.heap.size, 0, none⟩) 0 0) 0 [] :=
  ⟨rfl, .inr ⟨W.heap.size, 0, #[], rfl, h, World.alloc_heap_new W _, Nat.le_refl _, by decide, rfl, rfl⟩⟩
end Go.Proofs
namespace Go.Proofs
open Pk
set_option maxRecDepth 10000
abbrev UOwn (w : World) (base : Nat) (v : Value) (L : List (Int × Int)) := w.ownsRow base 23 1 v L.length (L.map fun p => u32 p.1)
abbrev IOwn (w : World) (base : Nat) (v : Value) (L : List (Int × Int)) := w.ownsRow base 3 1 v L.length (L.map fun p => i64 p.2)
set_option maxHeartbeats 2000000 in
theorem rnodes_c {w : World} {v : Value} {s : List Wt} (h : WSl w v s) (most : Int) (hb : s.length ≤ 255) (hsz : sized s) :
    FN Try.prog 47 [rlV v most] w fun e w' => ∃ a b, e = .returned (.tuple #[a, b]) ∧ UOwn w' w.heap.size a (rn s) ∧ IOwn w' w.heap.size b (rn s) ∧ Ext w w' := by
  refine FN_enter Try.func47 rfl rfl (by kernel_rfl) ?_
  simp
  have hE1 : Ext w (w.alloc (.cells #[v, i64 most] 46)) := (Ext.refl w).alloc _
  have hbx : RAt (w.alloc (.cells #[v, i64 most] 46)) w.heap.size v most := RAt.new w v most
  generalize (w.alloc (.cells #[v, i64 most] 46)) = w1 at *
  have hlen := fun ty W => h.isLen (P := Try.prog) (t := 22) (by simp) ty W
  refine WC_loop (fun k ρ ds w' => ∃ (i : Nat) (a b : Value), k = s.length - i ∧ i ≤ s.length ∧ ρ 1 = ptr w.heap.size ∧ ρ 4 = a ∧ ρ 5 = b ∧ ρ 6 = i64 i ∧ ds = [] ∧ Ext w1 w' ∧ UOwn w' w1.heap.size a (rn (s.take i)) ∧ IOwn w' w1.heap.size b (rn (s.take i)) ∧ (slN a = false → slN b = false → slB a ≠ slB b)) s.length
    ⟨0, .slice none 0 0, .slice none 0 0, by simp, by simp, by simp, by simp, by simp, by simp, rfl, Ext.refl _, World.ownsRow_nil _ _ _ _, World.ownsRow_nil _ _ _ _, fun h => by cases h⟩ ?_
  rintro k ρ ds w2 ⟨i, a, b, rfl, hi, e1, e4, e5, e6, rfl, hE, ha, hb', hne⟩
  have bx2 := hbx.ext hE
  by_cases hlt : i < s.length
  · have hq := List.getElem?_eq_getElem hlt
    have htk : s.take (i + 1) = s.take i ++ [s[i]] := by rw [List.take_add_one, hq]; rfl
    have hrn := rn_snoc (s.take i) s[i]
    rw [← htk] at hrn
    obtain ⟨y, hy⟩ : ∃ y, y = s[i] := ⟨_, rfl⟩
    rw [← hy] at hq hrn
    generalize hL : rn (s.take i) = L at *
    simp [e1, e6, bx2.c0, hlen, hlt]
    have hLs : L.length ≤ 255 := by
      have := rn_len (s.take i)
      rw [hL, List.length_take] at this
      omega
    refine WC_loop (fun k ρ ds w' => ∃ j : Nat, k = L.length - j ∧ ρ 1 = ptr w.heap.size ∧ ρ 4 = a ∧ ρ 5 = b ∧ ρ 6 = i64 i ∧ ρ 7 = i64 j ∧ ds = [] ∧ Ext w2 w' ∧ ∃ hj : j ≤ L.length, ∀ m (hm : m < j), (L[m]'(Nat.lt_of_lt_of_le hm hj)).1 < y.2.1) L.length
      ⟨0, by simp, by simp [e1], by simp [e4], by simp [e5], by simp [e6], by simp, rfl, Ext.refl _, by simp, fun m hm => by omega⟩ ?_
    rintro k ρ ds w3 ⟨j, rfl, e1, e4, e5, e6, e7, rfl, hE3, hj, hlow⟩
    have hd := Ext.drew w3
    have hE4 := hE3.trans hd
    have r := (WSl.row h hq).ext ((hE1.trans hE).trans hE4)
    have ix := WSl.index h i hlt w3.drew
    have bx4 := bx2.ext hE4
    have aS := sl_of_own (own_ext ha hE4)
    have lena := fun ty W => aS.isLen (P := Try.prog) (t := 98) (by simp) ty W
    refine with_tail (T := ∀ (σ : Env), (σ 1 = ptr w.heap.size ∧ σ 4 = a ∧ σ 5 = b ∧ σ 6 = i64 i ∧ σ 7 = i64 j) → (∀ hjl : j < L.length, ¬ L[j].1 < y.2.1) → WC Try.prog 101 none ?cA ?QA σ [] w3.drew) (fun tail => ?br) ?jn
    case br =>
      refine WC_drawQ 17 rfl (by kernel_rfl) ?_
      by_cases hjl : j < L.length
      · have ixa := aS.index (P := Try.prog) (t := 98) (by simp) .i64 j (by omega) (by omega) w3.drew
        have aat := aS.at_ j (u32 L[j].1) (by rw [List.getElem?_map, List.getElem?_eq_getElem hjl]; rfl)
        simp at ixa aat
        by_cases hlo : L[j].1 < y.2.1
        · simp [e1, e4, e5, e6, e7, lena, hjl, ixa, aat, bx4.c0, ix, r.c4, hlo]
          refine ⟨L.length - (j + 1), by omega, j + 1, rfl, by rw [wrap64 _ (by omega) (by omega)]; rfl, hE4, by omega, fun m hm => ?_⟩
          rcases Nat.lt_or_ge m j with hm' | hm'
          · exact hlow m hm'
          · have : m = j := by omega
            subst this; exact hlo
        · simp [e1, e4, e6, e7, lena, hjl, ixa, aat, bx4.c0, ix, r.c4, hlo]
          refine tail _ ?_ fun _ => hlo
          simp [e1, e4, e5, e6, e7]
      · simp [e4, e7, lena, hjl]
        refine tail _ ?_ fun h => absurd h hjl
        simp [e1, e4, e5, e6, e7]
    case jn =>
      rintro σ ⟨e1, e4, e5, e6, e7⟩ hge
      have hd2 := Ext.drew w3.drew
      have hE5 := hE4.trans hd2
      have r5 := r.ext hd2
      have ix5 := WSl.index h i hlt w3.drew.drew
      have bx5 := bx4.ext hd2
      have aS5 := sl_of_own (own_ext ha hE5)
      by_cases hin : ∃ hjl : j < L.length, L[j].1 = y.2.1
      · obtain ⟨hjl, heq⟩ := hin
        have ixa := aS5.index (P := Try.prog) (t := 98) (by simp) .i64 j (by omega) (by omega) w3.drew.drew
        have aat := aS5.at_ j (u32 L[j].1) (by rw [List.getElem?_map, List.getElem?_eq_getElem hjl]; rfl)
        simp at ixa aat
        rw [heq] at aat
        refine WC_drawQ 17 rfl (by kernel_rfl) ?_
        simp [e1, e4, e6, e7, lena, hjl, ixa, aat, bx5.c0, ix5, r5.c4]
        have hd3 := Ext.drew w3.drew.drew
        have hE6 := hE5.trans hd3
        have r6 := r5.ext hd3
        have ix6 := WSl.index h i hlt w3.drew.drew.drew
        have bx6 := bx5.ext hd3
        have ho6 := own_ext hb' hE6
        have bS6 := sl_of_own ho6
        have ixb := bS6.index (P := Try.prog) (t := 78) (by simp) .i64 j (by omega) (by omega) w3.drew.drew.drew
        have bat := bS6.at_ j (i64 L[j].2) (by rw [List.getElem?_map, List.getElem?_eq_getElem hjl]; rfl)
        have ob0 := own_off ho6
        have bth := own_thaw ho6 (by omega) j
        simp [ob0] at ixb bat bth
        have hval := rn_val (s := s.take i) (fun x hx => hsz x (List.mem_of_mem_take hx)) (j := j) (by rw [hL]; exact hjl)
        have hys := hsz y (by rw [hy]; simp)
        have hLj : (rn (s.take i))[j]'(by rw [hL]; exact hjl) = L[j] := by simp only [hL]
        rw [hLj, List.length_take] at hval
        have wv : IntKind.i64.wrap (L[j].2 + y.2.2.2) = L[j].2 + y.2.2.2 := wrap64 _ (by omega) (by omega)
        refine WC_drawQ 13 rfl (by kernel_rfl) ?_
        simp [e1, e4, e5, e6, e7, ixb, bat, bth, bx6.c0, ix6, r6.c6, wv]
        have hbn := own_nil hb' (by omega)
        have mB := (Mod.refl (fun k => k = slB b) w3.drew.drew.drew).setCell ⟨slB b, j, none⟩ (i64 (L[j].2 + y.2.2.2)) (.inl rfl)
        have hins := insN_eq L y.2.1 y.2.2.2 j hjl hlow heq
        have hown := own_set ho6 hjl (i64 (L[j].2 + y.2.2.2))
        refine ⟨s.length - (i + 1), by omega, i + 1, rfl, by omega, by rw [wrap64 _ (by omega) (by omega)]; rfl, ?_, ?_, ?_, hne⟩
        · have hge := own_ge hb' hbn
          exact (((hE.trans hE6).mod (S := fun k => w1.heap.size ≤ k)).trans (mB.weaken fun k hk => by omega)).ext fun _ h => h
        · rw [hrn, hins]
          have e : (L.set j (y.2.1, L[j].2 + y.2.2.2)).map (fun p => u32 p.1) = L.map fun p => u32 p.1 := by
            rw [List.map_set]
            have : u32 y.2.1 = (L.map fun p => u32 p.1)[j]'(by simpa using hjl) := by simp [heq]
            simp only
            rw [this, List.set_getElem_self]
          show World.ownsRow _ _ _ _ _ _ _
          rw [List.length_set, e]
          exact own_keep (own_ext ha hE6) fun hn hl => mB.blk _ hl fun e => hne hn hbn e
        · rw [hrn, hins]
          show World.ownsRow _ _ _ _ _ _ _
          rw [List.length_set, List.map_set]
          exact hown
      · have hgt : ∀ hjl : j < L.length, y.2.1 < L[j].1 := fun hjl => by
          have h1 := hge hjl
          have h2 : ¬ L[j].1 = y.2.1 := fun e => hin ⟨hjl, e⟩
          omega
        have hins := insN_new L y.2.1 y.2.2.2 j hj hlow hgt
        refine with_tail (T := ∀ (σ : Env), (σ 1 = ptr w.heap.size ∧ σ 4 = a ∧ σ 5 = b ∧ σ 6 = i64 i ∧ σ 7 = i64 j) → WC Try.prog 101 none ?cB ?QB σ [] w3.drew.drew) (fun tail => ?br2) ?jn2
        case br2 =>
          refine WC_drawQ 17 rfl (by kernel_rfl) ?_
          by_cases hjl : j < L.length
          · have hne2 : ¬ L[j].1 = y.2.1 := fun e => hin ⟨hjl, e⟩
            have ixa := aS5.index (P := Try.prog) (t := 98) (by simp) .i64 j (by omega) (by omega) w3.drew.drew
            have aat := aS5.at_ j (u32 L[j].1) (by rw [List.getElem?_map, List.getElem?_eq_getElem hjl]; rfl)
            simp at ixa aat
            simp [e1, e4, e6, e7, lena, hjl, ixa, aat, bx5.c0, ix5, r5.c4, hne2]
            refine tail _ ?_
            simp [e1, e4, e5, e6, e7]
          · simp [e4, e7, lena, hjl]
            refine tail _ ?_
            simp [e1, e4, e5, e6, e7]
        case jn2 =>
          rintro σ ⟨e1, e4, e5, e6, e7⟩
          refine WC_drawL 16 (.F 1 <| .F 2 <| .F 3 <| .F 5 <| .F 6 <| .F 7 <| .F 8 <| .F 9 <| .F 10 <| .F 13 <| .F 14 <| .F 15 <| .D 0 <| .D 11 <| .W 0 <| .L 4 <| .W 11 <| .S 12 <| .Z) (fun _ => false) (fun _ => false)
            (fun i u W => if i = 0 then (∃ b, u = .slice (some ⟨b, 0, none⟩) 0 0) ∧ W.ownsRow w3.heap.size 23 1 u 0 [] else Sl W 1 u 1 [u32 y.2.1]) rfl (by kernel_rfl) (fun _ h => h)
            (fun i u a b h1 h2 => ?_) fun W hW => ?_
          · by_cases hi : i = 0
            · rw [if_pos hi] at h1 ⊢
              exact ⟨h1.1, own_ext h1.2 (agr_ext h2)⟩
            · rw [if_neg hi] at h1 ⊢
              exact h1.ext (agr_ext h2)
          have hWE : Ext w3.drew.drew W := hW ▸ Ext.drew _
          have bx6 := bx5.ext hWE
          have r6 := r5.ext hWE
          have ix6 := fun W => WSl.index h i hlt W
          have aS6 := aS5.ext hWE
          have sh := fun W => aS6.sliceH (P := Try.prog) (t := 98) (by simp) .i64 j (by omega) (by simp; omega) W
          have sl := fun W => aS6.sliceL (P := Try.prog) (t := 98) (by simp) .i64 j (by omega) (by simp; omega) W
          simp [e1, e4, e6, e7, bx6.c0, ix6, r6.c4, sh, sl]
          have h35 : w3.heap.size ≤ W.heap.size := (hd.trans (hd2.trans hWE)).size
          refine RL_float (fun W1 h1 => ?_) ?_
          · simp
            have hs := (agr_ext h1).size
            exact ⟨(Ext.refl _).alloc _, own_empty' W1 _ _ (by omega)⟩
          simp
          refine RL_float (fun W1 h1 => ?_) ?_
          · simp
            exact ⟨(Ext.refl _).alloc _, Sl.made W1 [u32 y.2.1] 23 1 1 rfl⟩
          simp
          refine RL_wait fun v0 W2 h2 ⟨⟨b0, hb0⟩, ho0⟩ => ?_
          subst hb0
          simp
          refine RL_loose fun W3 h3 => ?_
          have ht := (aS6.takeH j hj).ext (h2.trans h3)
          have u1 : ∀ (L : List (Int × Int)), ∀ u ∈ (L.map fun p => u32 p.1), u.oneCell' = true := fun L u hu => by
            obtain ⟨p, _, rfl⟩ := List.mem_map.1 hu; rfl
          have s23 := (h2.trans h3).size
          rw [Nat.mul_one, ← List.map_take] at ht
          obtain ⟨v1, W4, hr4, ho4, hE4'⟩ := append_new' (t := 98) (e := 23) (by simp) (by simp) (by kernel_rfl) (own_ext ho0 h3) ht (u1 _) (by omega) (by omega)
          simp [hr4]
          refine KR_ext hE4' ?_
          simp
          refine RL_wait fun v5 W5 h5 hs5 => ?_
          have hs5' : Sl W5 1 v5 1 [u32 y.2.1] := hs5
          have sE4 := hE4'.size
          have sE5 := h5.size
          obtain ⟨v2, W6, hr6, ho6, hM6, -⟩ := append_own (P := Try.prog) (t := 98) (ty := 98) (e := 23) (s := 1) (by simp) (by simp) (by kernel_rfl) (own_ext ho4 h5) hs5' (fun u hu => by simp at hu; rw [hu]; rfl) (by omega) (by omega)
          simp [hr6]
          refine KR_mk (agr_any (hM6.weaken fun _ _ => trivial)) ?_
          have hd0 := ((aS6.dropL j hj).ext (((h2.trans h3).trans hE4').trans h5))
          have hd6 : Sl W6 1 (slcL a j 1) (L.length - j) ((L.drop j).map fun p => u32 p.1) := by
            rw [Nat.mul_one, ← List.map_drop] at hd0
            by_cases hk : L.length - j = 0
            · have hz : L.drop j = [] := List.drop_eq_nil_of_le (by omega)
              rw [hz] at hd0 ⊢
              exact ⟨hd0.len, hd0.val, fun _ _ h => by simp at h⟩
            · have hlt5 := hd0.lt (by simp; omega)
              have han := own_nil ha (by omega)
              obtain ⟨ca, hca⟩ := own_obj ha han
              have h1 := (Array.getElem?_eq_some_iff.1 hca).1
              have h2' := hE3.size
              obtain ⟨aa, ac, hav⟩ := own_val ha
              have e : slB (slcL a j 1) = slB a := by
                rw [hav] at han ⊢
                cases aa with
                | none => simp [slN] at han
                | some p =>
                  simp only [slcL]
                  split
                  · rfl
                  · simp only [slB, Option.map_some]
                    unfold Addr.add
                    split <;> rfl
              exact hd0.mod hM6 (fun x => by have := own_ge ho4 x.1; omega)
          obtain ⟨v3, W7, hr7, ho7, hM7, -⟩ := append_own (P := Try.prog) (t := 98) (ty := 98) (e := 23) (s := 1) (by simp) (by simp) (by kernel_rfl) ho6 hd6 (u1 _) (by omega) (by have := hM6.size; omega)
          simp [hr7]
          have z2 := hE3.size
          have hE7 : Ext w2 W7 := ((((hE5.trans hWE).trans ((h2.trans h3).trans (hE4'.trans h5))).mod (S := fun k => w2.heap.size ≤ k)).trans ((hM6.weaken fun k hk => by have := own_ge ho4 hk.1; omega).trans (hM7.weaken fun k hk => by have := own_ge ho6 hk.1; omega))).ext fun _ h => h
          refine WC_drawL 16 (.F 1 <| .F 2 <| .F 3 <| .F 5 <| .F 6 <| .F 7 <| .F 8 <| .F 9 <| .F 10 <| .F 13 <| .F 14 <| .F 15 <| .D 0 <| .D 11 <| .W 0 <| .L 4 <| .W 11 <| .S 12 <| .Z) (fun _ => false) (fun _ => false)
            (fun i u W => if i = 0 then (∃ b, u = .slice (some ⟨b, 0, none⟩) 0 0) ∧ W.ownsRow W7.heap.size 3 1 u 0 [] else Sl W 1 u 1 [i64 y.2.2.2]) rfl (by kernel_rfl) (fun _ h => h)
            (fun i u a b h1 h2 => ?_) fun V hV => ?_
          · by_cases hi : i = 0
            · rw [if_pos hi] at h1 ⊢
              exact ⟨h1.1, own_ext h1.2 (agr_ext h2)⟩
            · rw [if_neg hi] at h1 ⊢
              exact h1.ext (agr_ext h2)
          have hVE : Ext W7 V := hV ▸ Ext.drew _
          have bx7 := (bx2.ext hE7).ext hVE
          have r7 := ((WSl.row h hq).ext ((hE1.trans hE).trans hE7)).ext hVE
          have bS7 := (sl_of_own (own_ext hb' hE7)).ext hVE
          have shb := fun W => bS7.sliceH (P := Try.prog) (t := 78) (by simp) .i64 j (by omega) (by simp; omega) W
          have slb := fun W => bS7.sliceL (P := Try.prog) (t := 78) (by simp) .i64 j (by omega) (by simp; omega) W
          simp [e1, e5, e6, e7, bx7.c0, ix6, r7.c6, shb, slb]
          have y35 := hVE.size
          refine RL_float (fun W1 h1 => ?_) ?_
          · simp
            have hs := (agr_ext h1).size
            exact ⟨(Ext.refl _).alloc _, own_empty' W1 _ _ (by omega)⟩
          simp
          refine RL_float (fun W1 h1 => ?_) ?_
          · simp
            exact ⟨(Ext.refl _).alloc _, Sl.made W1 [i64 y.2.2.2] 3 1 1 rfl⟩
          simp
          refine RL_wait fun u0 V2 k2 ⟨⟨c0, hc0⟩, po0⟩ => ?_
          subst hc0
          simp
          refine RL_loose fun V3 k3 => ?_
          have htb := (bS7.takeH j hj).ext (k2.trans k3)
          have i1 : ∀ (L : List (Int × Int)), ∀ u ∈ (L.map fun p => i64 p.2), u.oneCell' = true := fun L u hu => by
            obtain ⟨p, _, rfl⟩ := List.mem_map.1 hu; rfl
          have t23 := (k2.trans k3).size
          rw [Nat.mul_one, ← List.map_take] at htb
          obtain ⟨u1v, V4, gr4, po4, jE4⟩ := append_new' (t := 78) (e := 3) (by simp) (by simp) (by kernel_rfl) (own_ext po0 k3) htb (i1 _) (by omega) (by omega)
          simp [gr4]
          refine KR_ext jE4 ?_
          simp
          refine RL_wait fun u5 V5 k5 ps5 => ?_
          have ps5' : Sl V5 1 u5 1 [i64 y.2.2.2] := ps5
          have tE4 := jE4.size
          have tE5 := k5.size
          obtain ⟨u2, V6, gr6, po6, jM6, -⟩ := append_own (P := Try.prog) (t := 78) (ty := 78) (e := 3) (s := 1) (by simp) (by simp) (by kernel_rfl) (own_ext po4 k5) ps5' (fun u hu => by simp at hu; rw [hu]; rfl) (by omega) (by omega)
          simp [gr6]
          refine KR_mk (agr_any (jM6.weaken fun _ _ => trivial)) ?_
          have pd0 := ((bS7.dropL j hj).ext (((k2.trans k3).trans jE4).trans k5))
          have s7 := hE7.size
          have pd6 : Sl V6 1 (slcL b j 1) (L.length - j) ((L.drop j).map fun p => i64 p.2) := by
            rw [Nat.mul_one, ← List.map_drop] at pd0
            by_cases hk : L.length - j = 0
            · have hz : L.drop j = [] := List.drop_eq_nil_of_le (by omega)
              rw [hz] at pd0 ⊢
              exact ⟨pd0.len, pd0.val, fun _ _ h => by simp at h⟩
            · have hbn := own_nil hb' (by omega)
              obtain ⟨ca, hca⟩ := own_obj hb' hbn
              have h1 := (Array.getElem?_eq_some_iff.1 hca).1
              obtain ⟨aa, ac, hav⟩ := own_val hb'
              have e : slB (slcL b j 1) = slB b := by
                rw [hav] at hbn ⊢
                cases aa with
                | none => simp [slN] at hbn
                | some p =>
                  simp only [slcL]
                  split
                  · rfl
                  · simp only [slB, Option.map_some]
                    unfold Addr.add
                    split <;> rfl
              exact pd0.mod jM6 (fun x => by have := own_ge po4 x.1; omega)
          obtain ⟨u3, V7, gr7, po7, jM7, -⟩ := append_own (P := Try.prog) (t := 78) (ty := 78) (e := 3) (s := 1) (by simp) (by simp) (by kernel_rfl) po6 pd6 (i1 _) (by omega) (by have := jM6.size; omega)
          simp [gr7, e1, e6]
          have hE8 : Ext W7 V7 := (((hVE.trans ((k2.trans k3).trans (jE4.trans k5))).mod (S := fun k => W7.heap.size ≤ k)).trans ((jM6.weaken fun k hk => by have := own_ge po4 hk.1; omega).trans (jM7.weaken fun k hk => by have := own_ge po6 hk.1; omega))).ext fun _ h => h
          have z1 := hE.size
          refine ⟨s.length - (i + 1), by omega, i + 1, rfl, by omega, by rw [wrap64 _ (by omega) (by omega)]; rfl, (hE.trans hE7).trans hE8, ?_, ?_, ?_⟩
          · rw [hrn, hins]
            have := own_lower (own_ext ho7 hE8) (show w1.heap.size ≤ w3.heap.size by omega)
            rw [show j + 1 + (L.length - j) = j + (L.length - j + 1) by omega] at this
            show World.ownsRow _ _ _ _ _ _ _
            simpa [Nat.min_eq_left hj] using this
          · rw [hrn, hins]
            have := own_lower po7 (show w1.heap.size ≤ W7.heap.size by omega)
            rw [show j + 1 + (L.length - j) = j + (L.length - j + 1) by omega] at this
            show World.ownsRow _ _ _ _ _ _ _
            simpa [Nat.min_eq_left hj] using this
          · intro hn1 hn2 heq
            obtain ⟨cc, hcc⟩ := own_obj ho7 hn1
            have q1 := (Array.getElem?_eq_some_iff.1 hcc).1
            have q2 := own_ge po7 hn2
            omega
  · have : i = s.length := by omega
    subst this
    simp [e1, e4, e5, e6, bx2.c0, hlen]
    rw [List.take_length] at ha hb'
    exact ⟨_, _, ⟨rfl, rfl⟩, own_lower ha hE1.size, own_lower hb' hE1.size, hE1.trans hE⟩
end Go.Proofs
namespace Go.Proofs
open Pk
set_option maxRecDepth 10000
def mark (D : Nat) : Deferred := { target := .collected D, args := #[] }
/-- Marks behind ranges over functions: they are taken up at the return. -/
theorem LV_marks {P : Program} {rs : Array ResultVar} {R : Ending → World → Prop} {ρ : Env} : ∀ (Ds : List Nat) (w : World), Ds.Nodup → (∀ D ∈ Ds, w.heap[D]? = some (.deferred (some []))) → (∀ w', Mod (· ∈ Ds) w w' → LV P rs R ρ [] .returning w') →
    LV P rs R ρ (Ds.map mark) .returning w
  | [], w, _, _, hk => hk w (Mod.refl _ _)
  | D :: Ds, w, hn, hm, hk => by
    obtain ⟨h1, h2⟩ := List.nodup_cons.1 hn
    refine LV_mark (hm D (by simp)) (by simp) ?_
    refine LV_marks Ds _ h2 (fun E hE => ?_) fun w' hM => ?_
    · rw [World.putObj_heap_other (fun e => h1 (by rw [← e]; exact hE))]
      exact hm E (by simp [hE])
    · refine hk w' ?_
      exact ((Mod.putObj D _).weaken fun i hi => by simp [hi]).trans (hM.weaken fun i hi => by simp [hi])
/-- What `is` has under way. -/
structure IsAt (W : World) (B A l : Nat) (v : Value) (most many : Int) (a b : Value) : Prop where
  vl : Var W B (ptr l)
  vr : RAt W (B + 1) v most
  vm : Var W (B + 1 + 1) (i64 many)
  vo : Var W (B + 1 + 1 + 1) (.bool false)
  va : Var W A a
  vb : Var W (A + 1) b
theorem IsAt.ext {W W' : World} {B A l : Nat} {v : Value} {most many : Int} {a b : Value} (h : IsAt W B A l v most many a b) (hE : Ext W W') : IsAt W' B A l v most many a b :=
  ⟨h.vl.ext hE, h.vr.ext hE, h.vm.ext hE, h.vo.ext hE, h.va.ext hE, h.vb.ext hE⟩
theorem IsAt.mod {W W' : World} {B A l : Nat} {v : Value} {most many : Int} {a b : Value} {S : Nat → Prop} (h : IsAt W B A l v most many a b) (hM : Mod S W W') (hB : B + 4 ≤ A) (hS : ∀ k, k < A + 2 → ¬ S k) : IsAt W' B A l v most many a b :=
  ⟨h.vl.mod hM (hS _ (by omega)), h.vr.mod hM (hS _ (by omega)), h.vm.mod hM (hS _ (by omega)), h.vo.mod hM (hS _ (by omega)), h.va.mod hM (hS _ (by omega)), h.vb.mod hM (hS _ (by omega))⟩
theorem sl_lt {w : World} {s n : Nat} {v : Value} {xs : List Value} (h : Sl w s v n xs) {z : Nat} (hz : slN v = false → slB v < z) (h0 : 0 < z) : slB v < z := by
  by_cases hn : slN v = false
  · exact hz hn
  · rcases h.val with ⟨c, e1, -⟩ | ⟨b, o, c, e, -⟩
    · rw [e1]; exact h0
    · rw [e] at hn; simp [slN] at hn
set_option maxHeartbeats 4000000 in
theorem lis_c {Pd Vd : Nat → Prop} {wb w : World} {l : Nat} {v : Value} {s : List Wt} {most : Int} (h : Both Pd Vd wb w l v s most) (hb : s.length ≤ 255) (hsz : sized s) (many : Int) :
    FN Try.prog 15 [ptr l, rlV v most, i64 many] w fun e w' => e = .returned (.bool true) ∧ Ext w w' := by
  obtain ⟨⟨Rq, Rw, M, N, hl, -, -⟩, hrow, hlt, -⟩ := h
  refine FN_enter Try.func15 rfl rfl (by kernel_rfl) ?_
  simp
  have hE1 : Ext w ((((w.alloc (.cells #[ptr l] 32)).alloc (.cells #[v, i64 most] 46)).alloc (.cells #[i64 many] 3)).alloc (.cells #[.bool false] 4)) := ((((Ext.refl w).alloc _).alloc _).alloc _).alloc _
  have vl1 : Var ((((w.alloc (.cells #[ptr l] 32)).alloc (.cells #[v, i64 most] 46)).alloc (.cells #[i64 many] 3)).alloc (.cells #[.bool false] 4)) w.heap.size (ptr l) := (Var.new w (ptr l) 32).ext ((((Ext.refl _).alloc _).alloc _).alloc _)
  have vr1 : RAt ((((w.alloc (.cells #[ptr l] 32)).alloc (.cells #[v, i64 most] 46)).alloc (.cells #[i64 many] 3)).alloc (.cells #[.bool false] 4)) (w.heap.size + 1) v most := by
    have := (RAt.new (w.alloc (.cells #[ptr l] 32)) v most).ext (((Ext.refl _).alloc (.cells #[i64 many] 3)).alloc (.cells #[.bool false] 4))
    simpa using this
  have vm1 : Var ((((w.alloc (.cells #[ptr l] 32)).alloc (.cells #[v, i64 most] 46)).alloc (.cells #[i64 many] 3)).alloc (.cells #[.bool false] 4)) (w.heap.size + 1 + 1) (i64 many) := by
    have := (Var.new ((w.alloc (.cells #[ptr l] 32)).alloc (.cells #[v, i64 most] 46)) (i64 many) 3).ext ((Ext.refl _).alloc (.cells #[.bool false] 4))
    simpa using this
  have vo1 : Var ((((w.alloc (.cells #[ptr l] 32)).alloc (.cells #[v, i64 most] 46)).alloc (.cells #[i64 many] 3)).alloc (.cells #[.bool false] 4)) (w.heap.size + 1 + 1 + 1) (.bool false) := by
    have := Var.new (((w.alloc (.cells #[ptr l] 32)).alloc (.cells #[v, i64 most] 46)).alloc (.cells #[i64 many] 3)) (.bool false) 4
    simpa using this
  have z1 : ((((w.alloc (.cells #[ptr l] 32)).alloc (.cells #[v, i64 most] 46)).alloc (.cells #[i64 many] 3)).alloc (.cells #[.bool false] 4)).heap.size = w.heap.size + 1 + 1 + 1 + 1 := by simp
  generalize ((((w.alloc (.cells #[ptr l] 32)).alloc (.cells #[v, i64 most] 46)).alloc (.cells #[i64 many] 3)).alloc (.cells #[.bool false] 4)) = w1 at *
  refine FN.mono (rnodes_c (hrow.ext hE1) most hb hsz) ?_
  rintro _ w2 ⟨a, b, rfl, ha, hbo, hE2⟩
  obtain ⟨aa, ac, rfl⟩ := own_val ha
  obtain ⟨ba, bc, rfl⟩ := own_val hbo
  have c2 := (vl1.ext hE2).cell
  simp [c2]
  have a2 : Ext w2 ((w2.alloc (.cells #[.slice aa (rn s).length ac] 98)).alloc (.cells #[.slice ba (rn s).length bc] 78)) := ((Ext.refl w2).alloc _).alloc _
  have va2 : Var ((w2.alloc (.cells #[.slice aa (rn s).length ac] 98)).alloc (.cells #[.slice ba (rn s).length bc] 78)) w2.heap.size (.slice aa (rn s).length ac) := (Var.new w2 _ _).ext ((Ext.refl _).alloc _)
  have vb2 : Var ((w2.alloc (.cells #[.slice aa (rn s).length ac] 98)).alloc (.cells #[.slice ba (rn s).length bc] 78)) (w2.heap.size + 1) (.slice ba (rn s).length bc) := by
    have := Var.new (w2.alloc (.cells #[.slice aa (rn s).length ac] 98)) (.slice ba (rn s).length bc) 78
    simpa using this
  have z2 : ((w2.alloc (.cells #[.slice aa (rn s).length ac] 98)).alloc (.cells #[.slice ba (rn s).length bc] 78)).heap.size = w2.heap.size + 1 + 1 := by simp
  have sa := (sl_of_own ha).ext a2
  have sb := (sl_of_own hbo).ext a2
  generalize ((w2.alloc (.cells #[.slice aa (rn s).length ac] 98)).alloc (.cells #[.slice ba (rn s).length bc] 78)) = w3 at *
  have hE13 := hE2.trans a2
  have hI3 : IsAt w3 w.heap.size w2.heap.size l v most many (.slice aa (rn s).length ac) (.slice ba (rn s).length bc) :=
    ⟨vl1.ext hE13, vr1.ext hE13, vm1.ext hE13, vo1.ext hE13, va2, vb2⟩
  have s2 := hE2.size
  refine FN.mono (nodes_c (hl.ext (hE1.trans hE13)) hb hsz) ?_
  rintro _ w4 ⟨bn, rq, m, rfl, vbn, hsm, hmg, hE4, hbn, hrq⟩
  have hkeys := rn_keys hsm hmg
  have hml : m.length ≤ 255 := by
    have h1 := hkeys.1.length_eq
    have h2 := rn_len s
    simp at h1
    omega
  have hit := kNsteps kU32 zI vbn hsm.val hml hkeys
  simp
  have a5 : Ext w4 (w4.alloc (.cells #[i64 0] 3)) := (Ext.refl w4).alloc _
  have v5 : Var (w4.alloc (.cells #[i64 0] 3)) w4.heap.size (i64 0) := Var.new w4 _ _
  have z5 : (w4.alloc (.cells #[i64 0] 3)).heap.size = w4.heap.size + 1 := by simp
  obtain ⟨bt, hbt⟩ : ∃ bt, bt = w4.heap.size := ⟨_, rfl⟩
  rw [← hbt] at v5 z5 ⊢
  generalize (w4.alloc (.cells #[i64 0] 3)) = w5 at *
  have hE35 := hE4.trans a5
  have hIs := hI3.ext hE35
  have sa5 := sa.ext hE35
  have sb5 := sb.ext hE35
  have hl5 := hl.ext ((hE1.trans hE13).trans hE35)
  have ro5 := hrow.ext ((hE1.trans hE13).trans hE35)
  have hE05 := (hE1.trans hE13).trans hE35
  have hcap5 : ∀ k, (k = bn ∨ Value.map (some rq) = .map (some k)) → k < w4.heap.size := by
    rintro k (rfl | h)
    · exact vbn.lt
    · have := hsm.lt
      cases h
      exact this
  have hit5 := hit.ext a5 hcap5
  have own_lt : ∀ {e : TypeId} {u : Value} {xs : List Value}, w2.ownsRow w1.heap.size e 1 u (rn s).length xs → slN u = false → slB u < w2.heap.size := fun h hn => by
    obtain ⟨cc, hc⟩ := own_obj h hn
    exact (Array.getElem?_eq_some_iff.1 hc).1
  have hAp : 0 < w2.heap.size := by have := hE2.size; omega
  have kba : slB (.slice aa (rn s).length ac) < w2.heap.size := sl_lt (sl_of_own ha) (own_lt ha) hAp
  have kbb : slB (.slice ba (rn s).length bc) < w2.heap.size := sl_lt (sl_of_own hbo) (own_lt hbo) hAp
  have kbv : slB v < w2.heap.size := sl_lt hrow (fun hn => by have := (hlt hn).1; have := hE2.size; omega) hAp
  have fl := fun k (hk : Foot l Rq Rw M k) => hl.lt k hk
  generalize hA : w2.heap.size = A at *
  generalize hB : w.heap.size = B at *
  have s13 := hE13.size
  have s4 := hE4.size
  have hlenr := rn_len s
  obtain ⟨avv, hav⟩ : ∃ avv, avv = Value.slice aa (rn s).length ac := ⟨_, rfl⟩
  obtain ⟨bvv, hbv⟩ : ∃ bvv, bvv = Value.slice ba (rn s).length bc := ⟨_, rfl⟩
  rw [← hav] at hIs sa5 kba
  rw [← hbv] at hIs sb5 kbb
  refine WC_loop (fun k ρ ds w' => ∃ (turn b10 : Nat) (Ds : List Nat), k = 2 - turn ∧ turn ≤ 2 ∧ ρ 3 = ptr B ∧ ρ 4 = ptr (B + 1) ∧ ρ 5 = ptr (B + 1 + 1) ∧ ρ 6 = ptr (B + 1 + 1 + 1) ∧ ρ 7 = ptr A ∧ ρ 8 = ptr (A + 1) ∧ ρ 9 = .func (.func 51) #[] #[ptr bn] ∧ ρ 10 = ptr b10 ∧ ds = Ds.map mark ∧ Ds.Nodup ∧ (∀ D ∈ Ds, w5.heap.size ≤ D ∧ w'.heap[D]? = some (.deferred (some []))) ∧
    Var w' b10 (i64 turn) ∧ Ext w5 w') 2 ⟨0, bt, [], rfl, by omega, by simp, by simp, by simp, by simp, by simp, by simp, by simp, by simp, rfl, List.nodup_nil, fun _ h => by simp at h, v5, Ext.refl _⟩ ?_
  rintro k ρ ds w6 ⟨turn, b10, Ds, rfl, ht2, e3, e4, e5, e6, e7, e8, e9, e10, rfl, hDn, hDs, v10, hE6⟩
  have hI6 := hIs.ext hE6
  by_cases ht : turn < 2
  · have htb : (turn : Int) < 2 := by omega
    simp [e10, v10.cell, htb]
    have eA : Ext w6 (w6.alloc (.cells #[i64 0] 3)) := (Ext.refl w6).alloc _
    have v8 : Var (w6.alloc (.cells #[i64 0] 3)) w6.heap.size (i64 0) := Var.new w6 _ _
    have hs8 : (w6.alloc (.cells #[i64 0] 3)).heap.size = w6.heap.size + 1 := by simp
    obtain ⟨b8, hb8⟩ : ∃ b8, b8 = w6.heap.size := ⟨_, rfl⟩
    rw [← hb8] at v8 hs8 ⊢
    generalize (w6.alloc (.cells #[i64 0] 3)) = w7 at *
    have hE57 := hE6.trans eA
    have z6 := hE6.size
    have l10 := v10.lt
    have w10 := v10.ext eA
    have hI7 := hIs.ext hE57
    have q1 : IntKind.i64.wrap 1 = 1 := by decide
    have q2 : IntKind.i64.wrap 2 = 2 := by decide
    simp [e9]
    have hit7 := hit5.ext hE57 (fun k hk => by have := hcap5 k hk; omega)
    have fin : ∀ (W : World) (q : Int), Mod (fun k => k = b8) w7 W → W.heap[w7.heap.size]? = some (.deferred (some [])) → ∃ x : List Nat, ({ target := .collected w7.heap.size, args := #[] } :: Ds.map mark : List Deferred) = x.map mark ∧ x.Nodup ∧
        (∀ D ∈ x, w5.heap.size ≤ D ∧ W.heap[D]? = some (.deferred (some []))) ∧ Var (W.alloc (.cells #[i64 q] 3)) W.heap.size (i64 q) ∧ Ext w5 (W.alloc (.cells #[i64 q] 3)) := by
      intro W q hx hD
      have hy := (((hE57.mod (S := fun k => w5.heap.size ≤ k)).trans (hx.weaken fun k hk => by omega)).ext fun _ h => h).trans ((Ext.refl W).alloc (.cells #[i64 q] 3))
      have hsz := hx.size
      refine ⟨w7.heap.size :: Ds, rfl, List.nodup_cons.2 ⟨fun hm => ?_, hDn⟩, ?_, Var.new _ _ _, hy⟩
      · have := (hDs _ hm).2
        have := (Array.getElem?_eq_some_iff.1 this).1
        omega
      · intro D hm
        rcases List.mem_cons.1 hm with rfl | hm
        · exact ⟨by omega, hD⟩
        · have h1 := (Array.getElem?_eq_some_iff.1 (hDs D hm).2).1
          exact ⟨(hDs D hm).1, hx.obj (eA.obj (hDs D hm).2) (by omega)⟩
    refine WC_rangeFunc (gf := 51) (first := #[]) (caps := #[ptr bn]) (enc := kNst m) (by simp) (fun _ _ => callFunc_enter Try.func51 rfl rfl _ _) hit7 (fun x => rfl) (fun k => k = b8)
      (fun C pre W => Var W b8 (i64 pre.length) ∧ (∀ k, C k ↔ k = b8) ∧ Mod (fun k => k = b8) w7 W ∧ (turn = 0 → pre ≠ [] → (pre.length : Int) < many))
      (fun cd C pre W => cd = .exit 2 ∧ turn = 0 ∧ Var W b8 (i64 pre.length) ∧ Mod (fun k => k = b8) w7 W ∧ many ≤ pre.length ∧ ((pre.length : Int) - 1 < many ∨ pre.length = 1) ∧ (∀ k, C k ↔ k = b8))
      (fun k hk => ?_) (fun k hk => by omega) ?_ ?_ ⟨by simpa using v8, fun _ => Iff.rfl, Mod.refl _ _, fun _ h => (h rfl).elim⟩ ?ρ ?ha ?_ ?_ ?_
    case ha =>
      intro l x W
      simp
      exact rfl
    · have := hcap5 k hk; omega
    · rintro C pre W W' ⟨h1, h5, h6, h7⟩ hag
      exact ⟨h1.agr hag (.inr ((h5 _).2 rfl)), h5, h6.agr_old hag, h7⟩
    · rintro cd C pre W W' ⟨h0, ht0, h1, h6, h7, h8, h5⟩ hag
      exact ⟨h0, ht0, h1.agr hag (.inr ((h5 _).2 rfl)), h6.agr_old hag, h7, h8, h5⟩
    · rintro lp C pre x W hsp ⟨h1, h5, h6, h7⟩ - - -
      obtain ⟨_, suf, hsuf⟩ := hsp
      have hql : pre.length < (rn s).length := by have := congrArg List.length hsuf; simp at this; omega
      obtain ⟨p, hp⟩ : ∃ p, p = (rn s)[pre.length] := ⟨_, rfl⟩
      have hxq : p.1 = x := by
        have h1 : ((rn s).map (·.1))[pre.length]? = some x := by rw [hsuf]; simp
        rw [List.getElem?_map, List.getElem?_eq_getElem hql, ← hp] at h1
        exact Option.some.inj h1
      have hval : kNval m x = i64 p.2 := by
        have hnd : ((rn s).map (·.1)).Nodup := by
          rw [List.Nodup, List.pairwise_map]
          exact (rn_all s).1.imp fun h e => by omega
        have hg := (kget_iff hnd).2 (show (x, p.2) ∈ rn s by rw [← hxq, hp]; exact List.getElem_mem hql)
        unfold kNval
        rw [hmg, ← (rn_all s).2, hg]
        rfl
      have hIW := hI7.mod h6 (by omega) (fun k hk => by omega)
      have wT := w10.mod h6 (by omega)
      have saW : Sl W 1 avv (rn s).length _ := (sa5.ext hE57).mod h6 (by omega)
      have sbW : Sl W 1 bvv (rn s).length _ := (sb5.ext hE57).mod h6 (by omega)
      have lena := fun ty W => saW.isLen (P := Try.prog) (t := 98) (by simp) ty W
      have ixa := fun W => saW.index (P := Try.prog) (t := 98) (by simp) .i64 pre.length (by omega) (by omega) W
      have ixb := fun W => sbW.index (P := Try.prog) (t := 78) (by simp) .i64 pre.length (by omega) (by omega) W
      have aat := saW.at_ pre.length (u32 p.1) (by rw [List.getElem?_map, List.getElem?_eq_getElem hql, ← hp]; rfl)
      have bat := sbW.at_ pre.length (i64 p.2) (by rw [List.getElem?_map, List.getElem?_eq_getElem hql, ← hp]; rfl)
      rw [hxq] at aat
      simp at aat bat ixa ixb
      have hnl : ¬ (rn s).length ≤ pre.length := by omega
      have hlW := (hl5.ext hE57).mod h6 (fun k hk e => by have := fl k hk; omega)
      have roW : WSl W v s := (ro5.ext hE57).mod h6 (by omega)
      simp [e3, e4, e7, e8, h1.cell, hIW.va.cell, hIW.vb.cell, hIW.vl.cell, hIW.vr.c0, hIW.vr.c1, lena, ixa, ixb, aat, bat, hnl, kNst, hval]
      refine FN.mono (lall_c hlW roW most x 5000 (by omega)) ?_
      rintro _ W2 ⟨rfl, hEW⟩
      have n2 := h1.ext hEW
      have hI2 := hIW.ext hEW
      have wT2 := wT.ext hEW
      have wq : IntKind.i64.wrap ((pre.length : Int) + 1) = ((pre.length + 1 : Nat) : Int) := wnat _ _ (by omega) (by omega)
      have hset := n2.set (i64 ((pre.length + 1 : Nat) : Int))
      have mS := (Mod.refl (fun k => k = b8) W2).setC 0 (i64 ((pre.length + 1 : Nat) : Int))
      simp [n2.cell, n2.thaw]
      rw [wq]
      obtain ⟨W3, hW3⟩ : ∃ W3, W3 = W2.setCell ⟨b8, 0, none⟩ (.int .i64 ((pre.length + 1 : Nat) : Int)) := ⟨_, rfl⟩
      rw [← hW3] at hset mS ⊢
      have x7 := wT2.mod mS (by omega)
      have hI3' := hI2.mod mS (by omega) (fun k hk => by omega)
      have hMW := (hEW.mod (S := fun k => k = b8)).trans mS
      have hlen1 : (pre ++ [x]).length = pre.length + 1 := by simp
      by_cases ht0 : turn = 0
      · subst ht0
        by_cases hz : many ≤ (pre.length : Int) + 1
        · simp [e5, e10, x7.cell, hset.cell, hI3'.vm.cell, hz]
          refine ⟨C, ⟨?_, h6.trans hMW, ?_⟩, Own.of_mod (hMW.weaken fun k hk => (h5 k).2 hk)⟩
          · have := hset; push_cast at this; exact this
          · refine ⟨?_, h5⟩
            by_cases hp : pre = []
            · right; exact hp
            · left; exact h7 rfl hp
        · simp [e5, e10, x7.cell, hset.cell, hI3'.vm.cell, hz]
          refine ⟨C, ⟨?_, h5, h6.trans hMW, by omega⟩, Own.of_mod (hMW.weaken fun k hk => (h5 k).2 hk)⟩
          have := hset; push_cast at this; exact this
      · have htn : ((turn : Int) == 0) = false := by simp; omega
        simp [e10, x7.cell, htn]
        refine ⟨C, ⟨?_, h5, h6.trans hMW, fun h => (ht0 h).elim⟩, Own.of_mod (hMW.weaken fun k hk => (h5 k).2 hk)⟩
        have := hset; push_cast at this; exact this
    · rintro C ys W rfl ⟨h1, h5, h6, h7⟩ hD
      have hIW := hI7.mod h6 (by omega) (fun k hk => by omega)
      have wT := w10.mod h6 (by omega)
      have lena := fun ty W => sa5.isLen (P := Try.prog) (t := 98) (by simp) ty W
      rw [List.length_map] at h1 h7
      by_cases ht0 : turn = 0
      · subst ht0
        have hmn : (((rn s).length : Int) != min ((rn s).length : Int) (max 1 many)) = false := by
          have : ((rn s).length : Int) = min ((rn s).length : Int) (max 1 many) := by
            by_cases h0 : rn s = []
            · rw [h0]; simp; omega
            · have := h7 rfl (by simpa using h0); omega
          rw [← this]; simp
        simp [e5, e7, e10, wT.cell, h1.cell, hIW.va.cell, hIW.vm.cell, lena, hmn, q1]
        obtain ⟨x, f1, f2, f3, f4, f5⟩ := fin W 1 h6 hD
        exact ⟨1, by omega, 1, rfl, by omega, e3, e4, e6, e8, e9, x, f1, f2, f3, f4, f5⟩
      · obtain rfl : turn = 1 := by omega
        simp [e5, e7, e10, wT.cell, h1.cell, hIW.va.cell, lena, q2]
        obtain ⟨x, f1, f2, f3, f4, f5⟩ := fin W 2 h6 hD
        exact ⟨2, by omega, by omega, e3, e4, e6, e8, e9, x, f1, f2, f3, f4, f5⟩
    · rintro cd C pre W hsp ⟨rfl, ht0, h1, h6, h7, h8, h5⟩ hD
      have hIW := hI7.mod h6 (by omega) (fun k hk => by omega)
      have wT := w10.mod h6 (by omega)
      have lena := fun ty W => sa5.isLen (P := Try.prog) (t := 98) (by simp) ty W
      subst ht0
      obtain ⟨hne, suf, hsuf⟩ := hsp
      have hql : pre.length ≤ (rn s).length := by have := congrArg List.length hsuf; simp at this; omega
      have hq0 : 0 < pre.length := List.length_pos_iff.2 hne
      have hmn : ((pre.length : Int) != min ((rn s).length : Int) (max 1 many)) = false := by
        have : (pre.length : Int) = min ((rn s).length : Int) (max 1 many) := by omega
        rw [← this]; simp
      simp [e5, e7, e10, wT.cell, h1.cell, hIW.va.cell, hIW.vm.cell, lena, hmn, q1]
      obtain ⟨x, f1, f2, f3, f4, f5⟩ := fin W 1 h6 hD
      exact ⟨1, by omega, 1, rfl, by omega, e3, e4, e6, e8, e9, x, f1, f2, f3, f4, f5⟩
  · have htb : ¬ (turn : Int) < 2 := by omega
    simp [e10, v10.cell, htb, e3, hI6.vl.cell]
    refine FN.mono (len_c (hl5.ext hE6)) ?_
    rintro _ w7 ⟨rfl, hE7⟩
    have hI7 := hI6.ext hE7
    have hlw := fun ty W => hrow.isLen (P := Try.prog) (t := 22) (by simp) ty W
    simp [e4, e6, hI7.vr.c0, hI7.vr.c1, hlw, hI7.vo.cell, hI7.vo.thaw]
    have mF := (Mod.refl (fun k => k = B + 1 + 1 + 1) w7).setC 0 (.bool true)
    have vF := hI7.vo.set (.bool true)
    generalize (w7.setCell ⟨B + 1 + 1 + 1, 0, none⟩ (.bool true)) = w8 at *
    have z6 := hE6.size
    have z57 := hE35.size
    refine LV_marks Ds w8 hDn (fun D hD => ?_) fun w' hM' => ?_
    · have := hDs D hD
      exact mF.obj (hE7.obj this.2) (by omega)
    · have vF' := vF.mod hM' (fun h => by have := (hDs _ h).1; omega)
      simp [vF'.cell, e6]
      exact (((((hE05.trans hE6).trans hE7).mod (S := fun k => w.heap.size ≤ k)).trans (mF.weaken fun k hk => by omega)).trans (hM'.weaken fun k hk => by have := (hDs _ hk).1; have := hE05.size; omega)).ext fun _ h => h
end Go.Proofs
