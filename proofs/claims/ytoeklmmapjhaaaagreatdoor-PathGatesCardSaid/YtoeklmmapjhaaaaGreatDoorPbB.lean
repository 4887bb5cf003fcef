/-
  Contracts of the functions that the law reaches, step by step.
-/
import Derived.Test.YtoeklmmapjhaaaaGreatDoorPaA
import Derived.Test.YtoeklmmapjhaaaaGreatDoorSrtF
namespace Go.Proofs
open Pk
set_option maxRecDepth 10000
/-! ### Keys of uint32, sorted -/
abbrev KGML := List (Int × Int)
abbrev KGMV (w : World) (v : Value) (m : KGML) := MapV (Value.int .u32) (Value.int .i64) w v m
theorem kGtm : Tryz.prog.underlying 55 = some (.map 33 3) := by simp
theorem kGit {w : World} {b1 : Nat} {v : Value} {m : KGML} (v1 : Var w b1 v) (hm : KGMV w v m) :
    Iter Tryz.prog (.func (.func 43) #[] #[ptr b1]) (fun x => [.int .u32 x]) (fun xs => xs.Perm (m.map (·.1))) (fun pre => pre.length ≤ m.length) (fun k => k = b1 ∨ v = .map (some k)) w := by
  intro y C0 J Jx W hA hcap hC0 hJ hJx hy h0
  have k1 := hcap b1 (.inl rfl)
  have k2 := fun r e => hcap r (.inr e)
  have v1W := v1.agr hA k1.1
  have hmW : KGMV W v m := hm.agr hA fun r e => hm.lt e
  refine FN_enter Tryz.func43 rfl rfl (by kernel_rfl) ?_
  obtain ⟨o, hr, hi⟩ := hmW.range (P := Tryz.prog) kGtm
  simp [v1W.cell, hr]
  have hE := (Ext.refl W).alloc o
  have h0' := hJ C0 [] W (W.alloc o) h0 hE.agr
  obtain ⟨ib, hib⟩ : ∃ ib, ib = W.heap.size := ⟨_, rfl⟩
  have hsz : (W.alloc o).heap.size = ib + 1 := by rw [hib]; simp
  rw [← hib] at hi ⊢
  generalize (W.alloc o) = w1 at *
  refine WC_loop (fun k ρ ds w' => ∃ (idxs : List Nat) (C : Nat → Prop), k + idxs.length = m.length ∧ ρ 0 = y ∧ ρ 5 = ptr ib ∧ ds = [] ∧ VIter (Value.int .u32) (Value.int .i64) w' ib v m idxs ∧ J C ((seenOf m idxs).map (·.1)) w' ∧
    (∀ k, C k → C0 k ∨ ib < k) ∧ Agr (fun k => k < W.heap.size ∧ ¬ C0 k) W w') m.length ⟨[], C0, by simp, by simp, by simp, rfl, hi, h0', fun k h => .inl h, hE.agr⟩ ?_
  rintro k ρ ds w2 ⟨idxs, C, hk, e0, e5, rfl, hI, hj, hC, hAg⟩
  have hCi : ¬ C ib := fun h => by
    rcases hC _ h with h | h
    · have := hC0 _ h; omega
    · omega
  have hCr : ∀ r, v = .map (some r) → ¬ C r := fun r e h => by
    have h3 := hm.lt e
    have h4 := hA.size
    rcases hC _ h with h | h
    · exact (k2 r e).2 h
    · omega
  rcases hI.next (P := Tryz.prog) 0 with ⟨hp, hrun⟩ | ⟨i, p, w3, hpi, hni, hrun, hI3, hM3, hent, hs3⟩
  · simp [e5, hrun]
    exact ⟨C, .inl ⟨_, (seenOf_all hp).map _, hj⟩⟩
  · have hj3 : J C ((seenOf m idxs).map (·.1)) w3 := hJ _ _ _ _ hj (hM3.agr fun j hq e => by
      subst e
      rcases hq with hq | hq
      · omega
      · exact hCi hq)
    have hb3 := hI3.bound
    simp only [List.length_append, List.length_singleton] at hb3
    have hsp : ((seenOf m idxs).map (·.1) ++ [p.1]).length ≤ m.length := by
      have := seenOf_len m idxs
      simp; omega
    simp [e0, e5, hrun, hent]
    refine CV.mono (hy C _ p.1 w3 hsp hj3) ?_
    rintro _ w4 (⟨rfl, C', hj', hown⟩ | ⟨rfl, C', hj', hown⟩)
    · simp [e0, e5]
      have hM4 := hown.mod
      refine ⟨k - 1, by omega, idxs ++ [i], by simp; omega, hI3.mod hM4 hCr hCi, C', ?_, ?_, ?_⟩
      · rw [seenOf_snoc hpi, List.map_append]; exact hj'
      · intro k' hk'
        rcases hown.own k' hk' with h | h
        · exact hC k' h
        · have := hI3.lt.2; exact .inr (by omega)
      · refine hAg.trans ((hM3.agr fun i hi e => by subst e; omega).trans (hM4.agr fun i hi hc => ?_))
        rcases hC i hc with h | h
        · exact hi.2 h
        · omega
    · simp
      exact ⟨C', .inr ⟨_, hsp, hj'⟩⟩
theorem kGappendSeq_c {w : World} {gf : FuncId} {first caps : Array Value} {S Sp : List Int → Prop} {Cap : Nat → Prop} (hit : Iter Tryz.prog (.func (.func gf) first caps) (fun x => [.int .u32 x]) S Sp Cap w) (hent : ∀ l w, (callFunc gf l).run Tryz.prog w = .ok (.enter gf l) w)
    (hcap : ∀ k, Cap k → k < w.heap.size) (hb : ∀ xs, Sp xs → xs.length ≤ 1048576) :
    FN Tryz.prog 56 [.slice none 0 0, .func (.func gf) first caps] w fun e w' => ∃ xs v, S xs ∧ e = .returned v ∧ w'.ownsRow w.heap.size 33 1 v xs.length (xs.map (.int .u32)) ∧ Ext w w' := by
  refine FN_enter Tryz.func56 rfl rfl (by kernel_rfl) ?_
  simp
  have v1 := Var.new w (.slice none 0 0) 26
  have he := (Ext.refl w).alloc (.cells #[.slice none 0 0] 26)
  have hsz : (w.alloc (.cells #[.slice none 0 0] 26)).heap.size = w.heap.size + 1 := by simp
  generalize (w.alloc (.cells #[.slice none 0 0] 26)) = w1 at *
  refine WC_rangeFunc (gf := gf) (first := first) (caps := caps) (enc := fun x => [.int .u32 x]) (S := S) (Sp := Sp) (Cap := Cap) rfl hent (hit.ext he hcap) (by simp) (fun k => k = w.heap.size)
    (fun C pre W => ∃ v, Var W w.heap.size v ∧ W.ownsRow (w.heap.size + 1) 33 1 v pre.length (pre.map (.int .u32)) ∧ (∀ k, C k ↔ k = w.heap.size ∨ (slN v = false ∧ k = slB v)) ∧ Ext w W) (fun _ _ _ _ => False)
    (fun k hk => ⟨by have := hcap k hk; omega, by have := hcap k hk; omega⟩) (fun k hk => by omega) ?_ (fun _ _ _ _ _ h _ => h.elim) ⟨_, v1, World.ownsRow_nil _ _ _ _, by simp [slN], he⟩ ?ρ ?ha ?_ ?_ (fun _ _ _ _ _ h _ => h.elim)
  case ha =>
    intro l x W
    simp
    exact rfl
  · rintro C pre W W' ⟨v, h1, h2, h3, h4⟩ hag
    refine ⟨v, h1.agr hag (.inl (by omega)), own_keep h2 fun hn hl => hag.blk _ hl (.inr ((h3 _).2 (.inr ⟨hn, rfl⟩))), h3, ?_⟩
    exact ⟨hag.os.trans h4.os, hag.tape.trans h4.tape, hag.out.trans h4.out, Nat.le_trans h4.size hag.size, fun i hi => (hag.blk i (Nat.lt_of_lt_of_le hi h4.size) (.inl (by omega))).trans (h4.blk i hi)⟩
  · rintro l C pre x W hsp ⟨v, h1, h2, h3, h4⟩ - - -
    simp [h1.cell]
    have e1 := (Ext.refl W).alloc (.cells #[.int .u32 x] 33)
    have h1' := h1.ext e1
    have h2' := own_ext h2 e1
    have hlen := hb _ hsp
    rw [List.length_append, List.length_singleton] at hlen
    obtain ⟨v', W2, hr, ho, hm, hnew⟩ := append_own (P := Tryz.prog) (t := 26) (ty := 26) (e := 33) (s := 1) (by simp) (by simp) (by kernel_rfl) h2' (Sl.one W (.int .u32 x) 33) (by intro u hu; rw [List.mem_singleton] at hu; subst hu; rfl) hlen (by have := h1'.lt; omega)
    simp [hr]
    have g1 := h1'.mod hm (fun h => by have := own_ge h2' h.1; omega)
    obtain ⟨a', c', rfl⟩ := own_val ho
    simp [g1.cell, g1.thaw]
    have hM := Mod.setCell (S := fun k => k = w.heap.size) (Mod.refl _ W2) ⟨w.heap.size, 0, none⟩ (.slice a' (pre.length + 1) c') (.inl rfl)
    have hCge : ∀ i, C i → w.heap.size ≤ i := fun i hi => by
      rcases (h3 i).1 hi with h | ⟨h, h'⟩
      · omega
      · have := own_ge h2 h; omega
    have hm' : Pk.Mod C W W2 := e1.mod.trans' hm (S := C) (fun i hi => .inl ((h3 i).2 (.inr hi)))
    have hx : Ext w W2 := ((h4.mod (S := fun k => w.heap.size ≤ k)).trans (hm'.weaken hCge)).ext (fun _ h => h)
    refine ⟨fun k => k = w.heap.size ∨ (slN (.slice a' (pre.length + 1) c') = false ∧ k = slB (.slice a' (pre.length + 1) c')), ⟨_, g1.set _, own_keep ho ?_, fun k => Iff.rfl, ?_⟩, ?_, ?_⟩
    · intro hn hl
      refine hM.blk _ hl ?_
      have := own_ge ho hn
      omega
    · exact hx.setCell _ _ (Nat.le_refl _)
    · exact hm'.trans (hM.weaken fun i hi => (h3 i).2 (.inl hi))
    · rintro k (h | ⟨h, rfl⟩)
      · exact .inl ((h3 k).2 (.inl h))
      · rcases hnew h with ⟨h5, h6⟩ | h5
        · exact .inl ((h3 _).2 (.inr ⟨h5, h6⟩))
        · have := e1.size; exact .inr (by omega)
  · rintro C xs W hS ⟨v, h1, h2, h3, h4⟩ hD
    simp [h1.cell]
    refine LV_mark hD (by simp) ?_
    simp
    refine ⟨xs, hS, own_keep (own_lower h2 (Nat.le_succ _)) fun hn hl => World.putObj_heap_other ?_, h4.putObj _ _ (by omega)⟩
    intro e
    obtain ⟨c, hc⟩ := own_obj h2 hn
    rw [e, hD] at hc
    cases hc
theorem kGcollect_c {w : World} {gf : FuncId} {first caps : Array Value} {S Sp : List Int → Prop} {Cap : Nat → Prop} (hit : Iter Tryz.prog (.func (.func gf) first caps) (fun x => [.int .u32 x]) S Sp Cap w) (hent : ∀ l w, (callFunc gf l).run Tryz.prog w = .ok (.enter gf l) w)
    (hcap : ∀ k, Cap k → k < w.heap.size) (hb : ∀ xs, Sp xs → xs.length ≤ 1048576) :
    FN Tryz.prog 41 [.func (.func gf) first caps] w fun e w' => ∃ xs v, S xs ∧ e = .returned v ∧ w'.ownsRow w.heap.size 33 1 v xs.length (xs.map (.int .u32)) ∧ Ext w w' := by
  refine FN_enter Tryz.func41 rfl rfl (by kernel_rfl) ?_
  simp
  refine FN.mono (kGappendSeq_c hit hent hcap hb) ?_
  rintro _ w1 ⟨xs, v, h1, rfl, h2, h3⟩
  simp
  exact ⟨xs, h1, h2, h3⟩
theorem kGkeys_c {w : World} (o : Option Nat) : FN Tryz.prog 19 [.map o] w fun e w' => e = .returned (.func (.func 43) #[] #[ptr w.heap.size]) ∧ w' = w.alloc (.cells #[.map o] 55) := by
  refine FN_enter Tryz.func19 rfl rfl (by kernel_rfl) ?_
  simp
def kGisKeys (m : KGML) (ys : List Int) : Prop := ys.Perm (m.map (·.1)) ∧ ys.Pairwise (· ≤ ·)
theorem kGuniq {m : KGML} {a b : List Int} (h : kGisKeys m a) (h' : kGisKeys m b) : a = b :=
  List.Perm.eq_of_pairwise (fun _ _ _ _ h1 h2 => Int.le_antisymm h1 h2) h.2 h'.2 (h.1.trans h'.1.symm)
theorem kGex (m : KGML) : ∃ ys, kGisKeys m ys := by
  refine ⟨(m.map (·.1)).mergeSort (fun a b => decide (a ≤ b)), List.mergeSort_perm _ _, ?_⟩
  have := List.pairwise_mergeSort (le := fun a b : Int => decide (a ≤ b)) (fun a b c => by simp; omega) (fun a b => by simp; omega) (m.map (·.1))
  exact this.imp fun h => by simpa using h
theorem kGsorted_c {w : World} {b1 : Nat} {v : Value} {m : KGML} (v1 : Var w b1 v) (hm : KGMV w v m) (hl : m.length ≤ 255) :
    FN Tryz.prog 18 [.func (.func 43) #[] #[ptr b1]] w fun e w' => ∃ u ys, e = .returned u ∧ kGisKeys m ys ∧ Sl w' 1 u ys.length (ys.map (.int .u32)) ∧ Ext w w' ∧ (slN u = false → w.heap.size ≤ slB u) := by
  refine FN_enter Tryz.func18 rfl rfl (by kernel_rfl) ?_
  simp
  have hcap : ∀ k, (k = b1 ∨ v = .map (some k)) → k < w.heap.size := fun k hk => by
    rcases hk with rfl | hk
    · exact v1.lt
    · exact hm.lt hk
  refine FN.mono (kGcollect_c (kGit v1 hm) (fun _ _ => callFunc_enter Tryz.func43 rfl rfl _ _) hcap (fun xs hx => by omega)) ?_
  rintro _ w1 ⟨xs, u, hp, rfl, ho, hE⟩
  simp
  have hxl : xs.length = m.length := by have := hp.length_eq; simpa using this
  refine FN.mono (Suint32.sorts (sl_of_own ho) (fun j hj => own_thaw ho (by omega) _) (by omega)) ?_
  rintro _ w4 ⟨⟨u', rfl⟩, ys, h1, h2, h3, h4⟩
  have hM4 : Ext w w4 := ((hE.mod (S := fun k => w.heap.size ≤ k)).trans (h4.weaken fun i hi => by have := own_ge ho hi.1; have := hi.2; omega)).ext fun _ h => h
  have hyl : ys.length = xs.length := h1.length_eq
  simp
  exact ⟨ys, ⟨h1.trans hp, h2⟩, h3, hM4, fun hn => own_ge ho hn⟩
/-- The entries by their keys, rising: the closure's iterator. -/
def kGseg {α : Type} (l : List α) (pre : List α) : Prop := pre ≠ [] ∧ ∃ suf, l = pre ++ suf
def kGval (m : KGML) (k : Int) : Value := ((mget m k).map (Value.int .i64)).getD (.int .i64 0)
def kGst (m : KGML) (k : Int) : List Value := [.int .u32 k, kGval m k]
/-- How many crossings each gate has. -/
def gM (l : List Cr) : List (Int × Int) := l.foldl (fun m c => mset m c.1 ((mget m c.1).getD 0 + 1)) []
theorem gM_snoc (l : List Cr) (c : Cr) : gM (l ++ [c]) = mset (gM l) c.1 ((mget (gM l) c.1).getD 0 + 1) := by unfold gM; rw [List.foldl_append]; rfl
def gN (l : List Cr) (g : Int) : Nat := (l.filter fun c => decide (c.1 = g)).length
theorem gN_snoc (l : List Cr) (c : Cr) (g : Int) : gN (l ++ [c]) g = gN l g + if c.1 = g then 1 else 0 := by
  unfold gN
  rw [List.filter_append, List.length_append]
  by_cases h : c.1 = g <;> simp [h]
theorem gM_all (l : List Cr) : (∀ g, mget (gM l) g = if 0 < gN l g then some (gN l g : Int) else none) ∧ (gM l).length ≤ l.length := by
  have key : ∀ (n : Nat) (l : List Cr), l.length = n → (∀ g, mget (gM l) g = if 0 < gN l g then some (gN l g : Int) else none) ∧ (gM l).length ≤ l.length := by
    intro n
    induction n with
    | zero =>
      intro l hl
      have : l = [] := List.eq_nil_of_length_eq_zero hl
      subst this
      exact ⟨fun g => rfl, by simp [gM]⟩
    | succ n ih =>
      intro l hl
      obtain ⟨l', c, rfl⟩ : ∃ l' c, l = l' ++ [c] := by
        have hne : l ≠ [] := fun e => by rw [e] at hl; simp at hl
        exact ⟨l.dropLast, l.getLast hne, (List.dropLast_concat_getLast hne).symm⟩
      have hl' : l'.length = n := by simpa using hl
      obtain ⟨h1, h2⟩ := ih l' hl'
      rw [gM_snoc]
      refine ⟨fun g => ?_, ?_⟩
      · rw [gN_snoc, kget_mset]
        by_cases hg : g = c.1
        · subst hg
          rw [if_pos rfl, if_pos rfl, if_pos (by omega), h1]
          by_cases h0 : 0 < gN l' c.1
          · rw [if_pos h0]; simp
          · rw [if_neg h0]
            have : gN l' c.1 = 0 := by omega
            simp [this]
        · rw [if_neg hg, show (if c.1 = g then 1 else 0) = 0 from if_neg fun e => hg e.symm, h1, Nat.add_zero]
      · rw [kset_len]
        rw [List.length_append, List.length_singleton]
        split <;> omega
  exact key _ l rfl
theorem gM_d (l : List Cr) (g : Int) : (mget (gM l) g).getD 0 = gN l g := by
  rw [(gM_all l).1 g]
  split
  · rfl
  · have : gN l g = 0 := by omega
    rw [this]; rfl
theorem gN_le (l : List Cr) (g : Int) : gN l g ≤ l.length := List.length_filter_le _ _
theorem kU32 : KeyEq Tryz.prog 33 (Value.int .u32) := keyEq_int (by simp)
set_option maxHeartbeats 1000000 in
theorem gates_c {w : World} {v : Value} {l : List Cr} (h : CSl w v l) (back : Bool) (hb : l.length ≤ 9223372036854775807) :
    FN Tryz.prog 6 [ptV back v] w fun e w' => ∃ b r, e = .returned (.func (.func 16) #[] #[ptr b]) ∧ Var w' b (.map (some r)) ∧ MapAt (Value.int .u32) (Value.int .i64) w' r (gM l) ∧ Ext w w' ∧ w.heap.size ≤ b ∧ w.heap.size ≤ r ∧ r ≠ b := by
  refine FN_enter Tryz.func6 rfl rfl (by kernel_rfl) ?_
  have hlen := fun ty W => h.isLen (P := Tryz.prog) (t := 22) (by simp) ty W
  obtain ⟨va, vc, rfl⟩ := h.isSlice
  simp [hlen]
  have hE1 : Ext w (((w.alloc (.cells #[.bool back, .slice va l.length vc] 24)).alloc (.map #[] 0)).alloc (.cells #[.map (some (w.heap.size + 1))] 55)) := (((Ext.refl w).alloc _).alloc _).alloc _
  have m1 : MapAt (Value.int .u32) (Value.int .i64) (((w.alloc (.cells #[.bool back, .slice va l.length vc] 24)).alloc (.map #[] 0)).alloc (.cells #[.map (some (w.heap.size + 1))] 55)) (w.heap.size + 1) [] := by
    have := (MapAt.alloc0 (Value.int .u32) (Value.int .i64) (w.alloc (.cells #[.bool back, .slice va l.length vc] 24))).ext ((Ext.refl _).alloc (.cells #[.map (some (w.heap.size + 1))] 55))
    simpa using this
  have v1 : Var (((w.alloc (.cells #[.bool back, .slice va l.length vc] 24)).alloc (.map #[] 0)).alloc (.cells #[.map (some (w.heap.size + 1))] 55)) (w.heap.size + 1 + 1) (.map (some (w.heap.size + 1))) := by
    have := Var.new ((w.alloc (.cells #[.bool back, .slice va l.length vc] 24)).alloc (.map #[] 0)) (.map (some (w.heap.size + 1))) 55
    simpa using this
  have z1 : (((w.alloc (.cells #[.bool back, .slice va l.length vc] 24)).alloc (.map #[] 0)).alloc (.cells #[.map (some (w.heap.size + 1))] 55)).heap.size = w.heap.size + 1 + 1 + 1 := by simp
  obtain ⟨r, hr⟩ : ∃ r, r = w.heap.size + 1 := ⟨_, rfl⟩
  rw [← hr] at m1 z1 v1 hE1 ⊢
  generalize hw1 : (((w.alloc (.cells #[.bool back, .slice va l.length vc] 24)).alloc (.map #[] 0)).alloc (.cells #[.map (some r)] 55)) = w1 at *
  refine WC_loop (fun k ρ ds w' => ∃ i : Nat, k = l.length - i ∧ i ≤ l.length ∧ ρ 3 = ptr (r + 1) ∧ ρ 8 = .slice va l.length vc ∧ ρ 9 = i64 l.length ∧ ρ 10 = i64 i ∧ ds = [] ∧ Mod (fun k => k = r) w1 w' ∧ MapAt (Value.int .u32) (Value.int .i64) w' r (gM (l.take i))) l.length
    ⟨0, by simp, by simp, by simp, by simp, by simp, by simp, rfl, Mod.refl _ _, m1⟩ ?_
  rintro k ρ ds w2 ⟨i, rfl, hi, e3, e8, e9, e10, rfl, hM, hm⟩
  have hEw : Ext w w2 := ((hE1.mod (S := fun k => w.heap.size ≤ k)).trans (hM.weaken fun k hk => by omega)).ext fun _ h => h
  have v2 := v1.mod hM (by omega)
  by_cases hlt : i < l.length
  · have hq := List.getElem?_eq_getElem hlt
    have rr := CSl.row (SlB.ext h hEw) hq
    have ix := CSl.index h i hlt w2
    have hE3 := (Ext.refl w2).alloc (.cells #[u32 l[i].1, .bool l[i].2] 37)
    have hm3 := hm.ext hE3
    have v3 := v2.ext hE3
    have hlk := hm3.lookup (P := Tryz.prog) kU32 kGtm (z := i64 0) (by simp) l[i].1 false
    rw [if_neg (by simp)] at hlk
    have hgd : ((mget (gM (l.take i)) l[i].1).map (Value.int .i64)).getD (i64 0) = i64 (gN (l.take i) l[i].1) := by
      rw [← gM_d]
      cases mget (gM (l.take i)) l[i].1 <;> rfl
    rw [hgd] at hlk
    have hgl := gN_le (l.take i) l[i].1
    have hwr : IntKind.i64.wrap ((gN (l.take i) l[i].1 : Int) + 1) = (gN (l.take i) l[i].1 : Int) + 1 := by
      rw [List.length_take] at hgl
      exact wrap64 _ (by omega) (by omega)
    obtain ⟨w4, hru, hm4, hM4, hs4⟩ := hm3.update (P := Tryz.prog) kU32 kGtm l[i].1 ((gN (l.take i) l[i].1 : Int) + 1)
    simp [e3, e8, e9, e10, hlt, ix, rr.c0, rr.c1, v3.cell, hlk, hwr, hru]
    have htk : l.take (i + 1) = l.take i ++ [l[i]] := by rw [List.take_add_one, hq]; rfl
    exact ⟨l.length - (i + 1), by omega, i + 1, rfl, by omega, by rw [wrap64 _ (by omega) (by omega)]; rfl, (hM.trans hE3.mod).trans (hM4.weaken fun k hk => hk), by rw [htk, gM_snoc, gM_d]; exact hm4⟩
  · have : i = l.length := by omega
    subst this
    simp [e3, e9, e10]
    rw [List.take_length] at hm
    exact ⟨r, v2, hm, hEw, by omega, by omega, by omega⟩
theorem values_c {w : World} {a : Option Addr} {n c : Nat} : FN Tryz.prog 17 [.slice a n c] w fun e w' => e = .returned (.func (.func 40) #[] #[ptr w.heap.size]) ∧ w' = w.alloc (.cells #[.slice a n c] 26) := by
  refine FN_enter Tryz.func17 rfl rfl (by kernel_rfl) ?_
  simp
theorem values_it {w : World} {b : Nat} {v : Value} {ys : List Int} (v1 : Var w b v) (hs : Sl w 1 v ys.length (ys.map u32)) (hbd : ys.length ≤ 1000000) :
    Iter Tryz.prog (.func (.func 40) #[] #[ptr b]) (fun x : Int => [u32 x]) (· = ys) (kGseg ys) (fun k => k = b ∨ (0 < ys.length ∧ k = slB v)) w := by
  intro y C0 J Jx W hA hcap hC0 hJ hJx hyl h0
  have k1 := hcap b (.inl rfl)
  have v1W := v1.agr hA k1.1
  have hmW : Sl W 1 v ys.length (ys.map u32) := by
    by_cases hx : ys = []
    · subst hx
      exact ⟨hs.len, hs.val, fun _ _ h => by simp at h⟩
    · exact hs.agr hA (hs.lt (by simp; exact List.length_pos_iff.2 hx))
  have hsb : 0 < ys.length → slB v < W.heap.size ∧ ¬ C0 (slB v) := fun h => ⟨hmW.lt (by simpa using h), (hcap _ (.inr ⟨h, rfl⟩)).2⟩
  refine FN_enter Tryz.func40 rfl rfl (by kernel_rfl) ?_
  have hlen := fun ty W => hmW.isLen (P := Tryz.prog) (t := 26) (by simp) ty W
  simp [v1W.cell, hlen]
  refine WC_loop (fun k ρ ds w' => ∃ (i : Nat) (C : Nat → Prop), k = ys.length - i ∧ i ≤ ys.length ∧ ρ 0 = y ∧ ρ 5 = v ∧ ρ 6 = i64 ys.length ∧ ρ 7 = i64 i ∧ ds = [] ∧ J C (ys.take i) w' ∧
    (∀ k, C k → C0 k ∨ W.heap.size ≤ k) ∧ Agr (fun k => k < W.heap.size ∧ ¬ C0 k) W w') ys.length ⟨0, C0, by simp, by simp, by simp, by simp, by simp, by simp, rfl, h0, fun k h => .inl h, Agr.refl _ _⟩ ?_
  rintro k ρ ds w3 ⟨i, C, rfl, hi, e0, e5, e6, e7, rfl, hj, hC, hAg⟩
  by_cases hlt : i < ys.length
  · have hs3 : Sl w3 1 v ys.length (ys.map u32) := hmW.agr hAg (hsb (by omega))
    have c := hs3.at_ i (u32 ys[i]) (by simp [hlt])
    have ix := hs3.index (P := Tryz.prog) (t := 26) (by simp) .i64 i (by omega) (by omega) w3
    simp at ix
    have htk : ys.take (i + 1) = ys.take i ++ [ys[i]] := by rw [List.take_add_one, List.getElem?_eq_getElem hlt]; rfl
    have hsp : kGseg ys (ys.take i ++ [ys[i]]) := ⟨List.append_ne_nil_of_right_ne_nil _ (by simp), ys.drop (i + 1), by rw [← htk, List.take_append_drop]⟩
    simp [e0, e5, e6, e7, hlt, ix, c]
    refine CV.mono (hyl C (ys.take i) ys[i] w3 hsp hj) ?_
    rintro _ w4 (⟨rfl, C', hj', hown⟩ | ⟨rfl, C', hj', hown⟩)
    · have hAg' : Agr (fun k => k < W.heap.size ∧ ¬ C0 k) w3 w4 := hown.mod.agr (fun k hk hc => by rcases hC k hc with h | h; exact hk.2 h; omega)
      simp [e0, e5, e6, e7]
      refine ⟨ys.length - (i + 1), by omega, i + 1, rfl, by omega, by rw [wrap64 _ (by omega) (by omega)]; rfl, C', by rw [htk]; exact hj', ?_, hAg.trans hAg'⟩
      intro k hk
      rcases hown.own k hk with h | h
      · exact hC k h
      · have := hAg.size; exact .inr (by omega)
    · simp
      exact ⟨C', .inr ⟨_, hsp, hj'⟩⟩
  · simp [e6, e7, hlt]
    have : i = ys.length := by omega
    rw [this, List.take_length] at hj
    exact ⟨C, .inl hj⟩
theorem CV_isFunc {P : Program} {v : Value} {args : List Value} {w : World} {R : Ending → World → Prop} (h : CV P v args w R) : ∃ c f s, v = .func c f s := by
  unfold CV at h
  split at h
  · exact ⟨_, _, _, rfl⟩
  · exact ⟨_, _, _, rfl⟩
  · exact h.elim
set_option maxHeartbeats 1000000 in
theorem gates_it {w : World} {b r : Nat} {m : List (Int × Int)} {ys : List Int} (v1 : Var w b (.map (some r))) (hm : MapAt (Value.int .u32) (Value.int .i64) w r m) (hl : m.length ≤ 255) (hy : kGisKeys m ys) :
    Iter Tryz.prog (.func (.func 16) #[] #[ptr b]) (kGst m) (· = ys) (kGseg ys) (fun k => k = b ∨ k = r) w := by
  intro y C0 J Jx W hA hcap hC0 hJ hJx hyl h0
  have k1 := hcap b (.inl rfl)
  have k2 := hcap r (.inr rfl)
  have v1W := v1.agr hA k1.1
  have hmW : MapAt (Value.int .u32) (Value.int .i64) W r m := hm.keep (hA.blk r hm.lt k2.1)
  refine FN_enter Tryz.func16 rfl rfl (by kernel_rfl) ?_
  simp
  generalize hw0 : (W.alloc _) = w0
  have hE0 : Ext W w0 := hw0 ▸ (Ext.refl W).alloc _
  have vy : ∀ c f s, y = .func c f s → Var w0 W.heap.size y := by
    rintro c f s rfl
    rw [← hw0]
    exact Var.new W _ 56
  have z0 : w0.heap.size = W.heap.size + 1 := by rw [← hw0]; simp
  refine WC_scope 0 _ rfl ?_
  simp [(v1W.ext hE0).cell]
  refine FN.mono (kGkeys_c (w := w0) (some r)) ?_
  rintro _ w1 ⟨rfl, hw1⟩
  simp
  have hE1 : Ext w0 w1 := hw1 ▸ (Ext.refl w0).alloc _
  have vk : Var w1 w0.heap.size (.map (some r)) := by rw [hw1]; exact Var.new w0 _ 55
  refine FN.mono (kGsorted_c vk ((hmW.ext (hE0.trans hE1)).val) hl) ?_
  rintro _ w2 ⟨u, ys', rfl, hy', hs, hE2, hfr⟩
  have := kGuniq hy hy'
  subst this
  have hyb : ys.length ≤ 255 := by have := hy.1.length_eq; simp at this; omega
  have hfr' : 0 < ys.length → w0.heap.size ≤ slB u ∧ slB u < w2.heap.size := fun h => by
    have h1 := hs.lt (by simpa using h)
    have h2 := hs.blk
    refine ⟨?_, h1⟩
    have := hE1.size
    rcases h2 with h2 | ⟨b', o', c', rfl, _⟩
    · omega
    · have := hfr rfl; omega
  obtain ⟨ua, uc, rfl⟩ : ∃ ua uc, u = .slice ua ys.length uc := by
    rcases hs.val with ⟨c, h1, h2⟩ | ⟨b', o', c', h1, _⟩
    · exact ⟨_, _, by rw [h1, h2]⟩
    · exact ⟨_, _, h1⟩
  simp
  refine FN.mono (values_c (w := w2) (a := ua) (n := ys.length) (c := uc)) ?_
  rintro _ w3 ⟨rfl, hw3⟩
  simp
  have hE3 : Ext w2 w3 := hw3 ▸ (Ext.refl w2).alloc _
  have vv : Var w3 w2.heap.size (.slice ua ys.length uc) := by rw [hw3]; exact Var.new w2 _ 26
  have hE13 := (hE1.trans hE2).trans hE3
  have hE03 := hE0.trans hE13
  have h03 := hJ C0 [] W w3 h0 hE03.agr
  have z3 := hE13.size
  have z03 := hE03.size
  have z23 := vv.lt
  have z02 := (hE1.trans hE2).size
  refine WC_rangeFunc (gf := 40) (first := #[]) (caps := #[ptr w2.heap.size]) (enc := fun x : Int => [u32 x]) (by simp) (fun _ _ => callFunc_enter Tryz.func40 rfl rfl _ _) (values_it vv (hs.ext hE3) (by omega)) (fun x => rfl) C0
    (fun C pre W' => J C pre W' ∧ (∀ k, C k → C0 k ∨ w3.heap.size < k) ∧ Agr (fun k => k < w3.heap.size ∧ ¬ C0 k) w3 W')
    (fun c C pre W' => c = .exit 0 ∧ ¬ C w3.heap.size ∧ Jx C pre W') (fun k hk => ?_) (fun k hk => ?_) ?_ ?_ ⟨h03, fun k h => .inl h, Agr.refl _ _⟩ ?ρ ?ha ?_ ?_ ?_
  case ha =>
    intro l x W
    simp
    exact rfl
  · rcases hk with rfl | ⟨h1, rfl⟩
    · exact ⟨z23, fun h => by have := hC0 _ h; have := hE0.size; omega⟩
    · have := hfr' h1
      exact ⟨by have := hE3.size; omega, fun h => by have := hC0 _ h; omega⟩
  · have := hC0 k hk; omega
  · rintro C pre Wa Wb ⟨h1, h2, h3⟩ hag
    exact ⟨hJ _ _ _ _ h1 (hag.weaken fun i hi => hi.imp (fun h => by omega) id), h2, h3.trans (hag.weaken fun i hi => .inl hi.1)⟩
  · rintro c C pre Wa Wb ⟨h1, hn, h2⟩ hag
    exact ⟨h1, hn, hJx _ _ _ _ h2 (hag.weaken fun i hi => hi.imp (fun h => by omega) id)⟩
  · rintro l C pre x W' hsp ⟨h1, h2, h3⟩ hl1 hl2 -
    have hyl' := hyl C pre x W' hsp h1
    obtain ⟨yc, yf, ys', hyf⟩ := CV_isFunc hyl'
    have hby : Var W' W.heap.size y := ((vy _ _ _ hyf).ext hE13).agr h3 ⟨by omega, fun h => by have := hC0 _ h; omega⟩
    have hbb : Var W' b (.map (some r)) := (v1W.ext hE03).agr h3 ⟨(v1W.ext hE03).lt, k1.2⟩
    have hmm : MapAt (Value.int .u32) (Value.int .i64) W' r m := (hmW.ext hE03).keep (h3.blk r (hmW.ext hE03).lt ⟨(hmW.ext hE03).lt, k2.2⟩)
    have hlk := hmm.lookup (P := Tryz.prog) kU32 kGtm (z := i64 0) (by simp) x false
    rw [if_neg (by simp)] at hlk
    rw [show ((mget m x).map (Value.int .i64)).getD (i64 0) = kGval m x from rfl] at hlk
    simp [hby.cell, hbb.cell, hlk]
    refine CV.mono hyl' ?_
    rintro _ w4 (⟨rfl, C', hj', hown⟩ | ⟨rfl, C', hj', hown⟩)
    · simp
      refine ⟨C', ⟨hj', fun k hk => ?_, h3.trans (hown.mod.agr fun k hk hc => ?_)⟩, hown⟩
      · rcases hown.own k hk with h | h
        · exact h2 k h
        · exact .inr (by omega)
      · rcases h2 k hc with h | h
        · exact hk.2 h
        · omega
    · simp
      refine ⟨C', ⟨fun h => ?_, hj'⟩, hown⟩
      rcases hown.own _ h with h | h
      · rcases h2 _ h with h | h
        · have := hC0 _ h; omega
        · omega
      · omega
  · rintro C xs W' rfl ⟨h1, h2, -⟩ hD
    simp
    refine LV_mark hD (by simp) ?_
    simp
    refine ⟨C, .inl (hJ _ _ _ _ h1 (Agr.putObj _ fun h => ?_))⟩
    rcases h with h | h
    · omega
    · rcases h2 _ h with h | h
      · have := hC0 _ h; omega
      · omega
  · rintro c C pre W' hsp ⟨rfl, hn, h1⟩ hD
    simp
    refine LV_mark hD (by simp) ?_
    simp
    exact ⟨C, .inr ⟨_, hsp, hJx _ _ _ _ h1 (Agr.putObj _ fun h => h.elim (fun h => by omega) hn)⟩⟩
end Go.Proofs
