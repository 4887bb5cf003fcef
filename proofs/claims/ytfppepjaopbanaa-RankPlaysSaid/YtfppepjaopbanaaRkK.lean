/-
  Contracts of the functions that the law reaches, step by step.
-/
import Derived.Test.YtfppepjaopbanaaRkF
import Derived.Test.YtfppepjaopbanaaSrtF
namespace Go.Proofs
open Pk
set_option maxRecDepth 10000
/-! ### Keys of uint32, sorted -/
abbrev KNML := List (Int × Int)
abbrev KNMV (w : World) (v : Value) (m : KNML) := MapV (Value.int .u32) (Value.int .i64) w v m
theorem kNtm : Try.prog.underlying 103 = some (.map 23 3) := by simp
theorem kNit {w : World} {b1 : Nat} {v : Value} {m : KNML} (v1 : Var w b1 v) (hm : KNMV w v m) :
    Iter Try.prog (.func (.func 70) #[] #[ptr b1]) (fun x => [.int .u32 x]) (fun xs => xs.Perm (m.map (·.1))) (fun pre => pre.length ≤ m.length) (fun k => k = b1 ∨ v = .map (some k)) w := by
  intro y C0 J Jx W hA hcap hC0 hJ hJx hy h0
  have k1 := hcap b1 (.inl rfl)
  have k2 := fun r e => hcap r (.inr e)
  have v1W := v1.agr hA k1.1
  have hmW : KNMV W v m := hm.agr hA fun r e => hm.lt e
  refine FN_enter Try.func70 rfl rfl (by kernel_rfl) ?_
  obtain ⟨o, hr, hi⟩ := hmW.range (P := Try.prog) kNtm
  simp [v1W.cell, hr]
  have hE := (Ext.refl W).alloc o
  have h0' := hJ C0 [] W (W.alloc o) h0 hE.agr
  obtain ⟨ib, hib⟩ : ∃ ib, ib = W.heap.size := ⟨_, rfl⟩
  have hsz : (W.alloc o).heap.size = ib + 1 := by rw [hib]; simp
  rw [← hib] at hi ⊢
  generalize (W.alloc o) = w1 at *
  refine WC_loop (fun k ρ ds w' => ∃ (idxs : List Nat) (C : Nat → Prop), k + idxs.length = m.length ∧ ρ 0 = y ∧ ρ 5 = ptr ib ∧ ds = [] ∧ VIter (Value.int .u32) (Value.int .i64) w' ib v m idxs ∧ J C ((seenOf m idxs).map (·.1)) w' ∧
    (∀ k, C k → C0 k ∨ ib < k) ∧ Agr (fun k => k < W.heap.size ∧ ¬ C0 k) W w') m.length ⟨[], C0, by simp, by simp, by simp, rfl, hi, h0', fun k h => .inl h, hE.agr⟩ ?_
  rintro k ρ ds w2 ⟨idxs, C, hk, e0, e5, rfl, hI, hj, hC, hAg⟩
  have hCi : ¬ C ib := fun h => by
    rcases hC _ h with h | h
    · have := hC0 _ h; omega
    · omega
  have hCr : ∀ r, v = .map (some r) → ¬ C r := fun r e h => by
    have h3 := hm.lt e
    have h4 := hA.size
    rcases hC _ h with h | h
    · exact (k2 r e).2 h
    · omega
  rcases hI.next (P := Try.prog) 0 with ⟨hp, hrun⟩ | ⟨i, p, w3, hpi, hni, hrun, hI3, hM3, hent, hs3⟩
  · simp [e5, hrun]
    exact ⟨C, .inl ⟨_, (seenOf_all hp).map _, hj⟩⟩
  · have hj3 : J C ((seenOf m idxs).map (·.1)) w3 := hJ _ _ _ _ hj (hM3.agr fun j hq e => by
      subst e
      rcases hq with hq | hq
      · omega
      · exact hCi hq)
    have hb3 := hI3.bound
    simp only [List.length_append, List.length_singleton] at hb3
    have hsp : ((seenOf m idxs).map (·.1) ++ [p.1]).length ≤ m.length := by
      have := seenOf_len m idxs
      simp; omega
    simp [e0, e5, hrun, hent]
    refine CV.mono (hy C _ p.1 w3 hsp hj3) ?_
    rintro _ w4 (⟨rfl, C', hj', hown⟩ | ⟨rfl, C', hj', hown⟩)
    · simp [e0, e5]
      have hM4 := hown.mod
      refine ⟨k - 1, by omega, idxs ++ [i], by simp; omega, hI3.mod hM4 hCr hCi, C', ?_, ?_, ?_⟩
      · rw [seenOf_snoc hpi, List.map_append]; exact hj'
      · intro k' hk'
        rcases hown.own k' hk' with h | h
        · exact hC k' h
        · have := hI3.lt.2; exact .inr (by omega)
      · refine hAg.trans ((hM3.agr fun i hi e => by subst e; omega).trans (hM4.agr fun i hi hc => ?_))
        rcases hC i hc with h | h
        · exact hi.2 h
        · omega
    · simp
      exact ⟨C', .inr ⟨_, hsp, hj'⟩⟩
theorem kNappendSeq_c {w : World} {gf : FuncId} {first caps : Array Value} {S Sp : List Int → Prop} {Cap : Nat → Prop} (hit : Iter Try.prog (.func (.func gf) first caps) (fun x => [.int .u32 x]) S Sp Cap w) (hent : ∀ l w, (callFunc gf l).run Try.prog w = .ok (.enter gf l) w)
    (hcap : ∀ k, Cap k → k < w.heap.size) (hb : ∀ xs, Sp xs → xs.length ≤ 1048576) :
    FN Try.prog 71 [.slice none 0 0, .func (.func gf) first caps] w fun e w' => ∃ xs v, S xs ∧ e = .returned v ∧ w'.ownsRow w.heap.size 23 1 v xs.length (xs.map (.int .u32)) ∧ Ext w w' := by
  refine FN_enter Try.func71 rfl rfl (by kernel_rfl) ?_
  simp
  have v1 := Var.new w (.slice none 0 0) 98
  have he := (Ext.refl w).alloc (.cells #[.slice none 0 0] 98)
  have hsz : (w.alloc (.cells #[.slice none 0 0] 98)).heap.size = w.heap.size + 1 := by simp
  generalize (w.alloc (.cells #[.slice none 0 0] 98)) = w1 at *
  refine WC_rangeFunc (gf := gf) (first := first) (caps := caps) (enc := fun x => [.int .u32 x]) (S := S) (Sp := Sp) (Cap := Cap) rfl hent (hit.ext he hcap) (by simp) (fun k => k = w.heap.size)
    (fun C pre W => ∃ v, Var W w.heap.size v ∧ W.ownsRow (w.heap.size + 1) 23 1 v pre.length (pre.map (.int .u32)) ∧ (∀ k, C k ↔ k = w.heap.size ∨ (slN v = false ∧ k = slB v)) ∧ Ext w W) (fun _ _ _ _ => False)
    (fun k hk => ⟨by have := hcap k hk; omega, by have := hcap k hk; omega⟩) (fun k hk => by omega) ?_ (fun _ _ _ _ _ h _ => h.elim) ⟨_, v1, World.ownsRow_nil _ _ _ _, by simp [slN], he⟩ ?ρ ?ha ?_ ?_ (fun _ _ _ _ _ h _ => h.elim)
  case ha =>
    intro l x W
    simp
    exact rfl
  · rintro C pre W W' ⟨v, h1, h2, h3, h4⟩ hag
    refine ⟨v, h1.agr hag (.inl (by omega)), own_keep h2 fun hn hl => hag.blk _ hl (.inr ((h3 _).2 (.inr ⟨hn, rfl⟩))), h3, ?_⟩
    exact ⟨hag.os.trans h4.os, hag.tape.trans h4.tape, hag.out.trans h4.out, Nat.le_trans h4.size hag.size, fun i hi => (hag.blk i (Nat.lt_of_lt_of_le hi h4.size) (.inl (by omega))).trans (h4.blk i hi)⟩
  · rintro l C pre x W hsp ⟨v, h1, h2, h3, h4⟩ - - -
    simp [h1.cell]
    have e1 := (Ext.refl W).alloc (.cells #[.int .u32 x] 23)
    have h1' := h1.ext e1
    have h2' := own_ext h2 e1
    have hlen := hb _ hsp
    rw [List.length_append, List.length_singleton] at hlen
    obtain ⟨v', W2, hr, ho, hm, hnew⟩ := append_own (P := Try.prog) (t := 98) (ty := 98) (e := 23) (s := 1) (by simp) (by simp) (by kernel_rfl) h2' (Sl.one W (.int .u32 x) 23) (by intro u hu; rw [List.mem_singleton] at hu; subst hu; rfl) hlen (by have := h1'.lt; omega)
    simp [hr]
    have g1 := h1'.mod hm (fun h => by have := own_ge h2' h.1; omega)
    obtain ⟨a', c', rfl⟩ := own_val ho
    simp [g1.cell, g1.thaw]
    have hM := Mod.setCell (S := fun k => k = w.heap.size) (Mod.refl _ W2) ⟨w.heap.size, 0, none⟩ (.slice a' (pre.length + 1) c') (.inl rfl)
    have hCge : ∀ i, C i → w.heap.size ≤ i := fun i hi => by
      rcases (h3 i).1 hi with h | ⟨h, h'⟩
      · omega
      · have := own_ge h2 h; omega
    have hm' : Pk.Mod C W W2 := e1.mod.trans' hm (S := C) (fun i hi => .inl ((h3 i).2 (.inr hi)))
    have hx : Ext w W2 := ((h4.mod (S := fun k => w.heap.size ≤ k)).trans (hm'.weaken hCge)).ext (fun _ h => h)
    refine ⟨fun k => k = w.heap.size ∨ (slN (.slice a' (pre.length + 1) c') = false ∧ k = slB (.slice a' (pre.length + 1) c')), ⟨_, g1.set _, own_keep ho ?_, fun k => Iff.rfl, ?_⟩, ?_, ?_⟩
    · intro hn hl
      refine hM.blk _ hl ?_
      have := own_ge ho hn
      omega
    · exact hx.setCell _ _ (Nat.le_refl _)
    · exact hm'.trans (hM.weaken fun i hi => (h3 i).2 (.inl hi))
    · rintro k (h | ⟨h, rfl⟩)
      · exact .inl ((h3 k).2 (.inl h))
      · rcases hnew h with ⟨h5, h6⟩ | h5
        · exact .inl ((h3 _).2 (.inr ⟨h5, h6⟩))
        · have := e1.size; exact .inr (by omega)
  · rintro C xs W hS ⟨v, h1, h2, h3, h4⟩ hD
    simp [h1.cell]
    refine LV_mark hD (by simp) ?_
    simp
    refine ⟨xs, hS, own_keep (own_lower h2 (Nat.le_succ _)) fun hn hl => World.putObj_heap_other ?_, h4.putObj _ _ (by omega)⟩
    intro e
    obtain ⟨c, hc⟩ := own_obj h2 hn
    rw [e, hD] at hc
    cases hc
theorem kNcollect_c {w : World} {gf : FuncId} {first caps : Array Value} {S Sp : List Int → Prop} {Cap : Nat → Prop} (hit : Iter Try.prog (.func (.func gf) first caps) (fun x => [.int .u32 x]) S Sp Cap w) (hent : ∀ l w, (callFunc gf l).run Try.prog w = .ok (.enter gf l) w)
    (hcap : ∀ k, Cap k → k < w.heap.size) (hb : ∀ xs, Sp xs → xs.length ≤ 1048576) :
    FN Try.prog 68 [.func (.func gf) first caps] w fun e w' => ∃ xs v, S xs ∧ e = .returned v ∧ w'.ownsRow w.heap.size 23 1 v xs.length (xs.map (.int .u32)) ∧ Ext w w' := by
  refine FN_enter Try.func68 rfl rfl (by kernel_rfl) ?_
  simp
  refine FN.mono (kNappendSeq_c hit hent hcap hb) ?_
  rintro _ w1 ⟨xs, v, h1, rfl, h2, h3⟩
  simp
  exact ⟨xs, h1, h2, h3⟩
theorem kNkeys_c {w : World} (o : Option Nat) : FN Try.prog 53 [.map o] w fun e w' => e = .returned (.func (.func 70) #[] #[ptr w.heap.size]) ∧ w' = w.alloc (.cells #[.map o] 103) := by
  refine FN_enter Try.func53 rfl rfl (by kernel_rfl) ?_
  simp
def kNisKeys (m : KNML) (ys : List Int) : Prop := ys.Perm (m.map (·.1)) ∧ ys.Pairwise (· ≤ ·)
theorem kNuniq {m : KNML} {a b : List Int} (h : kNisKeys m a) (h' : kNisKeys m b) : a = b :=
  List.Perm.eq_of_pairwise (fun _ _ _ _ h1 h2 => Int.le_antisymm h1 h2) h.2 h'.2 (h.1.trans h'.1.symm)
theorem kNex (m : KNML) : ∃ ys, kNisKeys m ys := by
  refine ⟨(m.map (·.1)).mergeSort (fun a b => decide (a ≤ b)), List.mergeSort_perm _ _, ?_⟩
  have := List.pairwise_mergeSort (le := fun a b : Int => decide (a ≤ b)) (fun a b c => by simp; omega) (fun a b => by simp; omega) (m.map (·.1))
  exact this.imp fun h => by simpa using h
theorem kNsorted_c {w : World} {b1 : Nat} {v : Value} {m : KNML} (v1 : Var w b1 v) (hm : KNMV w v m) (hl : m.length ≤ 255) :
    FN Try.prog 52 [.func (.func 70) #[] #[ptr b1]] w fun e w' => ∃ u ys, e = .returned u ∧ kNisKeys m ys ∧ Sl w' 1 u ys.length (ys.map (.int .u32)) ∧ Ext w w' ∧ (slN u = false → w.heap.size ≤ slB u) := by
  refine FN_enter Try.func52 rfl rfl (by kernel_rfl) ?_
  simp
  have hcap : ∀ k, (k = b1 ∨ v = .map (some k)) → k < w.heap.size := fun k hk => by
    rcases hk with rfl | hk
    · exact v1.lt
    · exact hm.lt hk
  refine FN.mono (kNcollect_c (kNit v1 hm) (fun _ _ => callFunc_enter Try.func70 rfl rfl _ _) hcap (fun xs hx => by omega)) ?_
  rintro _ w1 ⟨xs, u, hp, rfl, ho, hE⟩
  simp
  have hxl : xs.length = m.length := by have := hp.length_eq; simpa using this
  refine FN.mono (Suint32.sorts (sl_of_own ho) (fun j hj => own_thaw ho (by omega) _) (by omega)) ?_
  rintro _ w4 ⟨⟨u', rfl⟩, ys, h1, h2, h3, h4⟩
  have hM4 : Ext w w4 := ((hE.mod (S := fun k => w.heap.size ≤ k)).trans (h4.weaken fun i hi => by have := own_ge ho hi.1; have := hi.2; omega)).ext fun _ h => h
  have hyl : ys.length = xs.length := h1.length_eq
  simp
  exact ⟨ys, ⟨h1.trans hp, h2⟩, h3, hM4, fun hn => own_ge ho hn⟩
/-- The entries by their keys, rising: the closure's iterator. -/
def kNseg {α : Type} (l : List α) (pre : List α) : Prop := pre ≠ [] ∧ ∃ suf, l = pre ++ suf
def kNval (m : KNML) (k : Int) : Value := ((mget m k).map (Value.int .i64)).getD (.int .i64 0)
def kNst (m : KNML) (k : Int) : List Value := [.int .u32 k, kNval m k]
theorem kNsteps {w : World} {b : Nat} {o : Option Nat} {m : KNML} {ys : List Int} (kk : KeyEq Try.prog 23 (Value.int .u32)) (zz : ∀ w, (zeroValue 3).run Try.prog w = .ok (.int .i64 0) w) (v1 : Var w b (.map o)) (hm : KNMV w (.map o) m) (hl : m.length ≤ 255) (hy : kNisKeys m ys) :
    Iter Try.prog (.func (.func 51) #[] #[ptr b]) (kNst m) (· = ys) (kNseg ys) (fun k => k = b ∨ Value.map o = .map (some k)) w := by
  intro y C0 J Jx W hA hcap hC0 hJ hJx hyl h0
  have k1 := hcap b (.inl rfl)
  have k2 := fun r e => hcap r (.inr e)
  have v1W := v1.agr hA k1.1
  have hmW : KNMV W (.map o) m := hm.agr hA fun r e => hm.lt e
  refine FN_enter Try.func51 rfl rfl (by kernel_rfl) ?_
  simp
  refine WC_scope 0 _ rfl ?_
  simp [v1W.cell]
  refine FN.mono (kNkeys_c (w := W) o) ?_
  rintro _ w1 ⟨rfl, hw1⟩
  simp
  have hE1 : Ext W w1 := hw1 ▸ (Ext.refl W).alloc _
  have vk : Var w1 W.heap.size (.map o) := by rw [hw1]; exact Var.new W _ 103
  refine FN.mono (kNsorted_c vk (hmW.ext hE1) hl) ?_
  rintro _ w2 ⟨u, ys', rfl, hy', hs, hE2, hfr⟩
  have := kNuniq hy hy'
  subst this
  have hlen := fun ty W => hs.isLen (P := Try.prog) (t := 98) (by simp) ty W
  simp [hlen]
  have hE := hE1.trans hE2
  have h0' := hJ C0 [] W w2 h0 hE.agr
  have hyb : ys.length ≤ 255 := by have := hy.1.length_eq; simp at this; omega
  have hus : 0 < ys.length → W.heap.size ≤ slB u ∧ slB u < w2.heap.size := fun h => by
    have h1 := hs.lt (by simpa using h)
    have h2 := hs.blk
    refine ⟨?_, h1⟩
    have := hE1.size
    rcases h2 with h2 | ⟨b', o', c', rfl, _⟩
    · omega
    · have := hfr rfl; omega
  have hsz := hE.size
  refine WC_loop (fun k ρ ds w' => ∃ (i : Nat) (C : Nat → Prop), k = ys.length - i ∧ i ≤ ys.length ∧ ρ 0 = y ∧ ρ 1 = ptr b ∧ ρ 7 = u ∧ ρ 8 = .int .i64 ys.length ∧ ρ 9 = .int .i64 i ∧ ds = [] ∧ J C (ys.take i) w' ∧
    (∀ k, C k → C0 k ∨ w2.heap.size ≤ k) ∧ Agr (fun k => k < w2.heap.size ∧ ¬ C0 k) w2 w') ys.length ⟨0, C0, by simp, by simp, by simp, by simp, by simp, by simp, by simp, rfl, h0', fun k h => .inl h, Agr.refl _ _⟩ ?_
  rintro k ρ ds w3 ⟨i, C, rfl, hi, e0, e1, e7, e8, e9, rfl, hj, hC, hAg⟩
  by_cases hlt : i < ys.length
  · have hb := k1.2
    have v3 := ((v1W.ext hE).agr hAg ⟨(v1W.ext hE).lt, hb⟩)
    have hm3 : KNMV w3 (.map o) m := (hmW.ext hE).agr hAg fun r e => ⟨(hmW.ext hE).lt e, (k2 r e).2⟩
    have hs3 : Sl w3 1 u ys.length (ys.map (.int .u32)) := hs.agr hAg ⟨(hus (by omega)).2, fun hc => by have := hC0 _ hc; have := (hus (by omega)).1; omega⟩
    have c := hs3.at_ i (.int .u32 ys[i]) (by simp [hlt])
    have ix := hs3.index (P := Try.prog) (t := 98) (by simp) .i64 i (by omega) (by omega) w3
    have hlk := hm3.lookup kk kNtm (zz w3) ys[i] false
    rw [if_neg (by simp)] at hlk
    rw [show ((mget m ys[i]).map (Value.int .i64)).getD (.int .i64 0) = kNval m ys[i] from rfl] at hlk
    have htk : ys.take (i + 1) = ys.take i ++ [ys[i]] := by rw [List.take_add_one, List.getElem?_eq_getElem hlt]; rfl
    have hsp : kNseg ys (ys.take i ++ [ys[i]]) := ⟨List.append_ne_nil_of_right_ne_nil _ (by simp), ys.drop (i + 1), by rw [← htk, List.take_append_drop]⟩
    simp [e0, e1, e7, e8, e9, hlt, ix, c, v3.cell, hlk]
    refine CV.mono (hyl C (ys.take i) ys[i] w3 hsp hj) ?_
    rintro _ w4 (⟨rfl, C', hj', hown⟩ | ⟨rfl, C', hj', hown⟩)
    · have hAg' : Agr (fun k => k < w2.heap.size ∧ ¬ C0 k) w3 w4 := hown.mod.agr (fun k hk hc => by rcases hC k hc with h | h; exact hk.2 h; omega)
      simp [e0, e1, e7, e8, e9]
      refine ⟨ys.length - (i + 1), by omega, i + 1, rfl, by omega, by rw [wrap64 _ (by omega) (by omega)]; rfl, C', by rw [htk]; exact hj', ?_, hAg.trans hAg'⟩
      intro k hk
      rcases hown.own k hk with h | h
      · exact hC k h
      · have := hAg.size; exact .inr (by omega)
    · simp
      exact ⟨C', .inr ⟨_, hsp, hj'⟩⟩
  · simp [e8, e9, hlt]
    have : i = ys.length := by omega
    rw [this, List.take_length] at hj
    exact ⟨C, .inl hj⟩
end Go.Proofs
namespace Go.Proofs
open Pk
set_option maxRecDepth 10000
def sumBy (g : Wt → Int) (l : List Wt) : Int := (l.map g).sum
theorem sumBy_cons (g : Wt → Int) (x : Wt) (l : List Wt) : sumBy g (x :: l) = g x + sumBy g l := by simp [sumBy]
theorem sumBy_app (g : Wt → Int) (l l' : List Wt) : sumBy g (l ++ l') = sumBy g l + sumBy g l' := by
  induction l with
  | nil => simp [sumBy]
  | cons x l ih => rw [List.cons_append, sumBy_cons, sumBy_cons, ih]; omega
def sz (x : Wt) : Int := x.2.2.2
def szN (nd : Int) (x : Wt) : Int := if x.2.1 = nd then x.2.2.2 else 0
theorem nodes1_c (x : Wt) (w : World) : FN Try.prog 50 [wtV x] w fun e w' => e = .returned (i64 (sz x)) ∧ Ext w w' := by
  refine FN_enter Try.func50 rfl rfl (by kernel_rfl) ?_
  simp [sz]
  exact (Ext.refl w).alloc _
def sized (l : List Wt) : Prop := ∀ x ∈ l, 1 ≤ x.2.2.2 ∧ x.2.2.2 ≤ 65536
theorem sum_bound {l : List Wt} (h : sized l) : 0 ≤ sumBy sz l ∧ sumBy sz l ≤ 65536 * l.length := by
  induction l with
  | nil => simp [sumBy]
  | cons x l ih =>
    have h1 := h x (by simp)
    have h2 := ih fun y hy => h y (by simp [hy])
    rw [sumBy_cons, List.length_cons]
    unfold sz at *
    omega
theorem sum_c {w : World} {v : Value} {l : List Wt} (h : WSl w v l) (hb : l.length ≤ 300000) (hs : sized l) : FN Try.prog 49 [v, .func (.func 50) #[] #[]] w fun e w' => e = .returned (i64 (sumBy sz l)) ∧ Ext w w' := by
  refine FN_enter Try.func49 rfl rfl (by kernel_rfl) ?_
  have hlen := fun ty W => h.isLen (P := Try.prog) (t := 22) (by simp) ty W
  simp [hlen]
  refine WC_loop (fun k ρ ds w' => ∃ i : Nat, k = l.length - i ∧ i ≤ l.length ∧ ρ 1 = .func (.func 50) #[] #[] ∧ ρ 4 = i64 (sumBy sz (l.take i)) ∧ ρ 7 = v ∧ ρ 8 = i64 l.length ∧ ρ 9 = i64 i ∧ ds = [] ∧ Ext w w') l.length ⟨0, by simp, by simp, by simp, by simp [sumBy], by simp, by simp, by simp, rfl, Ext.refl _⟩ ?_
  rintro k ρ ds w1 ⟨i, rfl, hi, e1, e4, e7, e8, e9, rfl, hE⟩
  by_cases hlt : i < l.length
  · have hq := List.getElem?_eq_getElem hlt
    have r := (WSl.row h hq).ext hE
    have ix := WSl.index h i hlt w1
    simp [e1, e4, e7, e8, e9, hlt, ix, r.c0, r.c1, r.c2, r.c3, r.c4, r.c5, r.c6]
    have hE4 := hE.alloc (.cells #[u32 l[i].1.1, u32 l[i].1.2.1, u64 l[i].1.2.2.1, u32 l[i].1.2.2.2, u32 l[i].2.1, i64 l[i].2.2.1, i64 l[i].2.2.2] 30)
    refine FN.mono (nodes1_c l[i] _) ?_
    rintro _ w2 ⟨rfl, hE2⟩
    have htk : l.take (i + 1) = l.take i ++ [l[i]] := by rw [List.take_add_one, hq]; rfl
    have hsum : sumBy sz (l.take (i + 1)) = sumBy sz (l.take i) + sz l[i] := by rw [htk, sumBy_app]; simp [sumBy]
    have hb1 := sum_bound (l := l.take (i + 1)) fun x hx => hs x (List.mem_of_mem_take hx)
    have hl1 : (l.take (i + 1)).length ≤ 300000 := by simp; omega
    have hw : IntKind.i64.wrap (sumBy sz (l.take i) + sz l[i]) = sumBy sz (l.take (i + 1)) := by rw [hsum]; exact wrap64 _ (by omega) (by omega)
    simp [e1, e7, e8, e9, hw]
    exact ⟨l.length - (i + 1), by omega, i + 1, rfl, by omega, rfl, by rw [wrap64 _ (by omega) (by omega)]; rfl, hE4.trans hE2⟩
  · have : i = l.length := by omega
    subst this
    simp [e4, e8, e9]
    exact hE
/-! ### What the queues come to -/
theorem perm_sum {l l' : List Int} (h : l.Perm l') : l.sum = l'.sum := by
  induction h with
  | nil => rfl
  | cons x _ ih => rw [List.sum_cons, List.sum_cons, ih]
  | swap x y l => simp only [List.sum_cons]; omega
  | trans _ _ h1 h2 => exact h1.trans h2
def hasE (E : MQ) (nd : Int) : Bool := E.any fun e => decide (e.1.1 = nd)
def valE (E : MQ) (nd : Int) : Int := (E.map fun e => sumBy (szN nd) e.2.2).sum
def sumE (E : MQ) (nd : Int) : Option Int := if hasE E nd then some (valE E nd) else none
theorem valE_snoc (E : MQ) (p : Qu × (Value × List Wt)) (nd : Int) : valE (E ++ [p]) nd = valE E nd + sumBy (szN nd) p.2.2 := by
  unfold valE
  rw [List.map_append, List.sum_append]
  simp
theorem szN_all {l : List Wt} {nd : Int} (h : ∀ x ∈ l, x.2.1 = nd) : sumBy (szN nd) l = sumBy sz l := by
  unfold sumBy
  congr 1
  apply List.map_congr_left
  intro x hx
  unfold szN sz
  rw [if_pos (h x hx)]
theorem szN_no {l : List Wt} {nd : Int} (h : ∀ x ∈ l, x.2.1 ≠ nd) : sumBy (szN nd) l = 0 := by
  induction l with
  | nil => rfl
  | cons x l ih =>
    rw [sumBy_cons, ih fun y hy => h y (by simp [hy])]
    unfold szN
    rw [if_neg (h x (by simp))]; rfl
theorem sumE_snoc (E : MQ) (q : Qu) (v : Value) (r : List Wt) (hr : ∀ x ∈ r, x.2.1 = q.1) (nd : Int) (h0 : hasE E nd = false → valE E nd = 0) :
    sumE (E ++ [(q, (v, r))]) nd = if nd = q.1 then some ((sumE E nd).getD 0 + sumBy sz r) else sumE E nd := by
  unfold sumE
  rw [valE_snoc]
  by_cases h : nd = q.1
  · subst h
    have : hasE (E ++ [(q, (v, r))]) q.1 = true := by simp [hasE]
    rw [if_pos rfl, if_pos this, szN_all hr]
    cases hh : hasE E q.1 with
    | true => simp
    | false => simp [h0 hh]
  · have : hasE (E ++ [(q, (v, r))]) nd = hasE E nd := by
      unfold hasE
      rw [List.any_append]
      have : ¬ (q.1 = nd) := fun e => h e.symm
      simp [this]
    rw [if_neg h, this, szN_no fun x hx e => h (e.symm.trans (hr x hx)).symm.symm]
    simp
theorem valE_none {w : World} {l Rq Rw : Nat} {M : MQ} {N : MN} {s : List Wt} {most : Int} (h : LineAt w l Rq Rw M N s most) (E : MQ) (hE : ∀ e ∈ E, e ∈ M) (nd : Int) (h0 : hasE E nd = false) : valE E nd = 0 := by
  induction E with
  | nil => rfl
  | cons e E ih =>
    unfold hasE at h0
    simp only [List.any_cons, Bool.or_eq_false_iff, decide_eq_false_iff_not] at h0
    have := ih (fun x hx => hE x (by simp [hx])) h0.2
    unfold valE at this ⊢
    rw [List.map_cons, List.sum_cons, this, szN_no]
    · rfl
    · intro x hx hxn
      have hq := h.hasQ (v := e.2.1) (r := e.2.2) ((kget_iff h.mq.nodup).2 (hE e (by simp)))
      rw [hq.1] at hx
      have := (List.mem_filter.1 hx).2
      simp only [decide_eq_true_eq] at this
      exact h0.1 (by rw [← this]; exact hxn)
/-- The sum over the keys of what each has. -/
theorem sum_keys (g : Wt → Int) : ∀ (s : List Wt) (K : List Qu), K.Nodup → (∀ y ∈ s, quOf y ∈ K) → (K.map fun q => sumBy g (qof s q)).sum = sumBy g s
  | [], K, _, _ => by
    induction K with
    | nil => rfl
    | cons q K ih => rw [List.map_cons, List.sum_cons, ih (List.nodup_cons.1 ‹_›).2 (fun y hy => by cases hy)]; rfl
  | y :: s, K, hn, hc => by
    have ih := sum_keys g s K hn fun z hz => hc z (by simp [hz])
    have e : ∀ q, sumBy g (qof (y :: s) q) = (if q = quOf y then g y else 0) + sumBy g (qof s q) := by
      intro q
      unfold qof
      rw [List.filter_cons]
      by_cases h : quOf y = q
      · subst h
        simp [sumBy_cons]
      · have h' : ¬ q = quOf y := fun e => h e.symm
        simp [h, h']
    have e2 : ∀ K : List Qu, (K.map fun q => sumBy g (qof (y :: s) q)).sum = (K.map fun q => if q = quOf y then g y else 0).sum + (K.map fun q => sumBy g (qof s q)).sum := by
      intro K
      induction K with
      | nil => rfl
      | cons q K ih2 => rw [List.map_cons, List.map_cons, List.map_cons, List.sum_cons, List.sum_cons, List.sum_cons, ih2, e]; omega
    have e3 : ∀ K : List Qu, K.Nodup → (K.map fun q => if q = quOf y then g y else 0).sum = if quOf y ∈ K then g y else 0 := by
      intro K
      induction K with
      | nil => simp
      | cons q K ih2 =>
        intro hn
        obtain ⟨h1, h2⟩ := List.nodup_cons.1 hn
        rw [List.map_cons, List.sum_cons, ih2 h2]
        by_cases h : q = quOf y
        · subst h; simp [h1]
        · have h' : ¬ quOf y = q := fun e => h e.symm
          simp [h, h']
    rw [e2, e3 K hn, if_pos (hc y (by simp)), ih, sumBy_cons]
def sumS (s : List Wt) (nd : Int) : Option Int := if (s.any fun y => decide (y.2.1 = nd)) then some (sumBy (szN nd) s) else none
theorem sumE_all {w : World} {l Rq Rw : Nat} {M : MQ} {N : MN} {s : List Wt} {most : Int} (h : LineAt w l Rq Rw M N s most) {idxs : List Nat} (hp : idxs.Perm (List.range M.length)) (nd : Int) : sumE (seenOf M idxs) nd = sumS s nd := by
  have hpm := seenOf_all hp
  have h1 : hasE (seenOf M idxs) nd = (s.any fun y => decide (y.2.1 = nd)) := by
    rw [Bool.eq_iff_iff]
    unfold hasE
    simp only [List.any_eq_true, decide_eq_true_eq]
    constructor
    · rintro ⟨e, he, rfl⟩
      have hm := hpm.mem_iff.1 he
      have hq := h.hasQ (v := e.2.1) (r := e.2.2) ((kget_iff h.mq.nodup).2 hm)
      obtain ⟨y, hy⟩ := List.exists_mem_of_ne_nil _ hq.2
      obtain ⟨a, b⟩ := List.mem_filter.1 hy
      simp only [decide_eq_true_eq] at b
      exact ⟨y, a, by rw [← b]; rfl⟩
    · rintro ⟨y, hy, rfl⟩
      have hq : qof s (quOf y) ≠ [] := List.ne_nil_of_mem (List.mem_filter.2 ⟨hy, by simp⟩)
      obtain ⟨v, hv⟩ := h.get hq
      exact ⟨_, hpm.mem_iff.2 (kget_mem hv), rfl⟩
  have h2 : valE (seenOf M idxs) nd = sumBy (szN nd) s := by
    unfold valE
    rw [perm_sum (hpm.map fun e => sumBy (szN nd) e.2.2)]
    rw [← sum_keys (szN nd) s (M.map (·.1)) h.mq.nodup fun y hy => (h.keys _).2 (List.ne_nil_of_mem (List.mem_filter.2 ⟨hy, by simp⟩)), List.map_map]
    congr 1
    apply List.map_congr_left
    intro e he
    simp only [Function.comp]
    rw [(h.hasQ (v := e.2.1) (r := e.2.2) ((kget_iff h.mq.nodup).2 he)).1]
  unfold sumE sumS
  rw [h1, h2]
theorem kU32 : KeyEq Try.prog 23 (Value.int .u32) := keyEq_int (by simp)
theorem tms : Try.prog.underlying 103 = some (.map 23 3) := by simp
theorem zI (w : World) : (zeroValue 3).run Try.prog w = .ok (.int .i64 0) w := by simp
abbrev SM (w : World) (r : Nat) (m : List (Int × Int)) := MapAt (Value.int .u32) (Value.int .i64) w r m
def sumOk (E : MQ) (n : Nat) : Prop := ∀ nd, 0 ≤ (sumE E nd).getD 0 ∧ (sumE E nd).getD 0 ≤ 16711680 * n
theorem LineAt.len_le {w : World} {l Rq Rw : Nat} {M : MQ} {N : MN} {s : List Wt} {most : Int} (h : LineAt w l Rq Rw M N s most) : M.length ≤ s.length := by
  have := nodup_sub_len (M.map (·.1)) (s.map quOf) h.mq.nodup fun q hq => by
    obtain ⟨y, hy⟩ := List.exists_mem_of_ne_nil _ ((h.keys q).1 hq)
    obtain ⟨a, b⟩ := List.mem_filter.1 hy
    simp only [decide_eq_true_eq] at b
    exact List.mem_map.2 ⟨y, a, b⟩
  simpa using this
set_option maxHeartbeats 1000000 in
theorem nodes_c {w : World} {l Rq Rw : Nat} {M : MQ} {N : MN} {s : List Wt} {most : Int} (h : LineAt w l Rq Rw M N s most) (hbd : s.length ≤ 255) (hsz : sized s) :
    FN Try.prog 19 [ptr l] w fun e w' => ∃ b r m, e = .returned (.func (.func 51) #[] #[ptr b]) ∧ Var w' b (.map (some r)) ∧ SM w' r m ∧ (∀ nd, mget m nd = sumS s nd) ∧ Ext w w' ∧ w.heap.size ≤ b ∧ w.heap.size ≤ r := by
  refine FN_enter Try.func19 rfl rfl (by kernel_rfl) ?_
  simp
  have hE1 : Ext w ((w.alloc (.map #[] 0)).alloc (.cells #[.map (some w.heap.size)] 103)) := ((Ext.refl w).alloc _).alloc _
  have m1 : SM ((w.alloc (.map #[] 0)).alloc (.cells #[.map (some w.heap.size)] 103)) w.heap.size [] := (MapAt.alloc0 _ _ w).ext ((Ext.refl _).alloc _)
  have v1 : Var ((w.alloc (.map #[] 0)).alloc (.cells #[.map (some w.heap.size)] 103)) (w.heap.size + 1) (.map (some w.heap.size)) := by
    have := Var.new (w.alloc (.map #[] 0)) (.map (some w.heap.size)) 103
    simpa using this
  have z1 : ((w.alloc (.map #[] 0)).alloc (.cells #[.map (some w.heap.size)] 103)).heap.size = w.heap.size + 1 + 1 := by simp
  generalize ((w.alloc (.map #[] 0)).alloc (.cells #[.map (some w.heap.size)] 103)) = w1 at *
  have h1 := h.ext hE1
  refine FN.mono (none_c h1) ?_
  rintro _ w2 ⟨rfl, hw⟩
  rw [hw]
  obtain ⟨o, hr, hi⟩ := h1.mq.range (P := Try.prog) tmq
  simp [h1.c1, hr]
  have hE2 := (Ext.refl w1).alloc o
  have hlt := h.lt
  have hlr := hlt Rq (.inr (.inl rfl))
  obtain ⟨ib, hib⟩ : ∃ ib, ib = w1.heap.size := ⟨_, rfl⟩
  rw [← hib] at hi ⊢
  refine WC_loop (fun k ρ ds w' => ∃ (idxs : List Nat) (m : List (Int × Int)), k + idxs.length = M.length ∧ ρ 3 = ptr (w.heap.size + 1) ∧ ρ 14 = ptr ib ∧ ds = [] ∧ MIter quV ewQ w' ib Rq M idxs ∧ SM w' w.heap.size m ∧ (∀ nd, mget m nd = sumE (seenOf M idxs) nd) ∧ Mod (fun k => k = w.heap.size ∨ k = ib) w1 w' ∧ sumOk (seenOf M idxs) idxs.length) M.length
    ⟨[], [], by simp, by simp, by simp, rfl, hi, m1.ext hE2, fun nd => by simp [kget_nil, seenOf, sumE, hasE], hE2.mod, fun nd => by simp [seenOf, sumE, hasE]⟩ ?_
  rintro k ρ ds w2 ⟨idxs, m, hk, e3, e14, rfl, hI, hm, hmv, hM, hok⟩
  have nn : ∀ k, k ≠ w.heap.size → k ≠ ib → ¬ (k = w.heap.size ∨ k = ib) := fun k a b e => by rcases e with e | e; exact a e; exact b e
  have hEw : Ext w w2 := ((hE1.mod (S := fun k => w.heap.size ≤ k)).trans (hM.weaken fun k hk => by rcases hk with rfl | rfl <;> omega)).ext fun _ h => h
  rcases hI.next (P := Try.prog) 0 with ⟨hp, hrun⟩ | ⟨i, p, w3, hpi, hni, hrun, hI3, hM3, hent, hs3⟩
  · simp [e3, e14, hrun]
    exact ⟨_, v1.mod hM (nn _ (by omega) (by omega)), m, hm, fun nd => by rw [hmv, sumE_all h hp], hEw, Nat.le_refl _⟩
  · obtain ⟨q, v, r⟩ := p
    have hpm := List.mem_of_getElem? hpi
    have hq := h.hasQ (v := v) (r := r) ((kget_iff h.mq.nodup).2 hpm)
    have hrn : ∀ x ∈ r, x.2.1 = q.1 := fun x hx => by
      rw [hq.1] at hx
      have := (List.mem_filter.1 hx).2
      simp only [decide_eq_true_eq] at this
      rw [← this]; rfl
    have hrs : sized r := fun x hx => hsz x (by rw [hq.1] at hx; exact (List.mem_filter.1 hx).1)
    have hrl : r.length ≤ s.length := by rw [hq.1]; exact qof_len s q
    simp [ewQ] at hrun hent
    simp [e14, hrun, hent]
    have hE4 := (Ext.refl w3).alloc (.cells #[u32 q.1, i64 q.2] 80)
    have q0 : (w3.alloc (.cells #[u32 q.1, i64 q.2] 80)).cell? ⟨w3.heap.size, 0, none⟩ = some (u32 q.1) := by simp
    have hM2 := hM.trans (hM3.weaken fun k hk => .inr hk)
    have z4 : (w3.alloc (.cells #[u32 q.1, i64 q.2] 80)).heap.size = w3.heap.size + 1 := by simp
    generalize (w3.alloc (.cells #[u32 q.1, i64 q.2] 80)) = w4 at *
    have hne : w.heap.size ≠ ib := by omega
    have hm4 := (hm.mod hM3 hne).ext hE4
    have hM4 := hM2.trans hE4.mod
    have hf := seen_fresh h.mq.nodup hpi hni
    have hss := fun nd => sumE_snoc (seenOf M idxs) q v r hrn nd (valE_none h _ (fun e he => seenOf_mem he) nd)
    have hbs := sum_bound hrs
    have hbE : 0 ≤ (sumE (seenOf M idxs) q.1).getD 0 ∧ (sumE (seenOf M idxs) q.1).getD 0 ≤ 10000000000  := by
      have h1 := hok q.1
      have h2 := VIter.bound (v := .map (some Rq)) (.inl ⟨Rq, rfl, hI⟩)
      have h3 := h.len_le
      omega
    have hok' : sumOk (seenOf M (idxs ++ [i])) (idxs ++ [i]).length := fun nd => by
      have h1 := hok nd
      rw [seenOf_snoc hpi, hss, List.length_append, List.length_singleton]
      by_cases e : nd = q.1
      · rw [if_pos e, Option.getD_some]; omega
      · rw [if_neg e]; omega
    have step : ∀ (W : World), Ext w4 W → ∃ W', (Instr.mapUpdate 103 (.map (some w.heap.size)) (.int .u32 q.1) (.int .i64 (IntKind.i64.wrap (((mget m q.1).getD 0) + sumBy sz r)))).run Try.prog W = .ok () W' ∧
        (∃ m', SM W' w.heap.size m' ∧ (∀ nd, mget m' nd = sumE (seenOf M (idxs ++ [i])) nd) ∧ MIter quV ewQ W' ib Rq M (idxs ++ [i]) ∧ Mod (fun k => k = w.heap.size ∨ k = ib) w1 W') := by
      intro W hEW
      have hwr : IntKind.i64.wrap (((mget m q.1).getD 0) + sumBy sz r) = ((mget m q.1).getD 0) + sumBy sz r := by rw [hmv]; exact wrap64 _ (by omega) (by omega)
      rw [hwr]
      obtain ⟨W', hr', hm', hM', hs'⟩ := (hm4.ext hEW).update (P := Try.prog) kU32 tms q.1 (((mget m q.1).getD 0) + sumBy sz r)
      refine ⟨W', hr', _, hm', fun nd => ?_, ((hI3.mod (S := fun _ => False) (hE4.trans hEW).mod id id)).mod hM' (by omega) (by omega), hM4.trans (hEW.mod.trans (hM'.weaken fun k hk => .inl hk))⟩
      rw [kget_mset, seenOf_snoc hpi, hss, hmv, hmv]
      by_cases e : nd = q.1
      · rw [if_pos e, if_pos e, e]
      · rw [if_neg e, if_neg e]
    have gd : ∀ o : Option Int, (o.map (Value.int .i64)).getD (.int .i64 0) = i64 (o.getD 0) := fun o => by cases o <;> rfl
    have fin : ∀ (W : World), (∃ m', SM W w.heap.size m' ∧ (∀ nd, mget m' nd = sumE (seenOf M (idxs ++ [i])) nd) ∧ MIter quV ewQ W ib Rq M (idxs ++ [i]) ∧ Mod (fun k => k = w.heap.size ∨ k = ib) w1 W) → ∃ m', m' < k ∧ ∃ idxs, m' + idxs.length = M.length ∧ MIter quV ewQ W ib Rq M idxs ∧ ∃ x, SM W w.heap.size x ∧ (∀ nd, mget x nd = sumE (seenOf M idxs) nd) ∧ Mod (fun k => k = w.heap.size ∨ k = ib) w1 W ∧ sumOk (seenOf M idxs) idxs.length := by
      rintro W ⟨m', a1, a2, a3, a4⟩
      have hbd := VIter.bound (v := .map (some Rq)) (.inl ⟨Rq, rfl, a3⟩)
      simp at hbd
      exact ⟨k - 1, by omega, idxs ++ [i], by simp; omega, a3, m', a1, a2, a4, hok'⟩
    refine WC_drawC 6 (.F 0 <| .F 1 <| .F 2 <| .F 4 <| .E 3 (.C 5 <| .Z) (.E 5 (.C 3 <| .Z) .Z)) (fun _ => false) rfl (by kernel_rfl) fun W5 hW5 => ?_
    have hWE5 : Ext w4 W5 := hW5 ▸ Ext.drew w4
    have hv5 := (v1.mod hM4 (nn _ (by omega) (by omega))).ext hWE5
    have hrow5 := ((h.ext hEw).mod hM3 (fun k hk e => by have := hlt k hk; omega)).row _ hpm
    have hrow5' := own_ext hrow5 (hE4.trans hWE5)
    simp [e3, hv5.cell, hWE5.cell_eq q0]
    refine RT_alt ?_ ?_
    · have hlk := (hm4.ext hWE5).lookup (P := Try.prog) kU32 tms (zI _) q.1 false
      rw [gd] at hlk
      simp at hlk
      simp [hlk]
      refine KR_same ?_
      simp
      refine FN.mono (sum_c (sl_of_own hrow5') (by simp only; omega) hrs) ?_
      rintro _ W6 ⟨rfl, hE6⟩
      simp
      refine KR_ext hE6 ?_
      obtain ⟨W7, hr7, hfin⟩ := step W6 (hWE5.trans hE6)
      simp [e3, e14, hr7]
      exact fin W7 hfin
    · simp
      refine FN.mono (sum_c (sl_of_own hrow5') (by simp only; omega) hrs) ?_
      rintro _ W6 ⟨rfl, hE6⟩
      have hlk := (hm4.ext (hWE5.trans hE6)).lookup (P := Try.prog) kU32 tms (zI _) q.1 false
      rw [gd] at hlk
      simp at hlk
      simp
      refine KR_ext hE6 ?_
      simp [hlk]
      refine KR_same ?_
      obtain ⟨W7, hr7, hfin⟩ := step W6 (hWE5.trans hE6)
      simp [e3, e14, hr7]
      exact fin W7 hfin
end Go.Proofs
namespace Go.Proofs
open Pk
set_option maxRecDepth 10000
abbrev nmN (n : Int) : Nm := (1, 0, 0, n)
theorem named_c (n : Int) (w : World) : FN Try.prog 17 [u32 n] w fun r w' => r = .returned (nmV (nmN n)) ∧ Ext w w' := by
  refine FN_enter Try.func17 rfl rfl (by kernel_rfl) ?_
  simp
  exact (Ext.refl w).alloc _
/-- A line of one's own: its blocks, and what else has changed, are where `Pd` holds. -/
structure LineP (Pd : Nat → Prop) (wb W : World) (l : Nat) (s : List Wt) (most : Int) : Prop where
  ex : ∃ Rq Rw M N, LineAt W l Rq Rw M N s most ∧ ∀ k, Foot l Rq Rw M k → Pd k
  mod : Mod Pd wb W
section
variable {Pd : Nat → Prop} {wb W W' : World} {l : Nat} {s : List Wt} {most : Int}
theorem LineP.ext (h : LineP Pd wb W l s most) (hE : Ext W W') : LineP Pd wb W' l s most := by
  obtain ⟨⟨Rq, Rw, M, N, h1, h2⟩, h3⟩ := h
  exact ⟨⟨Rq, Rw, M, N, h1.ext hE, h2⟩, h3.trans hE.mod⟩
theorem LineP.put (hP : ∀ k, wb.heap.size ≤ k → Pd k) (h : LineP Pd wb W l s most) (hbd : s.length ≤ 1048575) (x : Wt) :
    FN Try.prog 8 [ptr l, wtV x] W fun e W' => e = .returned (i64 (putE s most x)) ∧ LineP Pd wb W' l (if putE s most x = 0 then s ++ [x] else s) most := by
  obtain ⟨⟨Rq, Rw, M, N, h1, h2⟩, h3⟩ := h
  refine FN.mono (put_c h1 hbd x) ?_
  rintro _ W' ⟨rfl, M', N', g1, g2, g3⟩
  exact ⟨rfl, ⟨Rq, Rw, M', N', g1, fun k hk => (g3 k hk).elim (h2 k) fun hk => hP k (Nat.le_trans h3.size hk)⟩, h3.trans (g2.weaken h2)⟩
theorem LineP.drop (h : LineP Pd wb W l s most) (hbd : s.length ≤ 1048575) (n : Nm) :
    FN Try.prog 10 [ptr l, nmV n] W fun e W' => e = .returned (.tuple #[wtV (dropV s n), i64 (dropE s n)]) ∧ LineP Pd wb W' l (if dropE s n = 0 then mdel s n else s) most := by
  obtain ⟨⟨Rq, Rw, M, N, h1, h2⟩, h3⟩ := h
  refine FN.mono (drop_c h1 hbd n) ?_
  rintro _ W' ⟨rfl, M', N', g1, g2, g3⟩
  exact ⟨rfl, ⟨Rq, Rw, M', N', g1, fun k hk => h2 k (g3 k hk)⟩, h3.trans (g2.weaken h2)⟩
theorem LineP.move (hP : ∀ k, wb.heap.size ≤ k → Pd k) (h : LineP Pd wb W l s most) (hbd : s.length ≤ 1048575) (n : Nm) (tn : Int) :
    FN Try.prog 20 [ptr l, nmV n, u32 tn] W fun e W' => e = .returned (i64 (moveE s n tn)) ∧ LineP Pd wb W' l (moved s n tn) most := by
  obtain ⟨⟨Rq, Rw, M, N, h1, h2⟩, h3⟩ := h
  refine FN.mono (move_c h1 hbd n tn) ?_
  rintro _ W' ⟨rfl, M', N', g1, g2, g3⟩
  exact ⟨rfl, ⟨Rq, Rw, M', N', g1, fun k hk => (g3 k hk).elim (h2 k) fun hk => hP k (Nat.le_trans h3.size hk)⟩, h3.trans (g2.weaken h2)⟩
end
theorem LineP.new (m : Int) (h0 : 0 ≤ m) (h1 : m ≤ 4096) (w : World) : FN Try.prog 6 [i64 m] w fun e W => ∃ l, e = .returned (.tuple #[ptr l, i64 0]) ∧ LineP (fun k => w.heap.size ≤ k) w W l [] m ∧ w.heap.size ≤ l ∧ Ext w W := by
  refine FN.mono (new_c m h0 h1 w) ?_
  rintro _ W ⟨l, Rq, Rw, rfl, g1, g2, g3, g4, g5⟩
  exact ⟨l, rfl, ⟨⟨Rq, Rw, [], [], g1, by
    rintro k (rfl | rfl | rfl | ⟨x, hx, _⟩)
    · exact g3
    · exact g4
    · exact g5
    · cases hx⟩, g2.mod⟩, g3, g2⟩
/-! ### Strings -/
theorem b_add_str (W : World) (t : TypeId) (a b : ByteArray) (h : (a.size : Int) + b.size ≤ 9223372036854775807) : (binOp .add t (.string a) (.string b)).run Try.prog W = .ok (.string (a ++ b)) W := by simp [binOp, Op.stringOp, h]
theorem str1 (W : World) (c : Int) : (convert 64 9 (.slice (some ⟨W.heap.size, 0, none⟩) 1 1)).run Try.prog (W.alloc (.cells #[.int .u8 c] 5)) = .ok (.string (strOfNums [c])) (W.alloc (.cells #[.int .u8 c] 5)) := by
  refine run_convert_bytes_arg _ 64 5 (by simp) (by simp) W.heap.size 0 1 1 [c] rfl ?_ 9 (by simp)
  intro i hi
  have : i = 0 := by omega
  subst this
  simp
end Go.Proofs
namespace Go.Proofs
open Pk
set_option maxRecDepth 10000
section
variable {Pd : Nat → Prop} {wb W W' : World} {l : Nat} {s : List Wt} {most : Int}
theorem LineP.rebase {S : Nat → Prop} (h : LineP Pd wb W l s most) (hM : Mod S W W') (hS : ∀ k, k < W.heap.size → S k → ¬ Pd k) : LineP (fun k => (Pd k ∧ k < W.heap.size) ∨ W'.heap.size ≤ k) W' W' l s most := by
  obtain ⟨⟨Rq, Rw, M, N, h1, h2⟩, h3⟩ := h
  exact ⟨⟨Rq, Rw, M, N, h1.mod hM fun k hk hs => hS k (h1.lt k hk) hs (h2 k hk), fun k hk => .inl ⟨h2 k hk, h1.lt k hk⟩⟩, Mod.refl _ _⟩
theorem LineP.putOk (hP : ∀ k, wb.heap.size ≤ k → Pd k) (h : LineP Pd wb W l s most) (hbd : s.length ≤ 1048575) (x : Wt) (he : putE s most x = 0) :
    FN Try.prog 8 [ptr l, wtV x] W fun e W' => e = .returned (i64 0) ∧ LineP Pd wb W' l (s ++ [x]) most := by
  refine FN.mono (h.put hP hbd x) ?_
  rintro _ W' ⟨rfl, g⟩
  rw [he] at g ⊢
  exact ⟨rfl, g⟩
theorem LineP.putNo (hP : ∀ k, wb.heap.size ≤ k → Pd k) (h : LineP Pd wb W l s most) (hbd : s.length ≤ 1048575) (x : Wt) (e : Int) (he : putE s most x = e) (h0 : e ≠ 0) :
    FN Try.prog 8 [ptr l, wtV x] W fun r W' => r = .returned (i64 e) ∧ LineP Pd wb W' l s most := by
  refine FN.mono (h.put hP hbd x) ?_
  rintro _ W' ⟨rfl, g⟩
  rw [he] at g ⊢
  rw [if_neg h0] at g
  exact ⟨rfl, g⟩
end
def wkA : Wt := (nmN 1, 5, 0, 10)
def wkB : Wt := (nmN 2, 5, 2, 20)
def wkC : Wt := (nmN 3, 6, 0, 30)
def wkD : Wt := (nmN 4, 5, 0, 10)
def wkE : Wt := (nmN 1, 6, 0, 10)
abbrev wk3 : List Wt := [] ++ [wkA] ++ [wkB] ++ [wkC]
abbrev wk4 : List Wt := [wkB, wkC, wkE]
theorem wk_sum (nd : Int) : sumS wk3 nd = if nd = 5 then some 30 else if nd = 6 then some 30 else none := by
  by_cases h5 : nd = 5
  · subst h5; decide
  · by_cases h6 : nd = 6
    · subst h6; decide
    · unfold sumS
      have a : ¬ (5 : Int) = nd := fun e => h5 e.symm
      have b : ¬ (6 : Int) = nd := fun e => h6 e.symm
      simp [wkA, wkB, wkC, h5, h6, a, b]
theorem wk_keys {w : World} {r : Nat} {m : List (Int × Int)} (h : SM w r m) (hm : ∀ nd, mget m nd = sumS wk3 nd) : kNisKeys m [5, 6] := by
  refine ⟨?_, by decide⟩
  refine (List.perm_ext_iff_of_nodup (by decide) h.nodup).2 fun a => ?_
  have := hm a
  rw [wk_sum] at this
  constructor
  · intro ha
    have hs : (mget m a).isSome = true := by
      rw [this]
      rcases (by simpa using ha : a = 5 ∨ a = 6) with rfl | rfl <;> rfl
    obtain ⟨z, hz⟩ := Option.isSome_iff_exists.1 hs
    exact List.mem_map.2 ⟨_, kget_mem hz, rfl⟩
  · intro ha
    obtain ⟨y, hy, rfl⟩ := List.mem_map.1 ha
    rw [(kget_iff h.nodup).2 (show (y.1, y.2) ∈ m from hy)] at this
    by_cases h5 : y.1 = 5
    · simp [h5]
    · by_cases h6 : y.1 = 6
      · simp [h6]
      · simp [h5, h6] at this
def sOf (l : List Wt) : ByteArray := l.foldl (fun s y => s ++ strOfNums [96 + y.1.2.2.2]) ⟨#[]⟩
set_option maxHeartbeats 2000000 in
theorem works_c (w : World) : FN Try.prog 5 [] w fun e w' => e = .returned (.bool true) ∧ Ext w w' := by
  refine FN_enter Try.func5 rfl rfl (by kernel_rfl) ?_
  simp
  refine FN.mono (LineP.new 3 (by omega) (by omega) w) ?_
  rintro _ w1 ⟨l, rfl, L1, hlw, hE1⟩
  simp
  refine FN.mono (named_c 1 w1) ?_
  rintro _ w2 ⟨rfl, hE2⟩
  have L2 := L1.ext hE2
  simp
  refine FN.mono (LineP.putOk (fun _ h => h) L2 (by simp) wkA (by decide)) ?_
  rintro _ w3 ⟨rfl, L3⟩
  simp
  refine FN.mono (named_c 2 w3) ?_
  rintro _ w4 ⟨rfl, hE4⟩
  have L4 := L3.ext hE4
  simp
  refine FN.mono (LineP.putOk (fun _ h => h) L4 (by simp) wkB (by decide)) ?_
  rintro _ w5 ⟨rfl, L5⟩
  simp
  refine FN.mono (named_c 3 w5) ?_
  rintro _ w6 ⟨rfl, hE6⟩
  have L6 := L5.ext hE6
  simp
  refine FN.mono (LineP.putOk (fun _ h => h) L6 (by simp) wkC (by decide)) ?_
  rintro _ w7 ⟨rfl, L7⟩
  have L7' : LineP (fun k => w.heap.size ≤ k) w w7 l wk3 3 := L7
  obtain ⟨Rq, Rw, M, N, l7, -⟩ := L7'.ex
  simp
  refine FN.mono (first_c l7 (by simp) 5) ?_
  rintro _ w8 ⟨rfl, hE8⟩
  have f1 : firstV wk3 5 = wkB := by decide
  have f2 : firstE wk3 5 = 0 := by decide
  rw [f1, f2]
  simp
  have a8 : Ext w8 (w8.alloc (.cells #[u32 1, u32 0, u64 0, u32 2, u32 5, i64 2, i64 20] 30)) := (Ext.refl w8).alloc _
  have x8 : WtAt (w8.alloc (.cells #[u32 1, u32 0, u64 0, u32 2, u32 5, i64 2, i64 20] 30)) w8.heap.size wkB := WtAt.new w8 wkB 30
  have z8 : (w8.alloc (.cells #[u32 1, u32 0, u64 0, u32 2, u32 5, i64 2, i64 20] 30)).heap.size = w8.heap.size + 1 := by simp
  have n8 : w7.heap.size ≤ w8.heap.size := hE8.size
  simp [wkB]
  obtain ⟨bX, hbX⟩ : ∃ bX, bX = w8.heap.size := ⟨_, rfl⟩
  rw [← hbX] at x8 z8 n8 ⊢
  generalize (w8.alloc (.cells #[u32 1, u32 0, u64 0, u32 2, u32 5, i64 2, i64 20] 30)) = w9 at *
  have hE79 := hE8.trans a8
  have l9 := l7.ext hE79
  refine FN.mono (named_c 1 w9) ?_
  rintro _ w10 ⟨rfl, hE10⟩
  simp
  have l10 := l9.ext hE10
  refine FN.mono (get_c l10 (by simp) (by unfold ranked; decide) (nmN 1)) ?_
  rintro _ w11 ⟨rfl, hE11⟩
  have g1 : dropV wk3 (nmN 1) = wkA := by decide
  have g2 : dropE wk3 (nmN 1) = 0 := by decide
  have g3 : getI wk3 (nmN 1) = 1 := by decide
  rw [g1, g2, g3]
  have a11 : Ext w11 (w11.alloc (.cells #[u32 1, u32 0, u64 0, u32 1, u32 5, i64 0, i64 10] 30)) := (Ext.refl w11).alloc _
  simp [wkA]
  generalize (w11.alloc (.cells #[u32 1, u32 0, u64 0, u32 1, u32 5, i64 0, i64 10] 30)) = w12 at *
  refine FN.mono (named_c 4 w12) ?_
  rintro _ w13 ⟨rfl, hE13⟩
  simp
  have hE913 := ((hE10.trans hE11).trans a11).trans hE13
  have x13 := x8.ext hE913
  have hE713 := hE79.trans hE913
  have L13 := L7'.rebase (hE713.mod (S := fun _ => False)) (fun _ _ h => h.elim)
  have n13 := hE913.size
  have P13 : ∀ k, w13.heap.size ≤ k → (w.heap.size ≤ k ∧ k < w7.heap.size) ∨ w13.heap.size ≤ k := fun k h => .inr h
  refine FN.mono (LineP.putNo P13 L13 (by simp) wkD 220 (by decide) (by decide)) ?_
  rintro _ w14 ⟨rfl, L14⟩
  have nX13 : ¬ ((w.heap.size ≤ bX ∧ bX < w7.heap.size) ∨ w13.heap.size ≤ bX) := by omega
  have x14 := x13.mod L14.mod nX13
  simp
  refine FN.mono (named_c 1 w14) ?_
  rintro _ w15 ⟨rfl, hE15⟩
  simp
  have L15 := L14.ext hE15
  have x15 := x14.ext hE15
  refine FN.mono (LineP.putNo P13 L15 (by simp) wkA 150 (by decide) (by decide)) ?_
  rintro _ w16 ⟨rfl, L16⟩
  have x16 := x13.mod L16.mod nX13
  simp
  have a16 : Ext w16 (w16.alloc (.cells #[i64 0] 3)) := (Ext.refl w16).alloc _
  have v16 : Var (w16.alloc (.cells #[i64 0] 3)) w16.heap.size (i64 0) := Var.new w16 (i64 0) 3
  have z16 : (w16.alloc (.cells #[i64 0] 3)).heap.size = w16.heap.size + 1 := by simp
  obtain ⟨bn, hbn⟩ : ∃ bn, bn = w16.heap.size := ⟨_, rfl⟩
  rw [← hbn] at v16 z16 ⊢
  generalize (w16.alloc (.cells #[i64 0] 3)) = w17 at *
  obtain ⟨Rq', Rw', M', N', l16, -⟩ := L16.ex
  have l17 := l16.ext a16
  have hsz : sized wk3 := by unfold sized; decide
  refine FN.mono (nodes_c l17 (by simp) hsz) ?_
  rintro _ w18 ⟨b1, r1, m1, rfl, -, -, -, hE18, -, -⟩
  simp
  have l18 := l17.ext hE18
  refine FN.mono (nodes_c l18 (by simp) hsz) ?_
  rintro _ w19 ⟨b2, r2, m2, rfl, vb2, sm2, hm2, hE19, hb2, hr2⟩
  simp
  have hE1619 := (a16.trans hE18).trans hE19
  have v19 := v16.ext (hE18.trans hE19)
  have n18 := hE18.size
  have n19 := hE19.size
  have hk := wk_keys sm2 hm2
  have hml : m2.length ≤ 255 := by
    have := hk.1.length_eq
    simp at this
    omega
  have hit := kNsteps kU32 zI vb2 sm2.val hml hk
  have hv5 : kNval m2 5 = i64 30 := by unfold kNval; rw [hm2]; rfl
  have hv6 : kNval m2 6 = i64 30 := by unfold kNval; rw [hm2]; rfl
  have hM0 : Mod (fun k => w.heap.size ≤ k) w w16 := (L7'.mod.trans hE713.mod).trans (L16.mod.weaken fun k hk => by have := L7'.mod.size; have := hE713.size; omega)
  have w0s := L7'.mod.size
  have w1s := hE713.size
  have w2s := L16.mod.size
  refine WC_rangeFunc (gf := 51) (first := #[]) (caps := #[ptr b2]) (enc := kNst m2) (by simp) (fun _ _ => callFunc_enter Try.func51 rfl rfl _ _) hit (fun x => rfl) (fun k => k = bn)
    (fun C pre W => Var W bn (.int .i64 (pre.foldl (fun n k => 1000 * n + 100 * k + 30) 0)) ∧ (∀ k, C k ↔ k = bn) ∧ Mod (fun k => k = bn) w19 W) (fun _ _ _ _ => False)
    ?hcap (fun k hk => by omega) ?hst (fun _ _ _ _ _ h _ => h.elim) ⟨v19, fun _ => Iff.rfl, Mod.refl _ _⟩ ?ρ ?ha ?hb ?hd (fun _ _ _ _ _ h _ => h.elim)
  case ha =>
    intro l x W
    simp
    exact rfl
  case hcap =>
    rintro k (rfl | h)
    · exact ⟨vb2.lt, by omega⟩
    · have := sm2.lt
      cases h
      exact ⟨this, by omega⟩
  case hst =>
    rintro C pre W W' ⟨h1, h2, h3⟩ hag
    exact ⟨h1.agr hag (.inr ((h2 _).2 rfl)), h2, h3.agr_old hag⟩
  case hb =>
    rintro lp C pre x W hsp ⟨h1, h2, h3⟩ - - -
    have hpx : pre = [] ∧ x = 5 ∨ pre = [5] ∧ x = 6 := by
      obtain ⟨_, suf, hsuf⟩ := hsp
      match pre, hsuf with
      | [], h => simp at h; exact .inl ⟨rfl, h.1.symm⟩
      | [a], h => simp at h; exact .inr ⟨by rw [h.1], h.2.1.symm⟩
      | a :: b :: l, h => have := congrArg List.length h; simp at this
    have fin : ∀ u : Int, u = (pre ++ [x]).foldl (fun n k => 1000 * n + 100 * k + 30) 0 → ∃ C', (Var (W.setCell ⟨bn, 0, none⟩ (.int .i64 u)) bn (.int .i64 ((pre ++ [x]).foldl (fun n k => 1000 * n + 100 * k + 30) 0)) ∧ (∀ k, C' k ↔ k = bn) ∧ Mod (fun k => k = bn) w19 (W.setCell ⟨bn, 0, none⟩ (.int .i64 u))) ∧ Own C C' W (W.setCell ⟨bn, 0, none⟩ (.int .i64 u)) := by
      rintro u rfl
      have hM := (Mod.refl (fun k => k = bn) W).setC 0 (i64 ((pre ++ [x]).foldl (fun n k => 1000 * n + 100 * k + 30) 0))
      exact ⟨C, ⟨h1.set _, h2, h3.trans hM⟩, Own.of_mod (hM.weaken fun k hk => (h2 k).2 hk)⟩
    rcases hpx with ⟨rfl, rfl⟩ | ⟨rfl, rfl⟩
    · have h1c := h1.cell
      simp only [List.foldl_nil] at h1c
      simp [h1c, h1.thaw, hv5, kNst]
      exact fin _ rfl
    · have h1c := h1.cell
      simp only [List.foldl_cons, List.foldl_nil] at h1c
      simp [h1c, h1.thaw, hv6, kNst]
      exact fin _ rfl
  case hd =>
    rintro C xs w20 rfl ⟨v20, -, hM20⟩ hD
    simp
    have hM1620 : Mod (fun k => k = bn) w16 w20 := hE1619.mod.trans hM20
    have n20 := hM20.size
    have hD1 : w19.heap.size < w20.heap.size := by
      rcases Nat.lt_or_ge w19.heap.size w20.heap.size with h | h
      · exact h
      · rw [Array.getElem?_eq_none h] at hD; cases hD
    refine FN.mono (named_c 1 w20) ?_
    rintro _ w21 ⟨rfl, hE21⟩
    have n21 := hE21.size
    have L21 := L16.rebase (hM1620.trans hE21.mod) (fun k h1 h2 => by omega)
    have x21 := (x16.mod hM1620 (by omega)).ext hE21
    have v21 := v20.ext hE21
    have d21 := hE21.obj hD
    simp
    have e1 : moveE wk3 (nmN 1) 6 = 0 := by decide
    have e2 : moved wk3 (nmN 1) 6 = wk4 := by decide
    refine FN.mono (LineP.move (fun k h => .inr h) L21 (by simp) (nmN 1) 6) ?_
    rintro _ w22 ⟨rfl, L22⟩
    rw [e1]
    rw [e2] at L22
    have nX22 : ¬ ((((w.heap.size ≤ bX ∧ bX < w7.heap.size) ∨ w13.heap.size ≤ bX) ∧ bX < w16.heap.size) ∨ w21.heap.size ≤ bX) := by omega
    have nN22 : ¬ ((((w.heap.size ≤ bn ∧ bn < w7.heap.size) ∨ w13.heap.size ≤ bn) ∧ bn < w16.heap.size) ∨ w21.heap.size ≤ bn) := by omega
    have nD22 : ¬ ((((w.heap.size ≤ w19.heap.size ∧ w19.heap.size < w7.heap.size) ∨ w13.heap.size ≤ w19.heap.size) ∧ w19.heap.size < w16.heap.size) ∨ w21.heap.size ≤ w19.heap.size) := by omega
    have x22 := x21.mod L22.mod nX22
    have v22 := v21.mod L22.mod nN22
    have d22 := L22.mod.obj d21 nD22
    have n22 := L22.mod.size
    have hM22 : Mod (fun k => w.heap.size ≤ k) w w22 := hM0.trans (((hM1620.trans hE21.mod).weaken fun k hk => by omega).trans (L22.mod.weaken fun k hk => by omega))
    simp
    have a22 : Ext w22 (w22.alloc (.cells #[.string ⟨#[]⟩] 9)) := (Ext.refl w22).alloc _
    have s22 : Var (w22.alloc (.cells #[.string ⟨#[]⟩] 9)) w22.heap.size (.string ⟨#[]⟩) := Var.new w22 _ 9
    have z22 : (w22.alloc (.cells #[.string ⟨#[]⟩] 9)).heap.size = w22.heap.size + 1 := by simp
    obtain ⟨bs, hbs⟩ : ∃ bs, bs = w22.heap.size := ⟨_, rfl⟩
    rw [← hbs] at s22 z22 ⊢
    generalize (w22.alloc (.cells #[.string ⟨#[]⟩] 9)) = w23 at *
    obtain ⟨Rq2, Rw2, M2, N2, l22, -⟩ := L22.ex
    have l23 := l22.ext a22
    refine FN.mono (all_c l23 (by simp) 6) ?_
    rintro _ w24 ⟨ab, av, rfl, hvA, hsA, hE24, hab, hav⟩
    simp
    have e3 : allOf wk4 6 = [wkC, wkE] := by decide
    rw [e3] at hsA
    have n24 := hE24.size
    refine WC_rangeFuncA (gf := 54) (first := #[]) (caps := #[ptr ab]) (enc := fun x => [wtV x]) (by simp) (fun _ _ => callFunc_enter Try.func54 rfl rfl _ _) (all_it hvA hsA (by simp)) (fun x => rfl) (fun k => k = bs)
      (fun C pre W => Var W bs (.string (sOf pre)) ∧ (∀ k, C k ↔ k = bs) ∧ Mod (fun k => k = bs) w24 W) (fun _ _ _ _ => False)
      (fun k hk => ?_) (fun k hk => by omega) ?_ (fun _ _ _ _ _ h _ => h.elim) ⟨s22.ext hE24, fun _ => Iff.rfl, Mod.refl _ _⟩ (fun x B ρ' W' => ∃ b, ρ' 18 = ptr b ∧ B ≤ b ∧ WtAt W' b x ∧ ρ' 17 = ptr bs)
      ?_ ?_ ?_ ?_ (fun _ _ _ _ _ h _ => h.elim)
    · rcases hk with rfl | ⟨hn, rfl⟩
      · exact ⟨hvA.lt, by omega⟩
      · have h1 := hav hn
        exact ⟨hsA.lt (by simp), by omega⟩
    · rintro C pre W W' ⟨h1, h2, h3⟩ hag
      exact ⟨h1.agr hag (.inr ((h2 _).2 rfl)), h2, h3.agr_old hag⟩
    · rintro x B ρ' W W' ⟨b, h1, h2, h3, h4⟩ hag
      exact ⟨b, h1, h2, h3.agr hag h2, h4⟩
    · intro lp x W
      simp
      exact ⟨(Ext.refl W).alloc _, WtAt.new W x 30⟩
    · rintro lp C pre y B ρ' W hsp ⟨h1, h2, h3⟩ hl1 hl2 - hBW ⟨b, e18, hB, hy, e17⟩
      have hpx : pre = [] ∧ y = wkC ∨ pre = [wkC] ∧ y = wkE := by
        obtain ⟨_, suf, hsuf⟩ := hsp
        match pre, hsuf with
        | [], h => simp at h; exact .inl ⟨rfl, h.1.symm⟩
        | [a], h => simp at h; exact .inr ⟨by rw [h.1], h.2.1.symm⟩
        | a :: b :: l, h => have := congrArg List.length h; simp at this
      have hw : IntKind.u8.wrap (IntKind.u32.wrap (96 + y.1.2.2.2)) = 96 + y.1.2.2.2 := by rcases hpx with ⟨_, rfl⟩ | ⟨_, rfl⟩ <;> decide
      have hadd : ∀ W, (binOp .add 9 (.string (sOf pre)) (.string (strOfNums [96 + y.1.2.2.2]))).run Try.prog W = .ok (.string (sOf (pre ++ [y]))) W := fun W => by
        rw [b_add_str _ _ _ _ (by rcases hpx with ⟨rfl, rfl⟩ | ⟨rfl, rfl⟩ <;> decide)]
        unfold sOf
        rw [List.foldl_append]; rfl
      have hE4 := (Ext.refl W).alloc (.cells #[.int .u8 (96 + y.1.2.2.2)] 5)
      have h4 := h1.ext hE4
      simp [e17, e18, h1.cell, hy.c3, hw, str1, hadd, h4.cell, h4.thaw]
      generalize (W.alloc (.cells #[.int .u8 (96 + y.1.2.2.2)] 5)) = W4 at *
      have hM := (Mod.refl (fun k => k = bs) W4).setC 0 (.string (sOf (pre ++ [y])))
      exact ⟨C, ⟨h4.set _, h2, (h3.trans hE4.mod).trans hM⟩, Own.of_mod ((hE4.mod.trans hM).weaken fun k hk => (h2 k).2 hk)⟩
    · rintro C xs w25 rfl ⟨s25, -, hM25⟩ hD2
      simp
      have n25 := hM25.size
      have hD2' : w24.heap.size < w25.heap.size := by
        rcases Nat.lt_or_ge w24.heap.size w25.heap.size with h | h
        · exact h
        · rw [Array.getElem?_eq_none h] at hD2; cases hD2
      have hE2224 := a22.trans hE24
      have hM2225 : Mod (fun k => k = bs) w22 w25 := hE2224.mod.trans hM25
      refine FN.mono (named_c 4 w25) ?_
      rintro _ w26 ⟨rfl, hE26⟩
      have n26 := hE26.size
      have L26 := L22.rebase (hM2225.trans hE26.mod) (fun k h1 h2 => by omega)
      have x26 := (x22.mod hM2225 (by omega)).ext hE26
      have v26 := (v22.mod hM2225 (by omega)).ext hE26
      have s26 := s25.ext hE26
      have d26 := hE26.obj (hM2225.obj d22 (by omega))
      have D26 := hE26.obj hD2
      simp
      have e4 : dropE wk4 (nmN 4) = 5 := by decide
      have e5 : dropV wk4 (nmN 4) = zW := by decide
      refine FN.mono (LineP.drop L26 (by simp) (nmN 4)) ?_
      rintro _ w27 ⟨rfl, L27⟩
      rw [e4, e5]
      have M27 := L27.mod
      have n27 := M27.size
      have x27 := x26.mod M27 (by omega)
      have v27 := v26.mod M27 (by omega)
      have s27 := s26.mod M27 (by omega)
      have d27 := M27.obj d26 (by omega)
      have D27 := M27.obj D26 (by omega)
      have hM27 : Mod (fun k => w.heap.size ≤ k) w w27 := hM22.trans (((hM2225.trans hE26.mod).weaken fun k hk => by omega).trans (M27.weaken fun k hk => by omega))
      have a27 : Ext w27 (w27.alloc (.cells #[u32 0, u32 0, u64 0, u32 0, u32 0, i64 0, i64 0] 30)) := (Ext.refl w27).alloc _
      simp [zW]
      generalize (w27.alloc (.cells #[u32 0, u32 0, u64 0, u32 0, u32 0, i64 0, i64 0] 30)) = w28 at *
      refine WC_drawC 25 (.F 0 <| .F 2 <| .F 5 <| .F 8 <| .F 11 <| .F 14 <| .F 17 <| .C 1 <| .C 3 <| .F 4 <| .C 6 <| .F 7 <| .C 9 <| .F 10 <| .C 12 <| .F 13 <| .C 15 <| .F 16 <| .C 18 <| .F 19 <| .F 20 <| .F 21 <| .F 22 <| .F 23 <| .C 24 <| .Z) (fun _ => false) rfl (by kernel_rfl) fun W29 hW29 => ?_
      have hE29 : Ext w28 W29 := hW29 ▸ Ext.drew _
      simp
      have hnum : ∀ (e : Int) (W : World), FN Try.prog 7 [i64 e] W fun r W' => r = .returned (i64 e) ∧ W' = W := num_c
      refine FN.mono (hnum 0 W29) ?_
      rintro _ W30 ⟨rfl, hw30⟩
      have hE30 : Ext w28 W30 := hw30 ▸ hE29
      simp
      refine KR_ext (hw30 ▸ Ext.refl _) ?_
      simp
      refine FN.mono (hnum 0 W30) ?_
      rintro _ W31 ⟨rfl, hw31⟩
      have hE31 : Ext w28 W31 := hw31 ▸ hE30
      simp
      refine KR_ext (hw31 ▸ Ext.refl _) ?_
      simp
      refine FN.mono (hnum 0 W31) ?_
      rintro _ W32 ⟨rfl, hw32⟩
      have hE32 : Ext w28 W32 := hw32 ▸ hE31
      simp
      refine KR_ext (hw32 ▸ Ext.refl _) ?_
      simp
      refine FN.mono (hnum 0 W32) ?_
      rintro _ W33 ⟨rfl, hw33⟩
      have hE33 : Ext w28 W33 := hw33 ▸ hE32
      simp
      refine KR_ext (hw33 ▸ Ext.refl _) ?_
      simp
      refine FN.mono (hnum 0 W33) ?_
      rintro _ W34 ⟨rfl, hw34⟩
      have hE34 : Ext w28 W34 := hw34 ▸ hE33
      simp
      refine KR_ext (hw34 ▸ Ext.refl _) ?_
      simp
      refine FN.mono (hnum 0 W34) ?_
      rintro _ W35 ⟨rfl, hw35⟩
      have hE35 : Ext w28 W35 := hw35 ▸ hE34
      simp
      refine KR_ext (hw35 ▸ Ext.refl _) ?_
      simp
      refine FN.mono (hnum 0 W35) ?_
      rintro _ W36 ⟨rfl, hw36⟩
      have hE36 : Ext w28 W36 := hw36 ▸ hE35
      have hx := x27.ext (a27.trans hE36)
      have hv := v27.ext (a27.trans hE36)
      have hs := s27.ext (a27.trans hE36)
      have z0 : IntKind.i64.wrap 0 = 0 := by decide
      simp [z0]
      refine KR_ext (hw36 ▸ Ext.refl _) ?_
      simp [z0, hx.c0, hx.c1, hx.c2, hx.c3, wkB]
      have hq : nmB (1, 0, 0, 2) (1, 0, 0, 2) = true := by decide
      refine FN.mono (named_c 2 W36) ?_
      rintro _ W37 ⟨rfl, hE37'⟩
      have hE37 := hE36.trans hE37'
      simp
      refine KR_ext hE37' ?_
      simp [hq]
      refine FN.mono (hnum 220 W37) ?_
      rintro _ W38 ⟨rfl, hw38⟩
      have hE38 : Ext w28 W38 := hw38 ▸ hE37
      simp
      refine FN.mono (hnum 150 W38) ?_
      rintro _ W39 ⟨rfl, hw39⟩
      have hE39 : Ext w28 W39 := hw39 ▸ hE38
      have hv := v27.ext (a27.trans hE39)
      have hs := s27.ext (a27.trans hE39)
      have f5 : ([5, 6] : List Int).foldl (fun n k => 1000 * n + 100 * k + 30) 0 = 530630 := by decide
      rw [f5] at hv
      simp [hv.cell, hs.cell]
      have hq2 : ((sOf [wkC, wkE]).toList == [99, 97]) = true := by rw [ByteArray.toList_eq]; decide
      simp [hq2]
      refine FN.mono (hnum 5 W39) ?_
      rintro _ W40 ⟨rfl, hw40⟩
      have hE40 : Ext w28 W40 := hw40 ▸ hE39
      have D40 := (a27.trans hE40).obj D27
      have d40 := (a27.trans hE40).obj d27
      have n40 := (a27.trans hE40).size
      simp
      have hP2 := Mod.putObj (w := W40) w24.heap.size (.deferred none)
      refine LV_mark D40 (by simp) ?_
      refine LV_mark (hP2.obj d40 (by omega)) (by simp) ?_
      have hP1 := Mod.putObj (w := W40.putObj w24.heap.size (.deferred none)) w19.heap.size (.deferred none)
      simp
      have hMf := (hM27.trans ((a27.trans hE40).mod)).trans ((hP2.weaken fun k hk => by omega).trans (hP1.weaken fun k hk => by omega))
      exact hMf.ext fun _ h => h
end Go.Proofs
namespace Go.Proofs
open Pk
set_option maxRecDepth 10000
theorem putE_0 {s : List Wt} {most : Int} {x : Wt} (h : putE s most x = 0) : badN x.1 = false ∧ badR x = false ∧ findN s x.1 = none ∧ (s.length : Int) < most := by
  unfold putE at h
  cases h1 : badN x.1 with
  | true => rw [h1, if_pos rfl] at h; omega
  | false =>
    rw [h1, if_neg (by simp)] at h
    split at h
    · omega
    · cases h2 : badR x with
      | true => rw [h2, if_pos rfl] at h; omega
      | false =>
        rw [h2, if_neg (by simp)] at h
        cases h3 : findN s x.1 with
        | some y => rw [h3] at h; simp at h
        | none =>
          rw [h3] at h
          simp at h
          exact ⟨rfl, rfl, rfl, h⟩
theorem badR_f {x : Wt} (h : badR x = false) : x.2.2.1 = 2 ∨ x.2.2.1 = 1 ∨ x.2.2.1 = 0 := by
  unfold badR at h
  simp only [Bool.or_eq_false_iff, Bool.not_eq_false', decide_eq_true_eq] at h
  omega
/-- What has been put to one neighbour. -/
structure Good (s : List Wt) : Prop where
  node : ∀ y ∈ s, y.2.1 = 7
  rank : ranked s
  name : ∀ y ∈ s, badN y.1 = false
theorem Good.put {s : List Wt} {most : Int} {x : Wt} (h : Good s) (hx : x.2.1 = 7) (he : putE s most x = 0) : Good (s ++ [x]) := by
  obtain ⟨h1, h2, -, -⟩ := putE_0 he
  have key : ∀ {p : Wt → Prop}, (∀ y ∈ s, p y) → p x → ∀ y ∈ s ++ [x], p y := by
    intro p hp hpx y hy
    rcases List.mem_append.1 hy with hy | hy
    · exact hp y hy
    · simp at hy; subst hy; exact hpx
  exact ⟨key h.node hx, key h.rank (badR_f h2), key h.name h1⟩
def left (s : List Wt) (r : Int) (i : Nat) : List Wt := (s.take i).filter (fun y => decide (y.2.2.1 < r)) ++ (s.drop i).filter (fun y => decide (y.2.2.1 ≤ r))
theorem left_mem {s : List Wt} {r : Int} {i : Nat} {y : Wt} (h : y ∈ left s r i) : y ∈ s := by
  rcases List.mem_append.1 h with h | h
  · exact List.mem_of_mem_take (List.mem_filter.1 h).1
  · exact List.mem_of_mem_drop (List.mem_filter.1 h).1
theorem left_len (s : List Wt) (r : Int) (i : Nat) : (left s r i).length ≤ s.length := by
  unfold left
  rw [List.length_append]
  have h1 := List.length_filter_le (fun y : Wt => decide (y.2.2.1 < r)) (s.take i)
  have h2 := List.length_filter_le (fun y : Wt => decide (y.2.2.1 ≤ r)) (s.drop i)
  have h3 : (s.take i).length + (s.drop i).length = s.length := by rw [← List.length_append, List.take_append_drop]
  omega
theorem left_all {s : List Wt} (h : ranked s) : left s 2 0 = s := by
  unfold left
  rw [List.take_zero, List.drop_zero, List.filter_nil, List.nil_append, List.filter_eq_self]
  intro y hy
  have := h y hy
  simp only [decide_eq_true_eq]
  omega
theorem left_next {s : List Wt} {r : Int} : left s r s.length = left s (r - 1) 0 := by
  unfold left
  rw [List.take_length, List.drop_length, List.take_zero, List.drop_zero, List.filter_nil, List.filter_nil, List.append_nil, List.nil_append]
  congr 1
  funext y
  exact decide_eq_decide.2 (by omega)
theorem left_end {s : List Wt} (h : ranked s) : left s (-1) 0 = [] := by
  unfold left
  rw [List.take_zero, List.drop_zero, List.filter_nil, List.nil_append, List.filter_eq_nil_iff]
  intro y hy
  have := h y hy
  simp only [decide_eq_true_eq]
  omega
theorem left_skip {s : List Wt} {r : Int} {i : Nat} (hi : i < s.length) (h : s[i].2.2.1 ≠ r) : left s r (i + 1) = left s r i := by
  unfold left
  rw [List.take_add_one, List.getElem?_eq_getElem hi, List.filter_append, List.drop_eq_getElem_cons hi, List.filter_cons]
  by_cases h1 : s[i].2.2.1 < r
  · have h2 : s[i].2.2.1 ≤ r := by omega
    simp [h1, h2]
  · have h2 : ¬ s[i].2.2.1 ≤ r := by omega
    simp [h1, h2]
theorem left_split {s : List Wt} {r : Int} {i : Nat} (hi : i < s.length) (h : s[i].2.2.1 = r) :
    left s r i = (s.take i).filter (fun y => decide (y.2.2.1 < r)) ++ s[i] :: (s.drop (i + 1)).filter (fun y => decide (y.2.2.1 ≤ r)) ∧
    left s r (i + 1) = (s.take i).filter (fun y => decide (y.2.2.1 < r)) ++ (s.drop (i + 1)).filter (fun y => decide (y.2.2.1 ≤ r)) := by
  constructor
  · unfold left
    rw [List.drop_eq_getElem_cons hi, List.filter_cons, if_pos (by simp; omega)]
  · unfold left
    rw [List.take_add_one, List.getElem?_eq_getElem hi, List.filter_append]
    simp [h]
theorem qof_app (A B : List Wt) (q : Qu) : qof (A ++ B) q = qof A q ++ qof B q := List.filter_append ..
theorem qof_nil {A : List Wt} {nd r : Int} (h : ∀ z ∈ A, z.2.2.1 ≠ r) : qof A (nd, r) = [] := by
  unfold qof
  rw [List.filter_eq_nil_iff]
  intro z hz
  simp only [quOf, Prod.mk.injEq, decide_eq_true_eq]
  exact fun e => h z hz e.2
theorem qof_hit {y : Wt} {nd r : Int} (h1 : y.2.1 = nd) (h2 : y.2.2.1 = r) (B : List Wt) : qof (y :: B) (nd, r) = y :: qof B (nd, r) := by
  unfold qof
  rw [List.filter_cons, if_pos (by simp [quOf, h1, h2])]
theorem head_left {A B : List Wt} {y : Wt} {r : Int} (hr : r = 2 ∨ r = 1 ∨ r = 0) (h1 : y.2.1 = 7) (h2 : y.2.2.1 = r) (hA : ∀ z ∈ A, z.2.2.1 < r) (hB : ∀ z ∈ B, z.2.2.1 ≤ r) : ∃ l, allOf (A ++ y :: B) 7 = y :: l := by
  have up : ∀ r', r < r' → qof (A ++ y :: B) (7, r') = [] := fun r' hr' => qof_nil fun z hz => by
    rcases List.mem_append.1 hz with hz | hz
    · have := hA z hz; omega
    · rcases List.mem_cons.1 hz with rfl | hz
      · omega
      · have := hB z hz; omega
  have at' : qof (A ++ y :: B) (7, r) = y :: qof B (7, r) := by
    rw [qof_app, qof_nil (fun z hz => by have := hA z hz; omega), qof_hit h1 h2, List.nil_append]
  unfold allOf
  rcases hr with rfl | rfl | rfl
  · exact ⟨_, by rw [at', List.cons_append, List.cons_append]⟩
  · exact ⟨_, by rw [up 2 (by omega), at', List.nil_append, List.cons_append]⟩
  · exact ⟨_, by rw [up 2 (by omega), up 1 (by omega), at', List.nil_append, List.nil_append]⟩
theorem first_left {s : List Wt} {r : Int} {i : Nat} (hg : Good s) (hr : r = 2 ∨ r = 1 ∨ r = 0) (hi : i < s.length) (h : s[i].2.2.1 = r) : firstE (left s r i) 7 = 0 ∧ firstV (left s r i) 7 = s[i] := by
  obtain ⟨l, hl⟩ := head_left (A := (s.take i).filter (fun y => decide (y.2.2.1 < r))) (B := (s.drop (i + 1)).filter (fun y => decide (y.2.2.1 ≤ r))) hr (hg.node s[i] (by simp)) h
    (fun z hz => by simpa using (List.mem_filter.1 hz).2) (fun z hz => by simpa using (List.mem_filter.1 hz).2)
  rw [← (left_split hi h).1] at hl
  have h0 : firstE (left s r i) 7 = 0 := by unfold firstE; rw [hl]; simp
  exact ⟨h0, by unfold firstV; rw [if_pos h0, hl]; rfl⟩
theorem mdel_mid {A B : List Wt} {y : Wt} (h : ((A ++ y :: B).map (·.1)).Nodup) : mdel (A ++ y :: B) y.1 = A ++ B := by
  rw [List.map_append, List.map_cons, List.nodup_append] at h
  obtain ⟨-, h2, h3⟩ := h
  have h4 := (List.nodup_cons.1 h2).1
  unfold mdel
  rw [List.filter_append, List.filter_cons]
  have e1 : A.filter (fun p => decide (p.1 ≠ y.1)) = A := List.filter_eq_self.2 fun z hz => by
    have := h3 z.1 (List.mem_map.2 ⟨z, hz, rfl⟩) y.1 (by simp)
    simpa using this
  have e2 : B.filter (fun p => decide (p.1 ≠ y.1)) = B := List.filter_eq_self.2 fun z hz => by
    have : z.1 ≠ y.1 := fun e => h4 (e ▸ List.mem_map.2 ⟨z, hz, rfl⟩)
    simpa using this
  rw [e1, e2]
  simp
theorem drop_left {s : List Wt} {r : Int} {i : Nat} (hg : Good s) (hn : ((left s r i).map (·.1)).Nodup) (hi : i < s.length) (h : s[i].2.2.1 = r) :
    dropE (left s r i) s[i].1 = 0 ∧ dropV (left s r i) s[i].1 = s[i] ∧ mdel (left s r i) s[i].1 = left s r (i + 1) := by
  have hm : s[i] ∈ left s r i := by rw [(left_split hi h).1]; simp
  have hf := findN_of hn hm
  have h0 : dropE (left s r i) s[i].1 = 0 := by unfold dropE; rw [hg.name s[i] (by simp), hf]; rfl
  refine ⟨h0, by unfold dropV; rw [if_pos h0, hf]; rfl, ?_⟩
  have h1 := (left_split hi h).1
  have h2 := (left_split hi h).2
  rw [h1] at hn ⊢
  rw [mdel_mid hn, h2]
theorem drop_more {s : List Wt} {x : Wt} (hn : ((s ++ [x]).map (·.1)).Nodup) (hb : badN x.1 = false) : dropE (s ++ [x]) x.1 = 0 ∧ dropV (s ++ [x]) x.1 = x ∧ mdel (s ++ [x]) x.1 = s := by
  have hf := findN_of hn (show x ∈ s ++ [x] by simp)
  have h0 : dropE (s ++ [x]) x.1 = 0 := by unfold dropE; rw [hb, hf]; rfl
  refine ⟨h0, by unfold dropV; rw [if_pos h0, hf]; rfl, ?_⟩
  rw [mdel_mid hn, List.append_nil]
end Go.Proofs
