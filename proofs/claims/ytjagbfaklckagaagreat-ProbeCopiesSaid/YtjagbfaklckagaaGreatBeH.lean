/-
  Contracts of the functions that the law reaches, step by step.
-/
import Derived.Test.YtjagbfaklckagaaGreatSrtF
import Derived.Test.YtjagbfaklckagaaGreatBdA
import Derived.Test.YtjagbfaklckagaaGreatBeF
import Derived.Test.YtjagbfaklckagaaGreatBdD
namespace Go.Proofs
open Pk
set_option maxRecDepth 10000
/-! ### Keys of uint32, sorted -/
abbrev KOML := List (Int × Int)
abbrev KOMV (w : World) (v : Value) (m : KOML) := MapV (Value.int .u32) (Value.int .u64) w v m
theorem kOtm : Tryz.prog.underlying 138 = some (.map 28 27) := by simp
theorem kOit {w : World} {b1 : Nat} {v : Value} {m : KOML} (v1 : Var w b1 v) (hm : KOMV w v m) :
    Iter Tryz.prog (.func (.func 98) #[] #[ptr b1]) (fun x => [.int .u32 x]) (fun xs => xs.Perm (m.map (·.1))) (fun pre => pre.length ≤ m.length) (fun k => k = b1 ∨ v = .map (some k)) w := by
  intro y C0 J Jx W hA hcap hC0 hJ hJx hy h0
  have k1 := hcap b1 (.inl rfl)
  have k2 := fun r e => hcap r (.inr e)
  have v1W := v1.agr hA k1.1
  have hmW : KOMV W v m := hm.agr hA fun r e => hm.lt e
  refine FN_enter Tryz.func98 rfl rfl (by kernel_rfl) ?_
  obtain ⟨o, hr, hi⟩ := hmW.range (P := Tryz.prog) kOtm
  simp [v1W.cell, hr]
  have hE := (Ext.refl W).alloc o
  have h0' := hJ C0 [] W (W.alloc o) h0 hE.agr
  obtain ⟨ib, hib⟩ : ∃ ib, ib = W.heap.size := ⟨_, rfl⟩
  have hsz : (W.alloc o).heap.size = ib + 1 := by rw [hib]; simp
  rw [← hib] at hi ⊢
  generalize (W.alloc o) = w1 at *
  refine WC_loop (fun k ρ ds w' => ∃ (idxs : List Nat) (C : Nat → Prop), k + idxs.length = m.length ∧ ρ 0 = y ∧ ρ 5 = ptr ib ∧ ds = [] ∧ VIter (Value.int .u32) (Value.int .u64) w' ib v m idxs ∧ J C ((seenOf m idxs).map (·.1)) w' ∧
    (∀ k, C k → C0 k ∨ ib < k) ∧ Agr (fun k => k < W.heap.size ∧ ¬ C0 k) W w') m.length ⟨[], C0, by simp, by simp, by simp, rfl, hi, h0', fun k h => .inl h, hE.agr⟩ ?_
  rintro k ρ ds w2 ⟨idxs, C, hk, e0, e5, rfl, hI, hj, hC, hAg⟩
  have hCi : ¬ C ib := fun h => by
    rcases hC _ h with h | h
    · have := hC0 _ h; omega
    · omega
  have hCr : ∀ r, v = .map (some r) → ¬ C r := fun r e h => by
    have h3 := hm.lt e
    have h4 := hA.size
    rcases hC _ h with h | h
    · exact (k2 r e).2 h
    · omega
  rcases hI.next (P := Tryz.prog) 0 with ⟨hp, hrun⟩ | ⟨i, p, w3, hpi, hni, hrun, hI3, hM3, hent, hs3⟩
  · simp [e5, hrun]
    exact ⟨C, .inl ⟨_, (seenOf_all hp).map _, hj⟩⟩
  · have hj3 : J C ((seenOf m idxs).map (·.1)) w3 := hJ _ _ _ _ hj (hM3.agr fun j hq e => by
      subst e
      rcases hq with hq | hq
      · omega
      · exact hCi hq)
    have hb3 := hI3.bound
    simp only [List.length_append, List.length_singleton] at hb3
    have hsp : ((seenOf m idxs).map (·.1) ++ [p.1]).length ≤ m.length := by
      have := seenOf_len m idxs
      simp; omega
    simp [e0, e5, hrun, hent]
    refine CV.mono (hy C _ p.1 w3 hsp hj3) ?_
    rintro _ w4 (⟨rfl, C', hj', hown⟩ | ⟨rfl, C', hj', hown⟩)
    · simp [e0, e5]
      have hM4 := hown.mod
      refine ⟨k - 1, by omega, idxs ++ [i], by simp; omega, hI3.mod hM4 hCr hCi, C', ?_, ?_, ?_⟩
      · rw [seenOf_snoc hpi, List.map_append]; exact hj'
      · intro k' hk'
        rcases hown.own k' hk' with h | h
        · exact hC k' h
        · have := hI3.lt.2; exact .inr (by omega)
      · refine hAg.trans ((hM3.agr fun i hi e => by subst e; omega).trans (hM4.agr fun i hi hc => ?_))
        rcases hC i hc with h | h
        · exact hi.2 h
        · omega
    · simp
      exact ⟨C', .inr ⟨_, hsp, hj'⟩⟩
theorem kOappendSeq_c {w : World} {gf : FuncId} {first caps : Array Value} {S Sp : List Int → Prop} {Cap : Nat → Prop} (hit : Iter Tryz.prog (.func (.func gf) first caps) (fun x => [.int .u32 x]) S Sp Cap w) (hent : ∀ l w, (callFunc gf l).run Tryz.prog w = .ok (.enter gf l) w)
    (hcap : ∀ k, Cap k → k < w.heap.size) (hb : ∀ xs, Sp xs → xs.length ≤ 1048576) :
    FN Tryz.prog 125 [.slice none 0 0, .func (.func gf) first caps] w fun e w' => ∃ xs v, S xs ∧ e = .returned v ∧ w'.ownsRow w.heap.size 28 1 v xs.length (xs.map (.int .u32)) ∧ Ext w w' := by
  refine FN_enter Tryz.func125 rfl rfl (by kernel_rfl) ?_
  simp
  have v1 := Var.new w (.slice none 0 0) 140
  have he := (Ext.refl w).alloc (.cells #[.slice none 0 0] 140)
  have hsz : (w.alloc (.cells #[.slice none 0 0] 140)).heap.size = w.heap.size + 1 := by simp
  generalize (w.alloc (.cells #[.slice none 0 0] 140)) = w1 at *
  refine WC_rangeFunc (gf := gf) (first := first) (caps := caps) (enc := fun x => [.int .u32 x]) (S := S) (Sp := Sp) (Cap := Cap) rfl hent (hit.ext he hcap) (by simp) (fun k => k = w.heap.size)
    (fun C pre W => ∃ v, Var W w.heap.size v ∧ W.ownsRow (w.heap.size + 1) 28 1 v pre.length (pre.map (.int .u32)) ∧ (∀ k, C k ↔ k = w.heap.size ∨ (slN v = false ∧ k = slB v)) ∧ Ext w W) (fun _ _ _ _ => False)
    (fun k hk => ⟨by have := hcap k hk; omega, by have := hcap k hk; omega⟩) (fun k hk => by omega) ?_ (fun _ _ _ _ _ h _ => h.elim) ⟨_, v1, World.ownsRow_nil _ _ _ _, by simp [slN], he⟩ ?ρ ?ha ?_ ?_ (fun _ _ _ _ _ h _ => h.elim)
  case ha =>
    intro l x W
    simp
    exact rfl
  · rintro C pre W W' ⟨v, h1, h2, h3, h4⟩ hag
    refine ⟨v, h1.agr hag (.inl (by omega)), own_keep h2 fun hn hl => hag.blk _ hl (.inr ((h3 _).2 (.inr ⟨hn, rfl⟩))), h3, ?_⟩
    exact ⟨hag.os.trans h4.os, hag.tape.trans h4.tape, hag.out.trans h4.out, Nat.le_trans h4.size hag.size, fun i hi => (hag.blk i (Nat.lt_of_lt_of_le hi h4.size) (.inl (by omega))).trans (h4.blk i hi)⟩
  · rintro l C pre x W hsp ⟨v, h1, h2, h3, h4⟩ - - -
    simp [h1.cell]
    have e1 := (Ext.refl W).alloc (.cells #[.int .u32 x] 28)
    have h1' := h1.ext e1
    have h2' := own_ext h2 e1
    have hlen := hb _ hsp
    rw [List.length_append, List.length_singleton] at hlen
    obtain ⟨v', W2, hr, ho, hm, hnew⟩ := append_own (P := Tryz.prog) (t := 140) (ty := 140) (e := 28) (s := 1) (by simp) (by simp) (by kernel_rfl) h2' (Sl.one W (.int .u32 x) 28) (by intro u hu; rw [List.mem_singleton] at hu; subst hu; rfl) hlen (by have := h1'.lt; omega)
    simp [hr]
    have g1 := h1'.mod hm (fun h => by have := own_ge h2' h.1; omega)
    obtain ⟨a', c', rfl⟩ := own_val ho
    simp [g1.cell, g1.thaw]
    have hM := Mod.setCell (S := fun k => k = w.heap.size) (Mod.refl _ W2) ⟨w.heap.size, 0, none⟩ (.slice a' (pre.length + 1) c') (.inl rfl)
    have hCge : ∀ i, C i → w.heap.size ≤ i := fun i hi => by
      rcases (h3 i).1 hi with h | ⟨h, h'⟩
      · omega
      · have := own_ge h2 h; omega
    have hm' : Pk.Mod C W W2 := e1.mod.trans' hm (S := C) (fun i hi => .inl ((h3 i).2 (.inr hi)))
    have hx : Ext w W2 := ((h4.mod (S := fun k => w.heap.size ≤ k)).trans (hm'.weaken hCge)).ext (fun _ h => h)
    refine ⟨fun k => k = w.heap.size ∨ (slN (.slice a' (pre.length + 1) c') = false ∧ k = slB (.slice a' (pre.length + 1) c')), ⟨_, g1.set _, own_keep ho ?_, fun k => Iff.rfl, ?_⟩, ?_, ?_⟩
    · intro hn hl
      refine hM.blk _ hl ?_
      have := own_ge ho hn
      omega
    · exact hx.setCell _ _ (Nat.le_refl _)
    · exact hm'.trans (hM.weaken fun i hi => (h3 i).2 (.inl hi))
    · rintro k (h | ⟨h, rfl⟩)
      · exact .inl ((h3 k).2 (.inl h))
      · rcases hnew h with ⟨h5, h6⟩ | h5
        · exact .inl ((h3 _).2 (.inr ⟨h5, h6⟩))
        · have := e1.size; exact .inr (by omega)
  · rintro C xs W hS ⟨v, h1, h2, h3, h4⟩ hD
    simp [h1.cell]
    refine LV_mark hD (by simp) ?_
    simp
    refine ⟨xs, hS, own_keep (own_lower h2 (Nat.le_succ _)) fun hn hl => World.putObj_heap_other ?_, h4.putObj _ _ (by omega)⟩
    intro e
    obtain ⟨c, hc⟩ := own_obj h2 hn
    rw [e, hD] at hc
    cases hc
theorem kOcollect_c {w : World} {gf : FuncId} {first caps : Array Value} {S Sp : List Int → Prop} {Cap : Nat → Prop} (hit : Iter Tryz.prog (.func (.func gf) first caps) (fun x => [.int .u32 x]) S Sp Cap w) (hent : ∀ l w, (callFunc gf l).run Tryz.prog w = .ok (.enter gf l) w)
    (hcap : ∀ k, Cap k → k < w.heap.size) (hb : ∀ xs, Sp xs → xs.length ≤ 1048576) :
    FN Tryz.prog 96 [.func (.func gf) first caps] w fun e w' => ∃ xs v, S xs ∧ e = .returned v ∧ w'.ownsRow w.heap.size 28 1 v xs.length (xs.map (.int .u32)) ∧ Ext w w' := by
  refine FN_enter Tryz.func96 rfl rfl (by kernel_rfl) ?_
  simp
  refine FN.mono (kOappendSeq_c hit hent hcap hb) ?_
  rintro _ w1 ⟨xs, v, h1, rfl, h2, h3⟩
  simp
  exact ⟨xs, h1, h2, h3⟩
theorem kOkeys_c {w : World} (o : Option Nat) : FN Tryz.prog 85 [.map o] w fun e w' => e = .returned (.func (.func 98) #[] #[ptr w.heap.size]) ∧ w' = w.alloc (.cells #[.map o] 138) := by
  refine FN_enter Tryz.func85 rfl rfl (by kernel_rfl) ?_
  simp
def kOisKeys (m : KOML) (ys : List Int) : Prop := ys.Perm (m.map (·.1)) ∧ ys.Pairwise (· ≤ ·)
theorem kOuniq {m : KOML} {a b : List Int} (h : kOisKeys m a) (h' : kOisKeys m b) : a = b :=
  List.Perm.eq_of_pairwise (fun _ _ _ _ h1 h2 => Int.le_antisymm h1 h2) h.2 h'.2 (h.1.trans h'.1.symm)
theorem kOex (m : KOML) : ∃ ys, kOisKeys m ys := by
  refine ⟨(m.map (·.1)).mergeSort (fun a b => decide (a ≤ b)), List.mergeSort_perm _ _, ?_⟩
  have := List.pairwise_mergeSort (le := fun a b : Int => decide (a ≤ b)) (fun a b c => by simp; omega) (fun a b => by simp; omega) (m.map (·.1))
  exact this.imp fun h => by simpa using h
theorem kOsorted_c {w : World} {b1 : Nat} {v : Value} {m : KOML} (v1 : Var w b1 v) (hm : KOMV w v m) (hl : m.length ≤ 255) :
    FN Tryz.prog 84 [.func (.func 98) #[] #[ptr b1]] w fun e w' => ∃ u ys, e = .returned u ∧ kOisKeys m ys ∧ Sl w' 1 u ys.length (ys.map (.int .u32)) ∧ Ext w w' ∧ (slN u = false → w.heap.size ≤ slB u) := by
  refine FN_enter Tryz.func84 rfl rfl (by kernel_rfl) ?_
  simp
  have hcap : ∀ k, (k = b1 ∨ v = .map (some k)) → k < w.heap.size := fun k hk => by
    rcases hk with rfl | hk
    · exact v1.lt
    · exact hm.lt hk
  refine FN.mono (kOcollect_c (kOit v1 hm) (fun _ _ => callFunc_enter Tryz.func98 rfl rfl _ _) hcap (fun xs hx => by omega)) ?_
  rintro _ w1 ⟨xs, u, hp, rfl, ho, hE⟩
  simp
  have hxl : xs.length = m.length := by have := hp.length_eq; simpa using this
  refine FN.mono (Suint32.sorts (sl_of_own ho) (fun j hj => own_thaw ho (by omega) _) (by omega)) ?_
  rintro _ w4 ⟨⟨u', rfl⟩, ys, h1, h2, h3, h4⟩
  have hM4 : Ext w w4 := ((hE.mod (S := fun k => w.heap.size ≤ k)).trans (h4.weaken fun i hi => by have := own_ge ho hi.1; have := hi.2; omega)).ext fun _ h => h
  have hyl : ys.length = xs.length := h1.length_eq
  simp
  exact ⟨ys, ⟨h1.trans hp, h2⟩, h3, hM4, fun hn => own_ge ho hn⟩
/-- The entries by their keys, rising: the closure's iterator. -/
def kOseg {α : Type} (l : List α) (pre : List α) : Prop := pre ≠ [] ∧ ∃ suf, l = pre ++ suf
def kOval (m : KOML) (k : Int) : Value := ((mget m k).map (Value.int .u64)).getD (.int .u64 0)
def kOst (m : KOML) (k : Int) : List Value := [.int .u32 k, kOval m k]
theorem kOsteps {w : World} {b : Nat} {o : Option Nat} {m : KOML} {ys : List Int} (kk : KeyEq Tryz.prog 28 (Value.int .u32)) (zz : ∀ w, (zeroValue 27).run Tryz.prog w = .ok (.int .u64 0) w) (v1 : Var w b (.map o)) (hm : KOMV w (.map o) m) (hl : m.length ≤ 255) (hy : kOisKeys m ys) :
    Iter Tryz.prog (.func (.func 83) #[] #[ptr b]) (kOst m) (· = ys) (kOseg ys) (fun k => k = b ∨ Value.map o = .map (some k)) w := by
  intro y C0 J Jx W hA hcap hC0 hJ hJx hyl h0
  have k1 := hcap b (.inl rfl)
  have k2 := fun r e => hcap r (.inr e)
  have v1W := v1.agr hA k1.1
  have hmW : KOMV W (.map o) m := hm.agr hA fun r e => hm.lt e
  refine FN_enter Tryz.func83 rfl rfl (by kernel_rfl) ?_
  simp
  refine WC_scope 0 _ rfl ?_
  simp [v1W.cell]
  refine FN.mono (kOkeys_c (w := W) o) ?_
  rintro _ w1 ⟨rfl, hw1⟩
  simp
  have hE1 : Ext W w1 := hw1 ▸ (Ext.refl W).alloc _
  have vk : Var w1 W.heap.size (.map o) := by rw [hw1]; exact Var.new W _ 138
  refine FN.mono (kOsorted_c vk (hmW.ext hE1) hl) ?_
  rintro _ w2 ⟨u, ys', rfl, hy', hs, hE2, hfr⟩
  have := kOuniq hy hy'
  subst this
  have hlen := fun ty W => hs.isLen (P := Tryz.prog) (t := 140) (by simp) ty W
  simp [hlen]
  have hE := hE1.trans hE2
  have h0' := hJ C0 [] W w2 h0 hE.agr
  have hyb : ys.length ≤ 255 := by have := hy.1.length_eq; simp at this; omega
  have hus : 0 < ys.length → W.heap.size ≤ slB u ∧ slB u < w2.heap.size := fun h => by
    have h1 := hs.lt (by simpa using h)
    have h2 := hs.blk
    refine ⟨?_, h1⟩
    have := hE1.size
    rcases h2 with h2 | ⟨b', o', c', rfl, _⟩
    · omega
    · have := hfr rfl; omega
  have hsz := hE.size
  refine WC_loop (fun k ρ ds w' => ∃ (i : Nat) (C : Nat → Prop), k = ys.length - i ∧ i ≤ ys.length ∧ ρ 0 = y ∧ ρ 1 = ptr b ∧ ρ 7 = u ∧ ρ 8 = .int .i64 ys.length ∧ ρ 9 = .int .i64 i ∧ ds = [] ∧ J C (ys.take i) w' ∧
    (∀ k, C k → C0 k ∨ w2.heap.size ≤ k) ∧ Agr (fun k => k < w2.heap.size ∧ ¬ C0 k) w2 w') ys.length ⟨0, C0, by simp, by simp, by simp, by simp, by simp, by simp, by simp, rfl, h0', fun k h => .inl h, Agr.refl _ _⟩ ?_
  rintro k ρ ds w3 ⟨i, C, rfl, hi, e0, e1, e7, e8, e9, rfl, hj, hC, hAg⟩
  by_cases hlt : i < ys.length
  · have hb := k1.2
    have v3 := ((v1W.ext hE).agr hAg ⟨(v1W.ext hE).lt, hb⟩)
    have hm3 : KOMV w3 (.map o) m := (hmW.ext hE).agr hAg fun r e => ⟨(hmW.ext hE).lt e, (k2 r e).2⟩
    have hs3 : Sl w3 1 u ys.length (ys.map (.int .u32)) := hs.agr hAg ⟨(hus (by omega)).2, fun hc => by have := hC0 _ hc; have := (hus (by omega)).1; omega⟩
    have c := hs3.at_ i (.int .u32 ys[i]) (by simp [hlt])
    have ix := hs3.index (P := Tryz.prog) (t := 140) (by simp) .i64 i (by omega) (by omega) w3
    have hlk := hm3.lookup kk kOtm (zz w3) ys[i] false
    rw [if_neg (by simp)] at hlk
    rw [show ((mget m ys[i]).map (Value.int .u64)).getD (.int .u64 0) = kOval m ys[i] from rfl] at hlk
    have htk : ys.take (i + 1) = ys.take i ++ [ys[i]] := by rw [List.take_add_one, List.getElem?_eq_getElem hlt]; rfl
    have hsp : kOseg ys (ys.take i ++ [ys[i]]) := ⟨List.append_ne_nil_of_right_ne_nil _ (by simp), ys.drop (i + 1), by rw [← htk, List.take_append_drop]⟩
    simp [e0, e1, e7, e8, e9, hlt, ix, c, v3.cell, hlk]
    refine CV.mono (hyl C (ys.take i) ys[i] w3 hsp hj) ?_
    rintro _ w4 (⟨rfl, C', hj', hown⟩ | ⟨rfl, C', hj', hown⟩)
    · have hAg' : Agr (fun k => k < w2.heap.size ∧ ¬ C0 k) w3 w4 := hown.mod.agr (fun k hk hc => by rcases hC k hc with h | h; exact hk.2 h; omega)
      simp [e0, e1, e7, e8, e9]
      refine ⟨ys.length - (i + 1), by omega, i + 1, rfl, by omega, by rw [wrap64 _ (by omega) (by omega)]; rfl, C', by rw [htk]; exact hj', ?_, hAg.trans hAg'⟩
      intro k hk
      rcases hown.own k hk with h | h
      · exact hC k h
      · have := hAg.size; exact .inr (by omega)
    · simp
      exact ⟨C', .inr ⟨_, hsp, hj'⟩⟩
  · simp [e8, e9, hlt]
    have : i = ys.length := by omega
    rw [this, List.take_length] at hj
    exact ⟨C, .inl hj⟩
theorem kU32 : KeyEq Tryz.prog 28 (Value.int .u32) := keyEq_int (by simp)
theorem tmN : Tryz.prog.underlying 138 = some (.map 28 27) := by simp
theorem mset_fresh {κ ν : Type} [DecidableEq κ] {m : List (κ × ν)} {k : κ} (v : ν) (h : k ∉ m.map (·.1)) : mset m k v = m ++ [(k, v)] := by
  have hn : (mget m k).isSome = false := by
    cases hs : (mget m k).isSome with
    | false => rfl
    | true =>
      obtain ⟨x, hx⟩ := Option.isSome_iff_exists.1 hs
      unfold mget at hx
      obtain ⟨p, hp, rfl⟩ := Option.map_eq_some_iff.1 hx
      have h1 := List.mem_of_find?_eq_some hp
      have h2 := List.find?_some hp
      simp only [decide_eq_true_eq] at h2
      exact absurd (List.mem_map.2 ⟨p, h1, h2⟩) h
  unfold mset
  rw [hn]
  rfl
structure OpI (w w' : World) (rQ ib rN : Nat) (Q : MQ) (idxs : List Nat) : Prop where
  it : MIter ekP ewQ w' ib rQ Q idxs
  mp : MapAt (Value.int .u32) (Value.int .u64) w' rN ((seenOf Q idxs).map (·.2))
  ext : Ext w w'
set_option maxHeartbeats 1000000 in
theorem open_c {w : World} {t rF rQ rA : Nat} {b : Bd} (h : BdAt w t rF rQ rA b) (hnd : (b.Q.map (·.2.1)).Nodup) :
    FN Tryz.prog 53 [ptr t] w fun e w' => ∃ bS rN m, e = .returned (.func (.func 83) #[] #[ptr bS]) ∧ Var w' bS (.map (some rN)) ∧ MapAt (Value.int .u32) (Value.int .u64) w' rN m ∧ m.Perm (b.Q.map (·.2)) ∧ Ext w w' := by
  refine FN_enter Tryz.func53 rfl rfl (by kernel_rfl) ?_
  simp
  have hE1 : Ext w ((w.alloc (.map #[] 0)).alloc (.cells #[.map (some w.heap.size)] 138)) := ((Ext.refl _).alloc _).alloc _
  have hm1 : MapAt (Value.int .u32) (Value.int .u64) ((w.alloc (.map #[] 0)).alloc (.cells #[.map (some w.heap.size)] 138)) w.heap.size [] := (MapAt.alloc0 _ _ w).ext ((Ext.refl _).alloc _)
  have v1 : Var ((w.alloc (.map #[] 0)).alloc (.cells #[.map (some w.heap.size)] 138)) (w.heap.size + 1) (.map (some w.heap.size)) := by
    have := Var.new (w.alloc (.map #[] 0)) (.map (some w.heap.size)) 138
    simpa using this
  have s1 : ((w.alloc (.map #[] 0)).alloc (.cells #[.map (some w.heap.size)] 138)).heap.size = w.heap.size + 1 + 1 := by simp
  generalize ((w.alloc (.map #[] 0)).alloc (.cells #[.map (some w.heap.size)] 138)) = w1 at *
  have h1 := h.ext hE1
  refine FN.mono (none_c h1) ?_
  rintro _ w1 ⟨rfl, rfl⟩
  obtain ⟨o, hr, hi⟩ := h1.mQ.range (P := Tryz.prog) tmQ
  simp [h1.blk.cell 1 _ rfl, hr]
  have hE2 := (Ext.refl w1).alloc o
  have hm2 := hm1.ext hE2
  have v2 := v1.ext hE2
  have s2 : (w1.alloc o).heap.size = w1.heap.size + 1 := by simp
  obtain ⟨ib, hib⟩ : ∃ ib, ib = w1.heap.size := ⟨_, rfl⟩
  rw [← hib] at hi s2 ⊢
  have hX := hE1.trans hE2
  generalize (w1.alloc o) = w2 at *
  refine WC_loop (fun k ρ ds w' => ∃ (idxs : List Nat), k + idxs.length = b.Q.length ∧ ρ 3 = ptr (w.heap.size + 1) ∧ ρ 14 = ptr ib ∧ ds = [] ∧ OpI w w' rQ ib w.heap.size b.Q idxs ∧ Var w' (w.heap.size + 1) (.map (some w.heap.size))) b.Q.length ⟨[], by simp, by simp, by simp, rfl, ⟨hi, hm2, hX⟩, v2⟩ ?_
  rintro k ρ ds w3 ⟨idxs, hk, e3, e14, rfl, ⟨hI, hm3, hE⟩, v3⟩
  rcases hI.next (P := Tryz.prog) 0 with ⟨hp, hrun⟩ | ⟨i, p, w4, hpi, hni, hrun, hI4, hM4, hent, hs4⟩
  · simp [e14, hrun, e3]
    exact ⟨_, v3, _, hm3, (seenOf_all hp).map _, hE⟩
  · have hb4 := hI4.bound
    simp only [List.length_append, List.length_singleton] at hb4
    have hseen : seenOf b.Q (idxs ++ [i]) = seenOf b.Q idxs ++ [p] := seenOf_snoc hpi
    have hE4 : Ext w w4 := ((hE.mod (S := fun k => w.heap.size ≤ k)).trans (hM4.weaken fun i hi => by omega)).ext fun _ h => h
    have hm4 := hm3.mod hM4 (by omega)
    have v4 := v3.mod hM4 (by omega)
    have hfr : p.2.1 ∉ ((seenOf b.Q idxs).map (·.2)).map (·.1) := by
      intro hin
      rw [List.map_map] at hin
      obtain ⟨q, hq, hqe⟩ := List.mem_map.1 hin
      unfold seenOf at hq
      obtain ⟨j, hj, hjq⟩ := List.mem_filterMap.1 hq
      have hji : j = i := by
        have h1 : (b.Q.map (·.2.1))[j]? = some p.2.1 := by rw [List.getElem?_map, hjq]; simpa using hqe
        have h2 : (b.Q.map (·.2.1))[i]? = some p.2.1 := by rw [List.getElem?_map, hpi]; rfl
        have hl : j < (b.Q.map (·.2.1)).length := (List.getElem?_eq_some_iff.1 h1).1
        exact (List.getElem?_inj hl hnd).1 (h1.trans h2.symm)
      exact hni (hji ▸ hj)
    have hset := mset_fresh p.2.2 hfr
    obtain ⟨⟨k1, k2⟩, n, a⟩ := p
    simp [ekP, ewQ, pairC, quesC] at hent
    have hE5 : Ext w4 (w4.alloc (.cells #[u32 n, u64 a] 77)) := (Ext.refl _).alloc _
    have bv : Blk (w4.alloc (.cells #[u32 n, u64 a] 77)) w4.heap.size [u32 n, u64 a] := Blk.new w4 _ _
    have hI5 := hI4.mod (S := fun _ => False) hE5.mod _root_.id _root_.id
    have hm5 := hm4.ext hE5
    have v5 := v4.ext hE5
    simp [e14, hrun, hent]
    generalize (w4.alloc (.cells #[u32 n, u64 a] 77)) = w5 at *
    obtain ⟨w6, hu, hm6, hM6, hs6⟩ := hm5.update (P := Tryz.prog) kU32 tmN n a
    simp [e3, v5.cell, bv.cell 0 _ rfl, bv.cell 1 _ rfl, hu, e14]
    have hlt := h.mQ.lt
    refine ⟨k - 1, by omega, idxs ++ [i], by simp; omega, ⟨hI5.mod hM6 (by omega) (by omega), ?_, ?_⟩, v5.mod hM6 (by omega)⟩
    · rw [hseen, List.map_append]
      simp only [List.map_cons, List.map_nil]
      rw [← hset]; exact hm6
    · exact (((hE4.trans hE5).mod (S := fun k => w.heap.size ≤ k)).trans (hM6.weaken fun i hi => by omega)).ext fun _ h => h
end Go.Proofs
namespace Go.Proofs
open Pk
set_option maxRecDepth 10000
/-- The open questions, as the document and the board tell them. -/
theorem Both.openQ {w : World} {t rF rQ rA : Nat} {B : Bd} {V : RV} {b : RB} {i : Nat} (h : Both w t rF rQ rA B V b i) {m : KOML} (hm : m.Perm (B.Q.map (·.2))) {R : List Qt} (hR : isOpen b.Q R) :
    kOisKeys m (R.map (·.n)) ∧ ∀ q ∈ R, kOval m q.n = u64 q.a := by
  have hk : (B.Q.map (·.2)).Perm (b.Q.map fun q => (q.n, q.a)) := by
    have := h.tie.q.map (·.2)
    rw [List.map_map] at this
    exact this
  have hmk := hm.trans hk
  have hn : (m.map (·.1)).Perm (b.Q.map (·.n)) := by
    have := hmk.map (·.1)
    rw [List.map_map] at this
    exact this
  refine ⟨⟨(hR.2.map (·.n)).trans hn.symm, List.pairwise_map.2 hR.1⟩, fun q hq => ?_⟩
  have hnd : (m.map (·.1)).Nodup := hn.nodup_iff.2 h.num.nd
  have hq' : (q.n, q.a) ∈ m := hmk.mem_iff.2 (List.mem_map.2 ⟨q, hR.2.mem_iff.1 hq, rfl⟩)
  unfold kOval
  rw [mget_of_mem hnd hq']
  rfl
theorem Both.ndQ {w : World} {t rF rQ rA : Nat} {B : Bd} {V : RV} {b : RB} {i : Nat} (h : Both w t rF rQ rA B V b i) : (B.Q.map (·.2.1)).Nodup := by
  have hk := h.tie.q.map (·.2.1)
  rw [List.map_map] at hk
  exact hk.nodup_iff.2 h.num.nd
set_option maxHeartbeats 4000000 in
theorem stands_c {w : World} {t rF rQ rA : Nat} {B : Bd} {V : RV} {b : RB} {i : Nat} (h : Both w t rF rQ rA B V b i) (hi : i ≤ 200) (q : Ac) (z : Int) :
    FN Tryz.prog 18 [ptr t, rbV V b, acV q, i64 z] w fun e w' => e = .returned (.bool true) ∧ Ext w w' := by
  refine FN_enter Tryz.func18 rfl rfl (by kernel_rfl) ?_
  have hT := h.tie
  have hkf := h.ok.f
  have lQ : b.Q.length ≤ 200 := by have := h.ok.lq; rw [hT.lenQ] at this; omega
  have lA : b.A.length ≤ 200 := by have := h.ok.la; rw [hT.lenA] at this; omega
  have lF : b.F.length ≤ 200 := by have := h.ok.lf; rw [hT.lenF] at this; omega
  have eQ := hT.lenQ
  have eA := hT.lenA
  have eF := hT.lenF
  have hB := h.bd
  have hR := h.rb
  have rtel := fun w (hb : BdAt w t rF rQ rA B) (h : RbAt w V b) (x : Ac) => tells_c hb h hT hkf (by omega) (by omega) x
  have rop := fun w (h : RbAt w V b) => ropen_c h (by omega)
  obtain ⟨qa, qc, aa, ac, fa, fc, rfl⟩ := hR.open
  have lenQ := fun ty W => hR.q.isLen (P := Tryz.prog) (t := 50) (by simp) ty W
  have lenA := fun ty W => hR.a.isLen (P := Tryz.prog) (t := 51) (by simp) ty W
  have lenF := fun ty W => hR.f.isLen (P := Tryz.prog) (t := 51) (by simp) ty W
  simp
  obtain ⟨N0, hC⟩ : ∃ N0, N0 = w.heap.size := ⟨_, rfl⟩
  have hE1 : Ext w ((((w.alloc (.cells #[.slice qa b.Q.length qc, .slice aa b.A.length ac, .slice fa b.F.length fc, u64 b.p, u32 b.n] 53)).alloc (.cells #[i64 q.what, i64 q.r.kind, u32 q.r.nn, u32 q.r.ns, u64 q.r.nt, u32 q.r.nq, i64 q.r.what, i64 q.r.why, u64 q.r.at', u64 q.r.num, u32 q.r.node, u32 q.r.reg, .bool q.r.yes, u64 q.r.fro, u64 q.r.til, u8 q.r.lev, u64 q.at'] 45)).alloc (.cells #[i64 z] 3)).alloc (.cells #[.bool false] 4)) := ((((Ext.refl w).alloc _).alloc _).alloc _).alloc _
  have o5 : Blk ((((w.alloc (.cells #[.slice qa b.Q.length qc, .slice aa b.A.length ac, .slice fa b.F.length fc, u64 b.p, u32 b.n] 53)).alloc (.cells #[i64 q.what, i64 q.r.kind, u32 q.r.nn, u32 q.r.ns, u64 q.r.nt, u32 q.r.nq, i64 q.r.what, i64 q.r.why, u64 q.r.at', u64 q.r.num, u32 q.r.node, u32 q.r.reg, .bool q.r.yes, u64 q.r.fro, u64 q.r.til, u8 q.r.lev, u64 q.at'] 45)).alloc (.cells #[i64 z] 3)).alloc (.cells #[.bool false] 4)) w.heap.size [.slice qa b.Q.length qc, .slice aa b.A.length ac, .slice fa b.F.length fc, u64 b.p, u32 b.n] := (Blk.new w _ _).ext ((((Ext.refl _).alloc _).alloc _).alloc _)
  have o6 : Blk ((((w.alloc (.cells #[.slice qa b.Q.length qc, .slice aa b.A.length ac, .slice fa b.F.length fc, u64 b.p, u32 b.n] 53)).alloc (.cells #[i64 q.what, i64 q.r.kind, u32 q.r.nn, u32 q.r.ns, u64 q.r.nt, u32 q.r.nq, i64 q.r.what, i64 q.r.why, u64 q.r.at', u64 q.r.num, u32 q.r.node, u32 q.r.reg, .bool q.r.yes, u64 q.r.fro, u64 q.r.til, u8 q.r.lev, u64 q.at'] 45)).alloc (.cells #[i64 z] 3)).alloc (.cells #[.bool false] 4)) (w.heap.size + 1) (acC q) := by
    have := (Blk.new (w.alloc (.cells #[.slice qa b.Q.length qc, .slice aa b.A.length ac, .slice fa b.F.length fc, u64 b.p, u32 b.n] 53)) (acC q) 45).ext (((Ext.refl _).alloc (.cells #[i64 z] 3)).alloc (.cells #[.bool false] 4))
    simp only [World.size_alloc] at this; exact this
  have o7 : Blk ((((w.alloc (.cells #[.slice qa b.Q.length qc, .slice aa b.A.length ac, .slice fa b.F.length fc, u64 b.p, u32 b.n] 53)).alloc (.cells #[i64 q.what, i64 q.r.kind, u32 q.r.nn, u32 q.r.ns, u64 q.r.nt, u32 q.r.nq, i64 q.r.what, i64 q.r.why, u64 q.r.at', u64 q.r.num, u32 q.r.node, u32 q.r.reg, .bool q.r.yes, u64 q.r.fro, u64 q.r.til, u8 q.r.lev, u64 q.at'] 45)).alloc (.cells #[i64 z] 3)).alloc (.cells #[.bool false] 4)) (w.heap.size + 1 + 1) [i64 z] := by
    have := (Blk.new ((w.alloc (.cells #[.slice qa b.Q.length qc, .slice aa b.A.length ac, .slice fa b.F.length fc, u64 b.p, u32 b.n] 53)).alloc (.cells #[i64 q.what, i64 q.r.kind, u32 q.r.nn, u32 q.r.ns, u64 q.r.nt, u32 q.r.nq, i64 q.r.what, i64 q.r.why, u64 q.r.at', u64 q.r.num, u32 q.r.node, u32 q.r.reg, .bool q.r.yes, u64 q.r.fro, u64 q.r.til, u8 q.r.lev, u64 q.at'] 45)) [i64 z] 3).ext ((Ext.refl _).alloc (.cells #[.bool false] 4))
    simp only [World.size_alloc] at this; exact this
  have o8 : Blk ((((w.alloc (.cells #[.slice qa b.Q.length qc, .slice aa b.A.length ac, .slice fa b.F.length fc, u64 b.p, u32 b.n] 53)).alloc (.cells #[i64 q.what, i64 q.r.kind, u32 q.r.nn, u32 q.r.ns, u64 q.r.nt, u32 q.r.nq, i64 q.r.what, i64 q.r.why, u64 q.r.at', u64 q.r.num, u32 q.r.node, u32 q.r.reg, .bool q.r.yes, u64 q.r.fro, u64 q.r.til, u8 q.r.lev, u64 q.at'] 45)).alloc (.cells #[i64 z] 3)).alloc (.cells #[.bool false] 4)) (w.heap.size + 1 + 1 + 1) [.bool false] := by
    have := Blk.new (((w.alloc (.cells #[.slice qa b.Q.length qc, .slice aa b.A.length ac, .slice fa b.F.length fc, u64 b.p, u32 b.n] 53)).alloc (.cells #[i64 q.what, i64 q.r.kind, u32 q.r.nn, u32 q.r.ns, u64 q.r.nt, u32 q.r.nq, i64 q.r.what, i64 q.r.why, u64 q.r.at', u64 q.r.num, u32 q.r.node, u32 q.r.reg, .bool q.r.yes, u64 q.r.fro, u64 q.r.til, u8 q.r.lev, u64 q.at'] 45)).alloc (.cells #[i64 z] 3)) [.bool false] 4
    simp only [World.size_alloc] at this; exact this
  have z1 : ((((w.alloc (.cells #[.slice qa b.Q.length qc, .slice aa b.A.length ac, .slice fa b.F.length fc, u64 b.p, u32 b.n] 53)).alloc (.cells #[i64 q.what, i64 q.r.kind, u32 q.r.nn, u32 q.r.ns, u64 q.r.nt, u32 q.r.nq, i64 q.r.what, i64 q.r.why, u64 q.r.at', u64 q.r.num, u32 q.r.node, u32 q.r.reg, .bool q.r.yes, u64 q.r.fro, u64 q.r.til, u8 q.r.lev, u64 q.at'] 45)).alloc (.cells #[i64 z] 3)).alloc (.cells #[.bool false] 4)).heap.size = w.heap.size + 1 + 1 + 1 + 1 := by simp
  generalize ((((w.alloc (.cells #[.slice qa b.Q.length qc, .slice aa b.A.length ac, .slice fa b.F.length fc, u64 b.p, u32 b.n] 53)).alloc (.cells #[i64 q.what, i64 q.r.kind, u32 q.r.nn, u32 q.r.ns, u64 q.r.nt, u32 q.r.nq, i64 q.r.what, i64 q.r.why, u64 q.r.at', u64 q.r.num, u32 q.r.node, u32 q.r.reg, .bool q.r.yes, u64 q.r.fro, u64 q.r.til, u8 q.r.lev, u64 q.at'] 45)).alloc (.cells #[i64 z] 3)).alloc (.cells #[.bool false] 4)) = w1 at *
  rw [← hC] at o5 o6 o7 o8 z1 ⊢
  refine FN.mono (rop w1 (hR.ext hE1)) ?_
  rintro _ w2 ⟨u, rs, rfl, hrs, hu, hE2⟩
  obtain ⟨ua, uc, hua⟩ := own_val hu
  subst hua
  have v9 : Var (w2.alloc (.cells #[.slice ua rs.length uc] 50)) w2.heap.size (.slice ua rs.length uc) := Var.new w2 _ _
  have hE3 : Ext w2 (w2.alloc (.cells #[.slice ua rs.length uc] 50)) := (Ext.refl _).alloc _
  have z3 : (w2.alloc (.cells #[.slice ua rs.length uc] 50)).heap.size = w2.heap.size + 1 := by simp
  simp
  generalize (w2.alloc (.cells #[.slice ua rs.length uc] 50)) = w3 at *
  have hE13 := hE2.trans hE3
  refine FN.mono (open_c (hB.ext (hE1.trans hE13)) h.ndQ) ?_
  rintro _ w4 ⟨bS, rN, m, rfl, vS, mS, hmp, hE4⟩
  obtain ⟨hys, hval⟩ := h.openQ hmp hrs
  obtain ⟨ys, hye⟩ : ∃ ys, ys = rs.map (·.n) := ⟨_, rfl⟩
  rw [← hye] at hys
  have hrl : rs.length = ys.length := by rw [hye]; simp
  have hyl : ys.length ≤ 200 := by have := hrs.2.length_eq; omega
  have hmlen : m.length ≤ 255 := by have := hmp.length_eq; rw [List.length_map, hT.lenQ] at this; omega
  have hit0 := kOsteps kU32 (fun w => by simp) vS mS.val hmlen hys
  have hcap0 : ∀ k, (k = bS ∨ Value.map (some rN) = .map (some k)) → k < w4.heap.size := fun k hk => by
    rcases hk with rfl | hk
    · exact vS.lt
    · exact mS.val.lt hk
  have hE24 := hE3.trans hE4
  have hE14 := hE2.trans hE24
  have hrow4 : Sl w4 4 (.slice ua rs.length uc) rs.length (rs.flatMap qC) := (sl_of_own hu).ext hE24
  have v5 := o5.ext hE14
  have v6 := o6.ext hE14
  have v7 := o7.var.ext hE14
  have v8 := o8.var.ext hE14
  have v9' := v9.ext hE4
  have hEw4 := hE1.trans hE14
  have s12 := hE1.size
  have s2 := hE2.size
  have s4 := hE4.size
  obtain ⟨b9, hb9⟩ : ∃ b9, b9 = w2.heap.size := ⟨_, rfl⟩
  rw [← hb9] at v9' z3 ⊢
  have vt : Var (w4.alloc (.cells #[i64 0] 3)) w4.heap.size (i64 0) := Var.new w4 _ _
  have hE5 : Ext w4 (w4.alloc (.cells #[i64 0] 3)) := (Ext.refl _).alloc _
  have z5 : (w4.alloc (.cells #[i64 0] 3)).heap.size = w4.heap.size + 1 := by simp
  simp
  obtain ⟨b11, hb11⟩ : ∃ b, b = w4.heap.size := ⟨_, rfl⟩
  rw [← hb11] at vt z5 ⊢
  obtain ⟨gv, hgv⟩ : ∃ gv : Value, gv = .func (.func 83) #[] #[ptr bS] := ⟨_, rfl⟩
  generalize (w4.alloc (.cells #[i64 0] 3)) = w5 at *
  refine WC_loop (fun k ρ ds w' => ∃ (turn b : Nat) (Ds : List Nat), k = 2 - turn ∧ turn ≤ 2 ∧ ρ 0 = ptr t ∧ ρ 5 = ptr N0 ∧ ρ 6 = ptr (N0 + 1) ∧ ρ 7 = ptr (N0 + 1 + 1) ∧ ρ 8 = ptr (N0 + 1 + 1 + 1) ∧ ρ 9 = ptr b9 ∧ ρ 10 = .func (.func 83) #[] #[ptr bS] ∧ ρ 11 = ptr b ∧ ds = Ds.map dmark ∧ Ds.Nodup ∧ (∀ D ∈ Ds, w4.heap.size ≤ D ∧ w'.heap[D]? = some (.deferred (some []))) ∧
    Var w' b (i64 turn) ∧ w4.heap.size ≤ b ∧ Ext w4 w') 2 ⟨0, b11, [], rfl, by omega, by simp, by simp, by simp, by simp, by simp, by simp, by simp, by simp, rfl, by simp, by simp, vt, by omega, hE5⟩ ?_
  clear vt hE5 z5 w5
  rintro k ρ ds w1' ⟨turn, b7, Ds, rfl, ht2, e0, e5, e6, e7, e8, e9, e10, e11, rfl, hDn, hDs, vt, hb7, hE⟩
  have u5 := v5.ext hE
  have u7 := v7.ext hE
  have u8 := v8.ext hE
  have u9 := v9'.ext hE
  have sE := hE.size
  by_cases ht : turn < 2
  · have htb : (turn : Int) < 2 := by omega
    simp [e11, vt.cell, htb]
    have eA : Ext w1' (w1'.alloc (.cells #[i64 0] 3)) := (Ext.refl _).alloc _
    have vn : Var (w1'.alloc (.cells #[i64 0] 3)) w1'.heap.size (i64 0) := Var.new _ _ _
    have sA : (w1'.alloc (.cells #[i64 0] 3)).heap.size = w1'.heap.size + 1 := by simp
    obtain ⟨b8, hb8⟩ : ∃ b8, b8 = w1'.heap.size := ⟨_, rfl⟩
    rw [← hb8] at vn sA ⊢
    have ltb := vt.lt
    simp [e10]
    generalize (w1'.alloc (.cells #[i64 0] 3)) = w2' at *
    have hE2' := hE.trans eA
    have hit2 := hit0.ext hE2' hcap0
    have fin : ∀ (W : World) (q : Int), Ext w1' W → W.heap[w2'.heap.size]? = some (.deferred (some [])) → ∃ x : List Nat, ({ target := .collected w2'.heap.size, args := #[] } :: Ds.map dmark : List Deferred) = x.map dmark ∧ x.Nodup ∧
        (∀ D ∈ x, w4.heap.size ≤ D ∧ W.heap[D]? = some (.deferred (some []))) ∧ Var (W.alloc (.cells #[i64 q] 3)) W.heap.size (i64 q) ∧ w4.heap.size ≤ W.heap.size ∧ Ext w4 (W.alloc (.cells #[i64 q] 3)) := by
      intro W q hx hD
      have hy := hx.trans ((Ext.refl W).alloc (.cells #[i64 q] 3))
      have hsz := hx.size
      refine ⟨w2'.heap.size :: Ds, rfl, List.nodup_cons.2 ⟨fun hm => ?_, hDn⟩, ?_, Var.new _ _ _, by omega, hE.trans hy⟩
      · have := (hDs _ hm).2
        have := (Array.getElem?_eq_some_iff.1 this).1
        omega
      · intro D hm
        rcases List.mem_cons.1 hm with rfl | hm
        · exact ⟨by omega, hD⟩
        · exact ⟨(hDs D hm).1, hx.obj (hDs D hm).2⟩
    have q1 : IntKind.i64.wrap 1 = 1 := by decide
    have q2 : IntKind.i64.wrap 2 = 2 := by decide
    refine WC_rangeFunc (gf := 83) (first := #[]) (caps := #[ptr bS]) (enc := kOst m) (by simp) (fun _ _ => callFunc_enter Tryz.func83 rfl rfl _ _) hit2 (fun x => rfl) (fun k => k = b8)
      (fun C pre W => Var W b8 (.int .i64 pre.length) ∧ (∀ k, C k ↔ k = b8) ∧ Ext w1' W ∧ (turn = 0 → pre ≠ [] → (pre.length : Int) < z))
      (fun cd C pre W => cd = .exit 2 ∧ turn = 0 ∧ Var W b8 (.int .i64 pre.length) ∧ Ext w1' W ∧ z ≤ pre.length ∧ ((pre.length : Int) - 1 < z ∨ pre.length = 1) ∧ (∀ k, C k ↔ k = b8))
      (fun k hk => ⟨?_, ?_⟩) (fun k hk => by omega) ?_ ?_ ⟨by simpa using vn, fun _ => Iff.rfl, eA, fun _ h => (h rfl).elim⟩ ?ρ ?ha ?_ ?_ ?_
    case ha =>
      intro l x W
      simp [kOst]
      exact rfl
    · have := hcap0 k hk; omega
    · have := hcap0 k hk; omega
    · rintro C pre W W' ⟨h1, h5, h6, h7⟩ hag
      refine ⟨h1.agr hag (.inr ((h5 _).2 rfl)), h5, ?_, h7⟩
      exact ⟨hag.os.trans h6.os, hag.tape.trans h6.tape, hag.out.trans h6.out, Nat.le_trans h6.size hag.size, fun i hi => (hag.blk i (Nat.lt_of_lt_of_le hi h6.size) (.inl (by omega))).trans (h6.blk i hi)⟩
    · rintro cd C pre W W' ⟨h0, ht0, h1, h6, h7, h8, h5⟩ hag
      refine ⟨h0, ht0, h1.agr hag (.inr ((h5 _).2 rfl)), ?_, h7, h8, h5⟩
      exact ⟨hag.os.trans h6.os, hag.tape.trans h6.tape, hag.out.trans h6.out, Nat.le_trans h6.size hag.size, fun i hi => (hag.blk i (Nat.lt_of_lt_of_le hi h6.size) (.inl (by omega))).trans (h6.blk i hi)⟩
    · rintro lp C pre x W hsp ⟨h1, h5, h6, h7⟩ - - -
      obtain ⟨_, suf, hsuf⟩ := hsp
      have hql : pre.length < rs.length := by rw [hrl, hsuf]; simp
      have hxq : ys[pre.length]? = some x := by rw [hsuf]; simp
      have hxa : rs[pre.length].n = x := by
        have : (rs.map (·.n))[pre.length]? = some x := by rw [← hye]; exact hxq
        simpa [hql] using this
      have hxk : kOval m x = u64 rs[pre.length].a := by
        rw [← hxa]
        exact hval _ (List.getElem_mem hql)
      have x5 := u5.ext h6
      have x7 := u7.ext h6
      have x9 := u9.ext h6
      have xt := vt.ext h6
      have hrW := hrow4.ext (hE.trans h6)
      have rr := ques_at hrW (List.getElem?_eq_getElem hql)
      have rr0 := rr 0 _ (by omega) rfl
      have rr3 := rr 3 _ (by omega) rfl
      rw [Nat.add_zero] at rr0
      have ix := fun W => ques_ix hrW pre.length hql W
      have lenr := fun ty W' => hrW.isLen (P := Tryz.prog) (t := 50) (by simp) ty W'
      have wq : IntKind.i64.wrap ((pre.length : Int) + 1) = (pre.length : Int) + 1 := wrap64 _ (by omega) (by omega)
      have hnl : ¬ rs.length ≤ pre.length := by omega
      have hset := h1.set (.int .i64 ((pre.length : Int) + 1))
      simp [h1.cell, h1.thaw, x9.cell, hnl, lenr, ix, rr0, rr3, e9, hxa, hxk, wq]
      obtain ⟨W3, hW3⟩ : ∃ W3, W3 = W.setCell ⟨b8, 0, none⟩ (.int .i64 ((pre.length : Int) + 1)) := ⟨_, rfl⟩
      rw [← hW3] at hset ⊢
      have hk3 : ∀ b', b' ≠ b8 → W3.heap[b']? = W.heap[b']? := fun b' hb' => by rw [hW3]; exact Go.RowKit.Below.heap_setCell _ _ _ _ hb'
      have yt := xt.keep (hk3 b7 (by omega))
      have y7 := x7.keep (hk3 (N0 + 1 + 1) (by omega))
      have hM3 : Mod C W W3 := by rw [hW3]; exact Mod.setCell (Mod.refl _ W) _ _ (.inl ((h5 _).2 rfl))
      have hE3' : Ext w1' W3 := by rw [hW3]; exact h6.setCell _ _ (by simp only; omega)
      have hset' : Var W3 b8 (.int .i64 (((pre ++ [x]).length : Nat) : Int)) := by simpa using hset
      by_cases ht0 : turn = 0
      · subst ht0
        by_cases hz : z ≤ (pre.length : Int) + 1
        · simp [e7, e11, yt.cell, hset.cell, y7.cell, hz]
          refine ⟨fun k => k = b8, ⟨by simpa using hset, hE3', ?_⟩, ⟨hM3, fun k hk => .inl ((h5 k).2 hk)⟩⟩
          refine ⟨?_, fun _ => Iff.rfl⟩
          by_cases hp : pre = []
          · right; exact hp
          · left; exact h7 rfl hp
        · simp [e7, e11, yt.cell, hset.cell, y7.cell, hz]
          exact ⟨fun k => k = b8, ⟨by simpa using hset, fun _ => Iff.rfl, hE3', by omega⟩, ⟨hM3, fun k hk => .inl ((h5 k).2 hk)⟩⟩
      · have htn : ((turn : Int) == 0) = false := by simp; omega
        simp [e11, yt.cell, htn]
        exact ⟨fun k => k = b8, ⟨by simpa using hset, fun _ => Iff.rfl, hE3', fun h => (ht0 h).elim⟩, ⟨hM3, fun k hk => .inl ((h5 k).2 hk)⟩⟩
    · rintro C xs W rfl ⟨h1, h5, h6, h7⟩ hD
      have x7 := u7.ext h6
      have x9 := u9.ext h6
      have xt := vt.ext h6
      have hrW := hrow4.ext (hE.trans h6)
      have lenr := fun ty W' => hrW.isLen (P := Tryz.prog) (t := 50) (by simp) ty W'
      by_cases ht0 : turn = 0
      · subst ht0
        have hmn : ((xs.length : Int) != min (rs.length : Int) (max 1 z)) = false := by
          have : (xs.length : Int) = min (rs.length : Int) (max 1 z) := by
            rw [hrl]
            by_cases h0 : xs = []
            · subst h0; simp; omega
            · have := h7 rfl h0; omega
          rw [← this]; simp
        simp [e7, e9, e11, xt.cell, h1.cell, x9.cell, x7.cell, lenr, hmn, q1]
        obtain ⟨x, f1, f2, f3, f4, f5, f6⟩ := fin W 1 h6 hD
        exact ⟨1, by omega, 1, rfl, by omega, e0, e5, e6, e8, e10, x, f1, f2, f3, f4, f5, f6⟩
      · obtain rfl : turn = 1 := by omega
        simp [hrl, e7, e9, e11, xt.cell, h1.cell, x9.cell, q2]
        obtain ⟨x, f1, f2, f3, f4, f5, f6⟩ := fin W 2 h6 hD
        exact ⟨2, by omega, by omega, e0, e5, e6, e8, e10, x, f1, f2, f3, f4, f5, f6⟩
    · rintro cd C pre W hsp ⟨rfl, ht0, h1, h6, h7, h8, h5⟩ hD
      have x7 := u7.ext h6
      have x9 := u9.ext h6
      have xt := vt.ext h6
      have hrW := hrow4.ext (hE.trans h6)
      have lenr := fun ty W' => hrW.isLen (P := Tryz.prog) (t := 50) (by simp) ty W'
      subst ht0
      obtain ⟨hne, suf, hsuf⟩ := hsp
      have hql : pre.length ≤ ys.length := by rw [hsuf]; simp
      have hq0 : 0 < pre.length := List.length_pos_iff.2 hne
      have hmn : ((pre.length : Int) != min (rs.length : Int) (max 1 z)) = false := by
        have : (pre.length : Int) = min (rs.length : Int) (max 1 z) := by rw [hrl]; omega
        rw [← this]; simp
      simp [e7, e9, e11, xt.cell, h1.cell, x9.cell, x7.cell, lenr, hmn, q1]
      obtain ⟨x, f1, f2, f3, f4, f5, f6⟩ := fin W 1 h6 hD
      exact ⟨1, by omega, 1, rfl, by omega, e0, e5, e6, e8, e10, x, f1, f2, f3, f4, f5, f6⟩
  · have : turn = 2 := by omega
    subst this
    simp [e0, e11, vt.cell]
    have hEW := hEw4.trans hE
    have u6 := v6.ext hE
    refine FN.mono (lenF_c (hB.ext hEW)) ?_
    rintro _ w6 ⟨rfl, hE6⟩
    have t5 := u5.ext hE6
    have t6 := u6.ext hE6
    have hEW6 := hEW.trans hE6
    simp [e0, e5, e6, t5.cell 0 _ rfl, t5.cell 1 _ rfl, t5.cell 2 _ rfl, t5.cell 3 _ rfl, t5.cell 4 _ rfl, t6.cell 0 _ rfl, t6.cell 1 _ rfl, t6.cell 2 _ rfl, t6.cell 3 _ rfl, t6.cell 4 _ rfl, t6.cell 5 _ rfl, t6.cell 6 _ rfl, t6.cell 7 _ rfl, t6.cell 8 _ rfl, t6.cell 9 _ rfl, t6.cell 10 _ rfl, t6.cell 11 _ rfl, t6.cell 12 _ rfl, t6.cell 13 _ rfl, t6.cell 14 _ rfl, t6.cell 15 _ rfl, t6.cell 16 _ rfl, lenQ, lenA, lenF, eQ, eA, eF]
    refine FN.mono (rtel w6 (hB.ext hEW6) (hR.ext hEW6) q) ?_
    rintro _ W2 ⟨rfl, hE7⟩
    have hWE := hE6.trans hE7
    have y8 := u8.ext hWE
    simp [e8, y8.cell, y8.thaw]
    have hM : Mod (fun k => k = N0 + 1 + 1 + 1) W2 (W2.setCell ⟨N0 + 1 + 1 + 1, 0, none⟩ (.bool true)) := (Mod.refl _ _).setC _ _
    have y8' := y8.set (.bool true)
    have sW := hWE.size
    generalize (W2.setCell ⟨N0 + 1 + 1 + 1, 0, none⟩ (.bool true)) = w5 at hM y8' ⊢
    refine LV_marks Ds w5 hDn (fun D hD => ?_) fun w' hM' => ?_
    · have := hDs D hD
      exact hM.obj (hWE.obj this.2) (by omega)
    · have y9 := y8'.mod hM' (fun h => by have := (hDs _ h).1; omega)
      simp [y9.cell, e8]
      exact ((((hEW.trans hWE).mod (S := fun k => w.heap.size ≤ k)).trans (hM.weaken fun k hk => by omega)).trans (hM'.weaken fun k hk => by have := (hDs _ hk).1; omega)).ext fun _ h => h
end Go.Proofs
namespace Go.Proofs
open Pk
set_option maxRecDepth 10000
/-- No board, or a zero one. -/
def NoBd (w : World) (o : Option Addr) : Prop := o = none ∨ ∃ t, o = some ⟨t, 0, none⟩ ∧ Blk w t [.map none, .map none, .map none, u64 0, u32 0]
theorem NoBd.ext {w w' : World} {o : Option Addr} (h : NoBd w o) (hE : Ext w w') : NoBd w' o := by
  rcases h with h | ⟨t, h1, h2⟩
  · exact .inl h
  · exact .inr ⟨t, h1, h2.ext hE⟩
theorem none_t {w : World} {o : Option Addr} (h : NoBd w o) : FN Tryz.prog 36 [(.pointer o)] w fun e w' => e = .returned (.bool true) ∧ w' = w := by
  refine FN_enter Tryz.func36 rfl rfl (by kernel_rfl) ?_
  rcases h with rfl | ⟨t, rfl, h⟩
  · simp
  · simp [h.cell 1 _ rfl]
theorem asked_n {w : World} {o : Option Addr} {u : Value} (e : Int) (rest : List Qn) (hn : NoBd w o) (hs : Sl w 2 u (rest.length + 1) (askCells (⟨.func (.func 36) #[(.pointer o)] #[], e, true⟩ :: rest))) (hb : rest.length ≤ 900) (hf : ∀ q ∈ rest, ∃ f x y, q.f = .func f x y) :
    FN Tryz.prog 24 [u] w fun r w' => r = .returned (i64 e) ∧ Ext w w' := by
  refine FN.mono (asked_c (⟨.func (.func 36) #[(.pointer o)] #[], e, true⟩ :: rest) hs (by simp; omega) ?_ ?_) ?_
  · intro q hq
    rcases List.mem_cons.1 hq with rfl | hq
    · exact ⟨_, _, _, rfl⟩
    · exact hf q hq
  · intro i q hiq hno w' hw'
    match i, hiq, hno with
    | 0, hiq, _ =>
      simp only [List.getElem?_cons_zero, Option.some.injEq] at hiq; subst hiq
      exact FN.mono (none_t (hn.ext hw')) fun _ _ h => ⟨h.1, h.2 ▸ Ext.refl _⟩
    | i + 1, hiq, hno => exact absurd (hno 0 _ (by omega) rfl) (by simp)
  · rintro _ w' ⟨rfl, h2⟩
    exact ⟨by simp [askE], h2⟩
theorem ask_n {w : World} {o : Option Addr} (h : NoBd w o) : FN Tryz.prog 9 [(.pointer o), u32 1, u32 2, u64 3] w fun e w' => e = .returned (.tuple #[u32 0, i64 1]) ∧ Ext w w' := by
  refine FN_enter Tryz.func9 rfl rfl (by kernel_rfl) ?_
  simp
  have hE1 : Ext w (((((w.alloc (.cells #[(.pointer o)] 23)).alloc (.cells #[u32 1] 28)).alloc (.cells #[u32 2] 28)).alloc (.cells #[u64 3] 27)).alloc (.cells #[u32 1, u32 2] 71)) := (((((Ext.refl w).alloc _).alloc _).alloc _).alloc _).alloc _
  generalize (((((w.alloc (.cells #[(.pointer o)] 23)).alloc (.cells #[u32 1] 28)).alloc (.cells #[u32 2] 28)).alloc (.cells #[u64 3] 27)).alloc (.cells #[u32 1, u32 2] 71)) = w1 at *
  refine FN.mono (is_c (.pointer o) w1) ?_
  rintro _ w2 ⟨rfl, hE2⟩
  obtain ⟨rest, hrest⟩ : ∃ rest : List Qn, rest = [⟨.func (.func 26) #[] #[ptr (w.heap.size + 1), ptr (w.heap.size + 1 + 1), ptr (w.heap.size + 1 + 1 + 1)], 2, false⟩,
    ⟨.func (.func 27) #[] #[ptr w.heap.size, ptr (w.heap.size + 1 + 1 + 1 + 1)], 150, false⟩, ⟨.func (.func 28) #[] #[ptr w.heap.size], 330, false⟩] := ⟨_, rfl⟩
  have hsl := Sl.made w2 (askCells (⟨.func (.func 36) #[(.pointer o)] #[], 1, true⟩ :: rest)) 74 2 4 (by rw [hrest]; rfl)
  have he3 := (Ext.refl w2).alloc (.cells (askCells (⟨.func (.func 36) #[(.pointer o)] #[], 1, true⟩ :: rest)).toArray 74)
  have hX := (hE1.trans hE2).trans he3
  have hq := asked_n 1 rest (h.ext hX) (by rw [hrest]; rw [hrest] at hsl; exact hsl) (by rw [hrest]; simp) (fun q hq => by rw [hrest] at hq; simp at hq; rcases hq with rfl | rfl | rfl <;> exact ⟨_, _, _, rfl⟩)
  subst hrest
  simp
  refine FN.mono hq ?_
  rintro _ w3 ⟨rfl, h3⟩
  simp
  exact hX.trans h3
theorem answer_n {w : World} {o : Option Addr} (h : NoBd w o) : FN Tryz.prog 10 [(.pointer o), recV rec0] w fun e w' => e = .returned (i64 1) ∧ Ext w w' := by
  refine FN_enter Tryz.func10 rfl rfl (by kernel_rfl) ?_
  simp
  have hE1 : Ext w (((w.alloc (.cells #[.pointer o] 23)).alloc (.cells #[i64 rec0.kind, u32 rec0.nn, u32 rec0.ns, u64 rec0.nt, u32 rec0.nq, i64 rec0.what, i64 rec0.why, u64 rec0.at', u64 rec0.num, u32 rec0.node, u32 rec0.reg, .bool rec0.yes, u64 rec0.fro, u64 rec0.til, u8 rec0.lev] 38)).alloc (.cells #[u32 rec0.node, u32 rec0.reg] 71)) := (((Ext.refl w).alloc _).alloc _).alloc _
  have v2 : Blk (((w.alloc (.cells #[.pointer o] 23)).alloc (.cells #[i64 rec0.kind, u32 rec0.nn, u32 rec0.ns, u64 rec0.nt, u32 rec0.nq, i64 rec0.what, i64 rec0.why, u64 rec0.at', u64 rec0.num, u32 rec0.node, u32 rec0.reg, .bool rec0.yes, u64 rec0.fro, u64 rec0.til, u8 rec0.lev] 38)).alloc (.cells #[u32 rec0.node, u32 rec0.reg] 71)) w.heap.size [(.pointer o)] := (Blk.new w _ _).ext (((Ext.refl _).alloc _).alloc _)
  have v3 : Blk (((w.alloc (.cells #[.pointer o] 23)).alloc (.cells #[i64 rec0.kind, u32 rec0.nn, u32 rec0.ns, u64 rec0.nt, u32 rec0.nq, i64 rec0.what, i64 rec0.why, u64 rec0.at', u64 rec0.num, u32 rec0.node, u32 rec0.reg, .bool rec0.yes, u64 rec0.fro, u64 rec0.til, u8 rec0.lev] 38)).alloc (.cells #[u32 rec0.node, u32 rec0.reg] 71)) (w.heap.size + 1) (recC rec0) := by
    have := (Blk.new (w.alloc (.cells #[(.pointer o)] 23)) (recC rec0) 38).ext ((Ext.refl _).alloc (.cells #[u32 rec0.node, u32 rec0.reg] 71))
    simpa using this
  generalize (((w.alloc (.cells #[.pointer o] 23)).alloc (.cells #[i64 rec0.kind, u32 rec0.nn, u32 rec0.ns, u64 rec0.nt, u32 rec0.nq, i64 rec0.what, i64 rec0.why, u64 rec0.at', u64 rec0.num, u32 rec0.node, u32 rec0.reg, .bool rec0.yes, u64 rec0.fro, u64 rec0.til, u8 rec0.lev] 38)).alloc (.cells #[u32 rec0.node, u32 rec0.reg] 71)) = w1 at *
  refine WC_drawC 8 (.F 0 <| .F 2 <| .F 4 <| .F 5 <| .F 6 <| .F 7 <| .C 1 <| .C 3 <| .Z) (fun _ => false) rfl (by kernel_rfl) fun W hW => ?_
  have hWE : Ext w1 W := hW ▸ Ext.drew w1
  have u3 := v3.ext hWE
  simp [(v2.ext hWE).cell 0 _ rfl, u3.cell 0 _ rfl, u3.cell 1 _ rfl, u3.cell 2 _ rfl, u3.cell 3 _ rfl, u3.cell 4 _ rfl, u3.cell 5 _ rfl, u3.cell 6 _ rfl, u3.cell 7 _ rfl, u3.cell 8 _ rfl, u3.cell 9 _ rfl, u3.cell 10 _ rfl, u3.cell 11 _ rfl, u3.cell 12 _ rfl, u3.cell 13 _ rfl, u3.cell 14 _ rfl]
  refine FN.mono (is_c (.pointer o) W) ?_
  rintro _ w2 ⟨rfl, hE2⟩
  simp
  refine KR_ext hE2 ?_
  simp
  refine FN.mono (right_c rec0 3 w2) ?_
  rintro _ w3 ⟨c1, c2, rfl, hc1, hc2, hE3⟩
  simp
  refine KR_ext hE3 ?_
  have he13 := hWE.trans (hE2.trans hE3)
  obtain ⟨rest, hrest⟩ : ∃ rest : List Qn, rest = [⟨.func (.func 65) #[] #[ptr c1, ptr c2], 2, false⟩,
    ⟨.func (.func 30) #[] #[ptr w.heap.size, ptr (w.heap.size + 1 + 1), ptr (w.heap.size + 1)], 5, false⟩, ⟨.func (.func 31) #[] #[ptr w.heap.size, ptr (w.heap.size + 1 + 1)], 330, false⟩] := ⟨_, rfl⟩
  have hsl := Sl.made w3 (askCells (⟨.func (.func 36) #[(.pointer o)] #[], 1, true⟩ :: rest)) 74 2 4 (by rw [hrest]; rfl)
  have he3 := (Ext.refl w3).alloc (.cells (askCells (⟨.func (.func 36) #[(.pointer o)] #[], 1, true⟩ :: rest)).toArray 74)
  have hX := (hE1.trans he13).trans he3
  have hq := asked_n 1 rest (h.ext hX) (by rw [hrest]; rw [hrest] at hsl; exact hsl) (by rw [hrest]; simp) (fun q hq => by rw [hrest] at hq; simp at hq; rcases hq with rfl | rfl | rfl <;> exact ⟨_, _, _, rfl⟩)
  subst hrest
  simp
  refine FN.mono hq ?_
  rintro _ w4 ⟨rfl, h4⟩
  simp
  exact hX.trans h4
theorem fore_n {w : World} {o : Option Addr} (h : NoBd w o) : FN Tryz.prog 12 [(.pointer o), recV rec0] w fun e w' => e = .returned (i64 1) ∧ Ext w w' := by
  refine FN_enter Tryz.func12 rfl rfl (by kernel_rfl) ?_
  simp
  have hE1 : Ext w (((w.alloc (.cells #[.pointer o] 23)).alloc (.cells #[i64 rec0.kind, u32 rec0.nn, u32 rec0.ns, u64 rec0.nt, u32 rec0.nq, i64 rec0.what, i64 rec0.why, u64 rec0.at', u64 rec0.num, u32 rec0.node, u32 rec0.reg, .bool rec0.yes, u64 rec0.fro, u64 rec0.til, u8 rec0.lev] 38)).alloc (.cells #[u32 rec0.node, u64 rec0.fro] 84)) := (((Ext.refl w).alloc _).alloc _).alloc _
  have v2 : Blk (((w.alloc (.cells #[.pointer o] 23)).alloc (.cells #[i64 rec0.kind, u32 rec0.nn, u32 rec0.ns, u64 rec0.nt, u32 rec0.nq, i64 rec0.what, i64 rec0.why, u64 rec0.at', u64 rec0.num, u32 rec0.node, u32 rec0.reg, .bool rec0.yes, u64 rec0.fro, u64 rec0.til, u8 rec0.lev] 38)).alloc (.cells #[u32 rec0.node, u64 rec0.fro] 84)) w.heap.size [(.pointer o)] := (Blk.new w _ _).ext (((Ext.refl _).alloc _).alloc _)
  have v3 : Blk (((w.alloc (.cells #[.pointer o] 23)).alloc (.cells #[i64 rec0.kind, u32 rec0.nn, u32 rec0.ns, u64 rec0.nt, u32 rec0.nq, i64 rec0.what, i64 rec0.why, u64 rec0.at', u64 rec0.num, u32 rec0.node, u32 rec0.reg, .bool rec0.yes, u64 rec0.fro, u64 rec0.til, u8 rec0.lev] 38)).alloc (.cells #[u32 rec0.node, u64 rec0.fro] 84)) (w.heap.size + 1) (recC rec0) := by
    have := (Blk.new (w.alloc (.cells #[(.pointer o)] 23)) (recC rec0) 38).ext ((Ext.refl _).alloc (.cells #[u32 rec0.node, u64 rec0.fro] 84))
    simpa using this
  generalize (((w.alloc (.cells #[.pointer o] 23)).alloc (.cells #[i64 rec0.kind, u32 rec0.nn, u32 rec0.ns, u64 rec0.nt, u32 rec0.nq, i64 rec0.what, i64 rec0.why, u64 rec0.at', u64 rec0.num, u32 rec0.node, u32 rec0.reg, .bool rec0.yes, u64 rec0.fro, u64 rec0.til, u8 rec0.lev] 38)).alloc (.cells #[u32 rec0.node, u64 rec0.fro] 84)) = w1 at *
  refine WC_drawC 8 (.F 0 <| .F 2 <| .F 4 <| .F 5 <| .F 6 <| .F 7 <| .C 1 <| .C 3 <| .Z) (fun _ => false) rfl (by kernel_rfl) fun W hW => ?_
  have hWE : Ext w1 W := hW ▸ Ext.drew w1
  have u3 := v3.ext hWE
  simp [(v2.ext hWE).cell 0 _ rfl, u3.cell 0 _ rfl, u3.cell 1 _ rfl, u3.cell 2 _ rfl, u3.cell 3 _ rfl, u3.cell 4 _ rfl, u3.cell 5 _ rfl, u3.cell 6 _ rfl, u3.cell 7 _ rfl, u3.cell 8 _ rfl, u3.cell 9 _ rfl, u3.cell 10 _ rfl, u3.cell 11 _ rfl, u3.cell 12 _ rfl, u3.cell 13 _ rfl, u3.cell 14 _ rfl]
  refine FN.mono (is_c (.pointer o) W) ?_
  rintro _ w2 ⟨rfl, hE2⟩
  simp
  refine KR_ext hE2 ?_
  simp
  refine FN.mono (right_c rec0 4 w2) ?_
  rintro _ w3 ⟨c1, c2, rfl, hc1, hc2, hE3⟩
  simp
  refine KR_ext hE3 ?_
  have he13 := hWE.trans (hE2.trans hE3)
  obtain ⟨rest, hrest⟩ : ∃ rest : List Qn, rest = [⟨.func (.func 65) #[] #[ptr c1, ptr c2], 2, false⟩,
    ⟨.func (.func 33) #[] #[ptr (w.heap.size + 1)], 2, false⟩, ⟨.func (.func 34) #[] #[ptr w.heap.size, ptr (w.heap.size + 1 + 1)], 330, false⟩] := ⟨_, rfl⟩
  have hsl := Sl.made w3 (askCells (⟨.func (.func 36) #[(.pointer o)] #[], 1, true⟩ :: rest)) 74 2 4 (by rw [hrest]; rfl)
  have he3 := (Ext.refl w3).alloc (.cells (askCells (⟨.func (.func 36) #[(.pointer o)] #[], 1, true⟩ :: rest)).toArray 74)
  have hX := (hE1.trans he13).trans he3
  have hq := asked_n 1 rest (h.ext hX) (by rw [hrest]; rw [hrest] at hsl; exact hsl) (by rw [hrest]; simp) (fun q hq => by rw [hrest] at hq; simp at hq; rcases hq with rfl | rfl | rfl <;> exact ⟨_, _, _, rfl⟩)
  subst hrest
  simp
  refine FN.mono hq ?_
  rintro _ w4 ⟨rfl, h4⟩
  simp
  exact hX.trans h4
theorem prune_n {w : World} {o : Option Addr} (h : NoBd w o) : FN Tryz.prog 14 [(.pointer o), u64 1] w fun e w' => e = .returned (.tuple #[i64 0, i64 1]) ∧ Ext w w' := by
  refine FN_enter Tryz.func14 rfl rfl (by kernel_rfl) ?_
  simp
  have hE1 : Ext w ((w.alloc (.cells #[(.pointer o)] 23)).alloc (.cells #[u64 1] 27)) := ((Ext.refl w).alloc _).alloc _
  generalize ((w.alloc (.cells #[(.pointer o)] 23)).alloc (.cells #[u64 1] 27)) = w1 at *
  refine FN.mono (is_c (.pointer o) w1) ?_
  rintro _ w2 ⟨rfl, hE2⟩
  obtain ⟨rest, hrest⟩ : ∃ rest : List Qn, rest = [⟨.func (.func 38) #[] #[ptr (w.heap.size + 1)], 2, false⟩] := ⟨_, rfl⟩
  have hsl := Sl.made w2 (askCells (⟨.func (.func 36) #[(.pointer o)] #[], 1, true⟩ :: rest)) 74 2 2 (by rw [hrest]; rfl)
  have he3 := (Ext.refl w2).alloc (.cells (askCells (⟨.func (.func 36) #[(.pointer o)] #[], 1, true⟩ :: rest)).toArray 74)
  have hX := (hE1.trans hE2).trans he3
  have hq := asked_n 1 rest (h.ext hX) (by rw [hrest]; rw [hrest] at hsl; exact hsl) (by rw [hrest]; simp) (fun q hq => by rw [hrest] at hq; simp at hq; subst hq; exact ⟨_, _, _, rfl⟩)
  subst hrest
  simp
  refine FN.mono hq ?_
  rintro _ w3 ⟨rfl, h3⟩
  simp
  exact hX.trans h3
theorem says_n {w : World} {o : Option Addr} (h : NoBd w o) (g r : Int) : FN Tryz.prog 46 [(.pointer o), u32 g, u32 r] w fun e w' => e = .returned (.tuple #[.bool false, u64 0, .bool false]) ∧ w' = w := by
  refine FN_enter Tryz.func46 rfl rfl (by kernel_rfl) ?_
  simp
  refine FN.mono (none_t h) ?_
  rintro _ w1 ⟨rfl, rfl⟩
  simp
theorem off_n {w : World} {o : Option Addr} (h : NoBd w o) (g r a : Int) : FN Tryz.prog 15 [(.pointer o), u32 g, u32 r, u64 a] w fun e w' => e = .returned (.bool false) ∧ w' = w := by
  refine FN_enter Tryz.func15 rfl rfl (by kernel_rfl) ?_
  simp
  refine FN.mono (says_n h g r) ?_
  rintro _ w1 ⟨rfl, rfl⟩
  simp
theorem level_n {w : World} {o : Option Addr} (h : NoBd w o) (g a : Int) : FN Tryz.prog 13 [(.pointer o), u32 g, u64 a] w fun e w' => e = .returned (u8 0) ∧ w' = w := by
  refine FN_enter Tryz.func13 rfl rfl (by kernel_rfl) ?_
  simp
  refine FN.mono (none_t h) ?_
  rintro _ w1 ⟨rfl, rfl⟩
  simp
theorem lenF_n {w : World} {o : Option Addr} (h : NoBd w o) : FN Tryz.prog 54 [(.pointer o)] w fun e w' => e = .returned (.tuple #[i64 0, i64 0, i64 0]) ∧ w' = w := by
  refine FN_enter Tryz.func54 rfl rfl (by kernel_rfl) ?_
  simp
  refine FN.mono (none_t h) ?_
  rintro _ w1 ⟨rfl, rfl⟩
  simp
theorem copy_n {w : World} {o : Option Addr} (h : NoBd w o) : FN Tryz.prog 20 [(.pointer o)] w fun e w' => e = .returned (.pointer none) ∧ w' = w := by
  refine FN_enter Tryz.func20 rfl rfl (by kernel_rfl) ?_
  simp
  refine FN.mono (none_t h) ?_
  rintro _ w1 ⟨rfl, rfl⟩
  simp
theorem same_n {w : World} {o : Option Addr} (h : NoBd w o) : FN Tryz.prog 22 [(.pointer o), .pointer none] w fun e w' => e = .returned (.bool true) ∧ w' = w := by
  refine FN_enter Tryz.func22 rfl rfl (by kernel_rfl) ?_
  simp
  refine FN.mono (none_t h) ?_
  rintro _ w1 ⟨rfl, rfl⟩
  simp
  refine FN.mono (none_t h) ?_
  rintro _ w1 ⟨rfl, rfl⟩
  simp
  refine FN.mono (none_t (w := w1) (.inl rfl)) ?_
  rintro _ w1 ⟨rfl, rfl⟩
  simp
theorem open_n {w : World} {o : Option Addr} (h : NoBd w o) : FN Tryz.prog 53 [(.pointer o)] w fun e w' => ∃ bS rN, e = .returned (.func (.func 83) #[] #[ptr bS]) ∧ Var w' bS (.map (some rN)) ∧ MapAt (Value.int .u32) (Value.int .u64) w' rN [] ∧ Ext w w' := by
  refine FN_enter Tryz.func53 rfl rfl (by kernel_rfl) ?_
  simp
  have hE1 : Ext w ((w.alloc (.map #[] 0)).alloc (.cells #[.map (some w.heap.size)] 138)) := ((Ext.refl _).alloc _).alloc _
  have hm1 : MapAt (Value.int .u32) (Value.int .u64) ((w.alloc (.map #[] 0)).alloc (.cells #[.map (some w.heap.size)] 138)) w.heap.size [] := (MapAt.alloc0 _ _ w).ext ((Ext.refl _).alloc _)
  have v1 : Var ((w.alloc (.map #[] 0)).alloc (.cells #[.map (some w.heap.size)] 138)) (w.heap.size + 1) (.map (some w.heap.size)) := by
    have := Var.new (w.alloc (.map #[] 0)) (.map (some w.heap.size)) 138
    simpa using this
  generalize ((w.alloc (.map #[] 0)).alloc (.cells #[.map (some w.heap.size)] 138)) = w1 at *
  refine FN.mono (none_t (h.ext hE1)) ?_
  rintro _ w1 ⟨rfl, rfl⟩
  simp
  exact ⟨_, v1, hm1, hE1⟩
end Go.Proofs
namespace Go.Proofs
open Pk
set_option maxRecDepth 10000
set_option maxHeartbeats 4000000 in
theorem noneL_c (w : World) : FN Tryz.prog 19 [] w fun e w' => e = .returned (.bool true) ∧ Ext w w' := by
  refine FN_enter Tryz.func19 rfl rfl (by kernel_rfl) ?_
  simp
  have hE1 : Ext w (w.alloc (.cells #[.bool false] 4)) := (Ext.refl _).alloc _
  have v0 : Var (w.alloc (.cells #[.bool false] 4)) w.heap.size (.bool false) := Var.new w _ _
  obtain ⟨B, hB⟩ : ∃ B, B = w.heap.size := ⟨_, rfl⟩
  rw [← hB] at v0 ⊢
  have hBl := v0.lt
  generalize (w.alloc (.cells #[.bool false] 4)) = w1 at *
  refine WC_loop (fun k ρ ds w' => ∃ (turn : Nat) (Ds : List Nat), k = 2 - turn ∧ turn ≤ 2 ∧ ρ 0 = ptr B ∧ ρ 1 = i64 turn ∧ ds = Ds.map dmark ∧ Ds.Nodup ∧ (∀ D ∈ Ds, w1.heap.size ≤ D ∧ w'.heap[D]? = some (.deferred (some []))) ∧ Ext w1 w') 2 ⟨0, [], rfl, by omega, by simp, by simp, rfl, by simp, by simp, Ext.refl _⟩ ?_
  rintro k ρ ds w2 ⟨turn, Ds, rfl, ht2, e0, e1, rfl, hDn, hDs, hE⟩
  by_cases ht : turn < 2
  · have htb : (turn : Int) < 2 := by omega
    simp [e1, htb]
    refine with_tail (T := ∀ (σ : Env) (W : World) (o : Option Addr), σ 0 = ptr B → σ 1 = i64 turn → σ 2 = .pointer o → NoBd W o → Ext w2 W → FNt Tryz.prog 9 [.pointer o, u32 1, u32 2, u64 3] W (RC ?dA ?KA ?QA σ (Ds.map dmark)) Tok.mk) (fun tail => ?br) ?jn
    case br =>
      by_cases h1 : turn = 1
      · have h1' : ((turn : Int) == 1) = true := by simp; omega
        simp [h1']
        refine tail _ _ _ ?_ ?_ ?_ (.inr ⟨w2.heap.size, rfl, Blk.new w2 _ _⟩) ((Ext.refl _).alloc _) <;> simp [e0, e1]
      · have h1' : ((turn : Int) == 1) = false := by simp; omega
        simp [h1']
        refine tail _ _ none ?_ ?_ ?_ (.inl rfl) (Ext.refl _) <;> simp [e0, e1]
    case jn =>
      intro σ W o f0 f1 f2 hn hEW
      refine FN.mono (ask_n hn) ?_
      rintro _ w3 ⟨rfl, hE3⟩
      have n3 := hn.ext hE3
      simp [f2]
      refine FN.mono (says_n n3 1 2) ?_
      rintro _ w3 ⟨rfl, rfl⟩
      simp [f2]
      refine FN.mono (prune_n n3) ?_
      rintro _ w4 ⟨rfl, hE4⟩
      have n4 := n3.ext hE4
      simp [f2]
      refine FN.mono (lenF_n n4) ?_
      rintro _ w4 ⟨rfl, rfl⟩
      simp [f2]
      refine FN.mono (open_n n4) ?_
      rintro _ w5 ⟨bS0, rN0, rfl, -, -, hE5⟩
      have n5 := n4.ext hE5
      simp [f2]
      refine FN.mono (open_n n5) ?_
      rintro _ w6 ⟨bS, rN, rfl, vS, mS, hE6⟩
      have n6 := n5.ext hE6
      have hys : kOisKeys [] [] := ⟨by simp, by simp⟩
      have hit := kOsteps kU32 (fun w => by simp) vS mS.val (by simp) hys
      have hcap : ∀ k, (k = bS ∨ Value.map (some rN) = .map (some k)) → k < w6.heap.size := fun k hk => by
        rcases hk with rfl | hk
        · exact vS.lt
        · exact mS.val.lt hk
      have hX : Ext w2 w6 := hEW.trans (hE3.trans (hE4.trans (hE5.trans hE6)))
      simp
      refine WC_rangeFunc (gf := 83) (first := #[]) (caps := #[ptr bS]) (enc := kOst []) (by simp) (fun _ _ => callFunc_enter Tryz.func83 rfl rfl _ _) hit (fun x => rfl) (fun _ => False)
        (fun C pre W => Ext w6 W) (fun cd C pre W => False)
        (fun k hk => ⟨hcap k hk, _root_.id⟩) (fun k hk => hk.elim) ?_ (fun _ _ _ _ _ h _ => h.elim) (Ext.refl _) ?ρ ?ha ?_ ?_ (fun _ _ _ _ _ h _ => h.elim)
      case ha =>
        intro l x W
        simp [kOst]
        exact rfl
      · intro C pre W W' h6 hag
        exact ⟨hag.os.trans h6.os, hag.tape.trans h6.tape, hag.out.trans h6.out, Nat.le_trans h6.size hag.size, fun i hi => (hag.blk i (Nat.lt_of_lt_of_le hi h6.size) (.inl hi)).trans (h6.blk i hi)⟩
      · rintro lp C pre x W ⟨_, suf, hsuf⟩ - - - -
        cases pre <;> simp at hsuf
      · rintro C xs W rfl h6 hD
        have n7 := n6.ext h6
        simp
        refine FN.mono (num_c 1 W) ?_
        rintro _ W ⟨rfl, rfl⟩
        simp [f2]
        have ha := answer_n n7
        simp only [rec0] at ha
        refine FN.mono (ha) ?_
        rintro _ w8 ⟨rfl, hE8⟩
        have n8 := n7.ext hE8
        simp
        refine FN.mono (num_c 1 w8) ?_
        rintro _ w8 ⟨rfl, rfl⟩
        simp [f2]
        refine FN.mono (off_n n8 1 2 3) ?_
        rintro _ w8 ⟨rfl, rfl⟩
        simp [f2]
        have hf := fore_n n8
        simp only [rec0] at hf
        refine FN.mono (hf) ?_
        rintro _ w9 ⟨rfl, hE9⟩
        have n9 := n8.ext hE9
        simp
        refine FN.mono (num_c 1 w9) ?_
        rintro _ w9 ⟨rfl, rfl⟩
        simp [f2]
        refine FN.mono (level_n n9 1 2) ?_
        rintro _ w9 ⟨rfl, rfl⟩
        simp
        refine FN.mono (num_c 1 w9) ?_
        rintro _ w9 ⟨rfl, rfl⟩
        have q0 : IntKind.i64.wrap 0 = 0 := by decide
        simp [f2, q0]
        refine FN.mono (copy_n n9) ?_
        rintro _ w9 ⟨rfl, rfl⟩
        simp [f2]
        refine FN.mono (same_n n9) ?_
        rintro _ w9 ⟨rfl, rfl⟩
        simp [f0, f1]
        have hxx := h6.trans (hE8.trans hE9)
        have hs2 := hE.size
        have hs6 := hX.size
        refine ⟨2 - (turn + 1), by omega, turn + 1, rfl, by omega, ?_, w6.heap.size :: Ds, rfl, List.nodup_cons.2 ⟨fun hm => ?_, hDn⟩, ?_, hE.trans (hX.trans hxx)⟩
        · rw [wrap64 _ (by omega) (by omega)]; rfl
        · have := (hDs _ hm).2
          have := (Array.getElem?_eq_some_iff.1 this).1
          omega
        · intro D hm
          rcases List.mem_cons.1 hm with rfl | hm
          · exact ⟨by omega, (hE8.trans hE9).obj hD⟩
          · exact ⟨(hDs D hm).1, (hX.trans hxx).obj (hDs D hm).2⟩
  · obtain rfl : turn = 2 := by omega
    have y0 := v0.ext hE
    simp [e0, e1, y0.thaw, y0.cell]
    have hM : Mod (fun k => k = B) w2 (w2.setCell ⟨B, 0, none⟩ (.bool true)) := (Mod.refl _ _).setC _ _
    have y1 := y0.set (.bool true)
    have s1 := hE1.size
    generalize (w2.setCell ⟨B, 0, none⟩ (.bool true)) = w5 at hM y1 ⊢
    refine LV_marks Ds w5 hDn (fun D hD => ?_) fun w' hM' => ?_
    · have := hDs D hD
      exact hM.obj this.2 (by omega)
    · have y9 := y1.mod hM' (fun h => by have := (hDs _ h).1; omega)
      simp [y9.cell, e0]
      exact ((((hE1.trans hE).mod (S := fun k => w.heap.size ≤ k)).trans (hM.weaken fun k hk => by omega)).trans (hM'.weaken fun k hk => by have := (hDs _ hk).1; omega)).ext fun _ h => h
end Go.Proofs
