/-
  Contracts of the functions that the law reaches, step by step.
-/
import Derived.Test.YthamfghcfjhifaaGreatDoorSrtF
import Derived.Test.YthamfghcfjhifaaGreatDoorAeT
namespace Go.Proofs
open Pk
set_option maxRecDepth 10000
/-! ### Keys of packsaddle/api.RecKind, sorted -/
abbrev KKML := List (Int × (List Value))
abbrev KKMV (w : World) (v : Value) (m : KKML) := MapV (Value.int .i64) agE w v m
theorem kKtm : Tryz.prog.underlying 72 = some (.map 22 71) := by simp
theorem kKit {w : World} {b1 : Nat} {v : Value} {m : KKML} (v1 : Var w b1 v) (hm : KKMV w v m) :
    Iter Tryz.prog (.func (.func 94) #[] #[ptr b1]) (fun x => [.int .i64 x]) (fun xs => xs.Perm (m.map (·.1))) (fun pre => pre.length ≤ m.length) (fun k => k = b1 ∨ v = .map (some k)) w := by
  intro y C0 J Jx W hA hcap hC0 hJ hJx hy h0
  have k1 := hcap b1 (.inl rfl)
  have k2 := fun r e => hcap r (.inr e)
  have v1W := v1.agr hA k1.1
  have hmW : KKMV W v m := hm.agr hA fun r e => hm.lt e
  refine FN_enter Tryz.func94 rfl rfl (by kernel_rfl) ?_
  obtain ⟨o, hr, hi⟩ := hmW.range (P := Tryz.prog) kKtm
  simp [v1W.cell, hr]
  have hE := (Ext.refl W).alloc o
  have h0' := hJ C0 [] W (W.alloc o) h0 hE.agr
  obtain ⟨ib, hib⟩ : ∃ ib, ib = W.heap.size := ⟨_, rfl⟩
  have hsz : (W.alloc o).heap.size = ib + 1 := by rw [hib]; simp
  rw [← hib] at hi ⊢
  generalize (W.alloc o) = w1 at *
  refine WC_loop (fun k ρ ds w' => ∃ (idxs : List Nat) (C : Nat → Prop), k + idxs.length = m.length ∧ ρ 0 = y ∧ ρ 5 = ptr ib ∧ ds = [] ∧ VIter (Value.int .i64) agE w' ib v m idxs ∧ J C ((seenOf m idxs).map (·.1)) w' ∧
    (∀ k, C k → C0 k ∨ ib < k) ∧ Agr (fun k => k < W.heap.size ∧ ¬ C0 k) W w') m.length ⟨[], C0, by simp, by simp, by simp, rfl, hi, h0', fun k h => .inl h, hE.agr⟩ ?_
  rintro k ρ ds w2 ⟨idxs, C, hk, e0, e5, rfl, hI, hj, hC, hAg⟩
  have hCi : ¬ C ib := fun h => by
    rcases hC _ h with h | h
    · have := hC0 _ h; omega
    · omega
  have hCr : ∀ r, v = .map (some r) → ¬ C r := fun r e h => by
    have h3 := hm.lt e
    have h4 := hA.size
    rcases hC _ h with h | h
    · exact (k2 r e).2 h
    · omega
  rcases hI.next (P := Tryz.prog) 0 with ⟨hp, hrun⟩ | ⟨i, p, w3, hpi, hni, hrun, hI3, hM3, hent, hs3⟩
  · simp [e5, hrun]
    exact ⟨C, .inl ⟨_, (seenOf_all hp).map _, hj⟩⟩
  · have hj3 : J C ((seenOf m idxs).map (·.1)) w3 := hJ _ _ _ _ hj (hM3.agr fun j hq e => by
      subst e
      rcases hq with hq | hq
      · omega
      · exact hCi hq)
    have hb3 := hI3.bound
    simp only [List.length_append, List.length_singleton] at hb3
    have hsp : ((seenOf m idxs).map (·.1) ++ [p.1]).length ≤ m.length := by
      have := seenOf_len m idxs
      simp; omega
    simp [e0, e5, hrun, hent]
    refine CV.mono (hy C _ p.1 w3 hsp hj3) ?_
    rintro _ w4 (⟨rfl, C', hj', hown⟩ | ⟨rfl, C', hj', hown⟩)
    · simp [e0, e5]
      have hM4 := hown.mod
      refine ⟨k - 1, by omega, idxs ++ [i], by simp; omega, hI3.mod hM4 hCr hCi, C', ?_, ?_, ?_⟩
      · rw [seenOf_snoc hpi, List.map_append]; exact hj'
      · intro k' hk'
        rcases hown.own k' hk' with h | h
        · exact hC k' h
        · have := hI3.lt.2; exact .inr (by omega)
      · refine hAg.trans ((hM3.agr fun i hi e => by subst e; omega).trans (hM4.agr fun i hi hc => ?_))
        rcases hC i hc with h | h
        · exact hi.2 h
        · omega
    · simp
      exact ⟨C', .inr ⟨_, hsp, hj'⟩⟩
theorem kKappendSeq_c {w : World} {gf : FuncId} {first caps : Array Value} {S Sp : List Int → Prop} {Cap : Nat → Prop} (hit : Iter Tryz.prog (.func (.func gf) first caps) (fun x => [.int .i64 x]) S Sp Cap w) (hent : ∀ l w, (callFunc gf l).run Tryz.prog w = .ok (.enter gf l) w)
    (hcap : ∀ k, Cap k → k < w.heap.size) (hb : ∀ xs, Sp xs → xs.length ≤ 1048576) :
    FN Tryz.prog 119 [.slice none 0 0, .func (.func gf) first caps] w fun e w' => ∃ xs v, S xs ∧ e = .returned v ∧ w'.ownsRow w.heap.size 22 1 v xs.length (xs.map (.int .i64)) ∧ Ext w w' := by
  refine FN_enter Tryz.func119 rfl rfl (by kernel_rfl) ?_
  simp
  have v1 := Var.new w (.slice none 0 0) 98
  have he := (Ext.refl w).alloc (.cells #[.slice none 0 0] 98)
  have hsz : (w.alloc (.cells #[.slice none 0 0] 98)).heap.size = w.heap.size + 1 := by simp
  generalize (w.alloc (.cells #[.slice none 0 0] 98)) = w1 at *
  refine WC_rangeFunc (gf := gf) (first := first) (caps := caps) (enc := fun x => [.int .i64 x]) (S := S) (Sp := Sp) (Cap := Cap) rfl hent (hit.ext he hcap) (by simp) (fun k => k = w.heap.size)
    (fun C pre W => ∃ v, Var W w.heap.size v ∧ W.ownsRow (w.heap.size + 1) 22 1 v pre.length (pre.map (.int .i64)) ∧ (∀ k, C k ↔ k = w.heap.size ∨ (slN v = false ∧ k = slB v)) ∧ Ext w W) (fun _ _ _ _ => False)
    (fun k hk => ⟨by have := hcap k hk; omega, by have := hcap k hk; omega⟩) (fun k hk => by omega) ?_ (fun _ _ _ _ _ h _ => h.elim) ⟨_, v1, World.ownsRow_nil _ _ _ _, by simp [slN], he⟩ ?ρ ?ha ?_ ?_ (fun _ _ _ _ _ h _ => h.elim)
  case ha =>
    intro l x W
    simp
    exact rfl
  · rintro C pre W W' ⟨v, h1, h2, h3, h4⟩ hag
    refine ⟨v, h1.agr hag (.inl (by omega)), own_keep h2 fun hn hl => hag.blk _ hl (.inr ((h3 _).2 (.inr ⟨hn, rfl⟩))), h3, ?_⟩
    exact ⟨hag.os.trans h4.os, hag.tape.trans h4.tape, hag.out.trans h4.out, Nat.le_trans h4.size hag.size, fun i hi => (hag.blk i (Nat.lt_of_lt_of_le hi h4.size) (.inl (by omega))).trans (h4.blk i hi)⟩
  · rintro l C pre x W hsp ⟨v, h1, h2, h3, h4⟩ - - -
    simp [h1.cell]
    have e1 := (Ext.refl W).alloc (.cells #[.int .i64 x] 22)
    have h1' := h1.ext e1
    have h2' := own_ext h2 e1
    have hlen := hb _ hsp
    rw [List.length_append, List.length_singleton] at hlen
    obtain ⟨v', W2, hr, ho, hm, hnew⟩ := append_own (P := Tryz.prog) (t := 98) (ty := 98) (e := 22) (s := 1) (by simp) (by simp) (by kernel_rfl) h2' (Sl.one W (.int .i64 x) 22) (by intro u hu; rw [List.mem_singleton] at hu; subst hu; rfl) hlen (by have := h1'.lt; omega)
    simp [hr]
    have g1 := h1'.mod hm (fun h => by have := own_ge h2' h.1; omega)
    obtain ⟨a', c', rfl⟩ := own_val ho
    simp [g1.cell, g1.thaw]
    have hM := Mod.setCell (S := fun k => k = w.heap.size) (Mod.refl _ W2) ⟨w.heap.size, 0, none⟩ (.slice a' (pre.length + 1) c') (.inl rfl)
    have hCge : ∀ i, C i → w.heap.size ≤ i := fun i hi => by
      rcases (h3 i).1 hi with h | ⟨h, h'⟩
      · omega
      · have := own_ge h2 h; omega
    have hm' : Pk.Mod C W W2 := e1.mod.trans' hm (S := C) (fun i hi => .inl ((h3 i).2 (.inr hi)))
    have hx : Ext w W2 := ((h4.mod (S := fun k => w.heap.size ≤ k)).trans (hm'.weaken hCge)).ext (fun _ h => h)
    refine ⟨fun k => k = w.heap.size ∨ (slN (.slice a' (pre.length + 1) c') = false ∧ k = slB (.slice a' (pre.length + 1) c')), ⟨_, g1.set _, own_keep ho ?_, fun k => Iff.rfl, ?_⟩, ?_, ?_⟩
    · intro hn hl
      refine hM.blk _ hl ?_
      have := own_ge ho hn
      omega
    · exact hx.setCell _ _ (Nat.le_refl _)
    · exact hm'.trans (hM.weaken fun i hi => (h3 i).2 (.inl hi))
    · rintro k (h | ⟨h, rfl⟩)
      · exact .inl ((h3 k).2 (.inl h))
      · rcases hnew h with ⟨h5, h6⟩ | h5
        · exact .inl ((h3 _).2 (.inr ⟨h5, h6⟩))
        · have := e1.size; exact .inr (by omega)
  · rintro C xs W hS ⟨v, h1, h2, h3, h4⟩ hD
    simp [h1.cell]
    refine LV_mark hD (by simp) ?_
    simp
    refine ⟨xs, hS, own_keep (own_lower h2 (Nat.le_succ _)) fun hn hl => World.putObj_heap_other ?_, h4.putObj _ _ (by omega)⟩
    intro e
    obtain ⟨c, hc⟩ := own_obj h2 hn
    rw [e, hD] at hc
    cases hc
theorem kKcollect_c {w : World} {gf : FuncId} {first caps : Array Value} {S Sp : List Int → Prop} {Cap : Nat → Prop} (hit : Iter Tryz.prog (.func (.func gf) first caps) (fun x => [.int .i64 x]) S Sp Cap w) (hent : ∀ l w, (callFunc gf l).run Tryz.prog w = .ok (.enter gf l) w)
    (hcap : ∀ k, Cap k → k < w.heap.size) (hb : ∀ xs, Sp xs → xs.length ≤ 1048576) :
    FN Tryz.prog 92 [.func (.func gf) first caps] w fun e w' => ∃ xs v, S xs ∧ e = .returned v ∧ w'.ownsRow w.heap.size 22 1 v xs.length (xs.map (.int .i64)) ∧ Ext w w' := by
  refine FN_enter Tryz.func92 rfl rfl (by kernel_rfl) ?_
  simp
  refine FN.mono (kKappendSeq_c hit hent hcap hb) ?_
  rintro _ w1 ⟨xs, v, h1, rfl, h2, h3⟩
  simp
  exact ⟨xs, h1, h2, h3⟩
theorem kKkeys_c {w : World} (o : Option Nat) : FN Tryz.prog 48 [.map o] w fun e w' => e = .returned (.func (.func 94) #[] #[ptr w.heap.size]) ∧ w' = w.alloc (.cells #[.map o] 72) := by
  refine FN_enter Tryz.func48 rfl rfl (by kernel_rfl) ?_
  simp
def kKisKeys (m : KKML) (ys : List Int) : Prop := ys.Perm (m.map (·.1)) ∧ ys.Pairwise (· ≤ ·)
theorem kKuniq {m : KKML} {a b : List Int} (h : kKisKeys m a) (h' : kKisKeys m b) : a = b :=
  List.Perm.eq_of_pairwise (fun _ _ _ _ h1 h2 => Int.le_antisymm h1 h2) h.2 h'.2 (h.1.trans h'.1.symm)
theorem kKex (m : KKML) : ∃ ys, kKisKeys m ys := by
  refine ⟨(m.map (·.1)).mergeSort (fun a b => decide (a ≤ b)), List.mergeSort_perm _ _, ?_⟩
  have := List.pairwise_mergeSort (le := fun a b : Int => decide (a ≤ b)) (fun a b c => by simp; omega) (fun a b => by simp; omega) (m.map (·.1))
  exact this.imp fun h => by simpa using h
theorem kKsorted_c {w : World} {b1 : Nat} {v : Value} {m : KKML} (v1 : Var w b1 v) (hm : KKMV w v m) (hl : m.length ≤ 255) :
    FN Tryz.prog 47 [.func (.func 94) #[] #[ptr b1]] w fun e w' => ∃ u ys, e = .returned u ∧ kKisKeys m ys ∧ Sl w' 1 u ys.length (ys.map (.int .i64)) ∧ Ext w w' ∧ (slN u = false → w.heap.size ≤ slB u) := by
  refine FN_enter Tryz.func47 rfl rfl (by kernel_rfl) ?_
  simp
  have hcap : ∀ k, (k = b1 ∨ v = .map (some k)) → k < w.heap.size := fun k hk => by
    rcases hk with rfl | hk
    · exact v1.lt
    · exact hm.lt hk
  refine FN.mono (kKcollect_c (kKit v1 hm) (fun _ _ => callFunc_enter Tryz.func94 rfl rfl _ _) hcap (fun xs hx => by omega)) ?_
  rintro _ w1 ⟨xs, u, hp, rfl, ho, hE⟩
  simp
  have hxl : xs.length = m.length := by have := hp.length_eq; simpa using this
  refine FN.mono (Skind.sorts (sl_of_own ho) (fun j hj => own_thaw ho (by omega) _) (by omega)) ?_
  rintro _ w4 ⟨⟨u', rfl⟩, ys, h1, h2, h3, h4⟩
  have hM4 : Ext w w4 := ((hE.mod (S := fun k => w.heap.size ≤ k)).trans (h4.weaken fun i hi => by have := own_ge ho hi.1; have := hi.2; omega)).ext fun _ h => h
  have hyl : ys.length = xs.length := h1.length_eq
  simp
  exact ⟨ys, ⟨h1.trans hp, h2⟩, h3, hM4, fun hn => own_ge ho hn⟩
/-- The entries by their keys, rising: the closure's iterator. -/
def kKseg {α : Type} (l : List α) (pre : List α) : Prop := pre ≠ [] ∧ ∃ suf, l = pre ++ suf
def kKval (m : KKML) (k : Int) : Value := ((mget m k).map agE).getD (agE [.string ⟨#[]⟩, .nilFunc, .nilFunc, .nilFunc])
def kKst (m : KKML) (k : Int) : List Value := [.int .i64 k, kKval m k]
/-- The Kinds' words. -/
def kdW (k : Int) : ByteArray := if k = 1 then ⟨#[114, 101, 112, 111, 114, 116]⟩ else if k = 2 then ⟨#[97, 115, 107]⟩ else if k = 3 then ⟨#[116, 101, 108, 108]⟩ else if k = 4 then ⟨#[102, 111, 114, 101]⟩ else ⟨#[109, 101, 109, 98, 101, 114]⟩
def kwst (k : Int) : List Value := [.int .i64 k, .string (kdW k)]
theorem fldW (s : ByteArray) (a b c : Value) (w : World) : (Instr.field 71 (.agg #[.string s, a, b, c]) 0).run Tryz.prog w = .ok (.string s) w := by kernel_rfl
abbrev kdK : List Int := [1, 2, 3, 4, 5]
theorem kwsteps {w : World} {b : Nat} {o : Option Nat} {m : KKML} {ys : List Int} (hyv : ∀ k ∈ ys, ∃ a b c, kKval m k = .agg #[.string (kdW k), a, b, c]) (v1 : Var w b (.map o)) (hm : KKMV w (.map o) m) (hl : m.length ≤ 255) (hy : kKisKeys m ys) :
    Iter Tryz.prog (.func (.func 46) #[] #[ptr b]) kwst (· = ys) (kKseg ys) (fun k => k = b ∨ Value.map o = .map (some k)) w := by
  intro y C0 J Jx W hA hcap hC0 hJ hJx hyl h0
  have k1 := hcap b (.inl rfl)
  have k2 := fun r e => hcap r (.inr e)
  have v1W := v1.agr hA k1.1
  have hmW : KKMV W (.map o) m := hm.agr hA fun r e => hm.lt e
  refine FN_enter Tryz.func46 rfl rfl (by kernel_rfl) ?_
  simp
  refine WC_scope 0 _ rfl ?_
  simp [v1W.cell]
  refine FN.mono (kKkeys_c (w := W) o) ?_
  rintro _ w1 ⟨rfl, hw1⟩
  simp
  have hE1 : Ext W w1 := hw1 ▸ (Ext.refl W).alloc _
  have vk : Var w1 W.heap.size (.map o) := by rw [hw1]; exact Var.new W _ 72
  refine FN.mono (kKsorted_c vk (hmW.ext hE1) hl) ?_
  rintro _ w2 ⟨u, ys', rfl, hy', hs, hE2, hfr⟩
  have := kKuniq hy hy'
  subst this
  have hlen := fun ty W => hs.isLen (P := Tryz.prog) (t := 98) (by simp) ty W
  simp [hlen]
  have hE := hE1.trans hE2
  have h0' := hJ C0 [] W w2 h0 hE.agr
  have hyb : ys.length ≤ 255 := by have := hy.1.length_eq; simp at this; omega
  have hus : 0 < ys.length → W.heap.size ≤ slB u ∧ slB u < w2.heap.size := fun h => by
    have h1 := hs.lt (by simpa using h)
    have h2 := hs.blk
    refine ⟨?_, h1⟩
    have := hE1.size
    rcases h2 with h2 | ⟨b', o', c', rfl, _⟩
    · omega
    · have := hfr rfl; omega
  have hsz := hE.size
  refine WC_loop (fun k ρ ds w' => ∃ (i : Nat) (C : Nat → Prop), k = ys.length - i ∧ i ≤ ys.length ∧ ρ 0 = y ∧ ρ 1 = ptr b ∧ ρ 7 = u ∧ ρ 8 = .int .i64 ys.length ∧ ρ 9 = .int .i64 i ∧ ds = [] ∧ J C (ys.take i) w' ∧
    (∀ k, C k → C0 k ∨ w2.heap.size ≤ k) ∧ Agr (fun k => k < w2.heap.size ∧ ¬ C0 k) w2 w') ys.length ⟨0, C0, by simp, by simp, by simp, by simp, by simp, by simp, by simp, rfl, h0', fun k h => .inl h, Agr.refl _ _⟩ ?_
  rintro k ρ ds w3 ⟨i, C, rfl, hi, e0, e1, e7, e8, e9, rfl, hj, hC, hAg⟩
  by_cases hlt : i < ys.length
  · have hb := k1.2
    have v3 := ((v1W.ext hE).agr hAg ⟨(v1W.ext hE).lt, hb⟩)
    have hm3 : KKMV w3 (.map o) m := (hmW.ext hE).agr hAg fun r e => ⟨(hmW.ext hE).lt e, (k2 r e).2⟩
    have hs3 : Sl w3 1 u ys.length (ys.map (.int .i64)) := hs.agr hAg ⟨(hus (by omega)).2, fun hc => by have := hC0 _ hc; have := (hus (by omega)).1; omega⟩
    have c := hs3.at_ i (.int .i64 ys[i]) (by simp [hlt])
    have ix := hs3.index (P := Tryz.prog) (t := 98) (by simp) .i64 i (by omega) (by omega) w3
    have hlk := hm3.lookup krk kKtm (zkd w3) ys[i] false
    rw [if_neg (by simp)] at hlk
    obtain ⟨q1, q2, q3, hval⟩ := hyv ys[i] (List.getElem_mem hlt)
    rw [show ((mget m ys[i]).map agE).getD (agE [.string ⟨#[]⟩, .nilFunc, .nilFunc, .nilFunc]) = kKval m ys[i] from rfl, hval] at hlk
    have htk : ys.take (i + 1) = ys.take i ++ [ys[i]] := by rw [List.take_add_one, List.getElem?_eq_getElem hlt]; rfl
    have hsp : kKseg ys (ys.take i ++ [ys[i]]) := ⟨List.append_ne_nil_of_right_ne_nil _ (by simp), ys.drop (i + 1), by rw [← htk, List.take_append_drop]⟩
    have hfd := fldW (kdW ys[i]) q1 q2 q3 w3
    simp [e0, e1, e7, e8, e9, hlt, ix, c, v3.cell, hlk, hfd]
    refine CV.mono (hyl C (ys.take i) ys[i] w3 hsp hj) ?_
    rintro _ w4 (⟨rfl, C', hj', hown⟩ | ⟨rfl, C', hj', hown⟩)
    · have hAg' : Agr (fun k => k < w2.heap.size ∧ ¬ C0 k) w3 w4 := hown.mod.agr (fun k hk hc => by rcases hC k hc with h | h; exact hk.2 h; omega)
      simp [e0, e1, e7, e8, e9]
      refine ⟨ys.length - (i + 1), by omega, i + 1, rfl, by omega, by rw [wrap64 _ (by omega) (by omega)]; rfl, C', by rw [htk]; exact hj', ?_, hAg.trans hAg'⟩
      intro k hk
      rcases hown.own k hk with h | h
      · exact hC k h
      · have := hAg.size; exact .inr (by omega)
    · simp
      exact ⟨C', .inr ⟨_, hsp, hj'⟩⟩
  · simp [e8, e9, hlt]
    have : i = ys.length := by omega
    rw [this, List.take_length] at hj
    exact ⟨C, .inl hj⟩
theorem kdK_keys : kKisKeys kdL kdK := ⟨by decide, by decide⟩
theorem kdK_val : ∀ k ∈ kdK, ∃ a b c, kKval kdL k = .agg #[.string (kdW k), a, b, c] := by
  intro k hk
  simp only [kdK, List.mem_cons, List.not_mem_nil, or_false] at hk
  rcases hk with rfl | rfl | rfl | rfl | rfl <;> exact ⟨_, _, _, rfl⟩
theorem kindsF_c (w : World) : FN Tryz.prog 24 [] w fun e w' => ∃ b r, e = .returned (.func (.func 46) #[] #[ptr b]) ∧ Var w' b (.map (some r)) ∧ MapAt (Value.int .i64) agE w' r kdL ∧ Ext w w' := by
  refine FN_enter Tryz.func24 rfl rfl (by kernel_rfl) ?_
  simp
  refine FN.mono (kinds_c w) ?_
  rintro _ w1 ⟨r, rfl, hm, hE1⟩
  simp
  exact ⟨r, Var.new w1 (.map (some r)) 72, hm.ext ((Ext.refl _).alloc _), hE1.alloc _⟩
theorem words_it {w : World} {b r : Nat} (v1 : Var w b (.map (some r))) (hm : MapAt (Value.int .i64) agE w r kdL) : Iter Tryz.prog (.func (.func 46) #[] #[ptr b]) kwst (· = kdK) (kKseg kdK) (fun k => k = b ∨ Value.map (some r) = .map (some k)) w :=
  kwsteps kdK_val v1 hm.val (by decide) kdK_keys
end Go.Proofs
namespace Go.Proofs
open Pk
set_option maxRecDepth 10000
attribute [local simp] beq_dec bne_dec
def whyS (n : Int) : ByteArray := if n = 0 then ⟨#[110, 111, 110, 101]⟩ else if n = 1 then ⟨#[101, 120, 112, 105, 114, 101, 100]⟩ else if n = 2 then ⟨#[104, 111, 112, 115]⟩ else if n = 3 then ⟨#[112, 97, 116, 104]⟩ else if n = 4 then ⟨#[114, 111, 117, 116, 101]⟩ else if n = 5 then ⟨#[113, 117, 111, 116, 97]⟩ else ⟨#[]⟩
theorem whyS_out {n : Int} (h : n < 0 ∨ 5 < n) : whyS n = ⟨#[]⟩ := by
  unfold whyS
  rw [if_neg (by omega), if_neg (by omega), if_neg (by omega), if_neg (by omega), if_neg (by omega), if_neg (by omega)]
theorem idx6 {n : Int} (hc : n = 0 ∨ n = 1 ∨ n = 2 ∨ n = 3 ∨ n = 4 ∨ n = 5) (w : World) : (Instr.index 103 (.agg #[.string ⟨#[110, 111, 110, 101]⟩, .string ⟨#[101, 120, 112, 105, 114, 101, 100]⟩, .string ⟨#[104, 111, 112, 115]⟩, .string ⟨#[112, 97, 116, 104]⟩, .string ⟨#[114, 111, 117, 116, 101]⟩, .string ⟨#[113, 117, 111, 116, 97]⟩]) (i64 n)).run Tryz.prog w = .ok (.string (whyS n)) w := by
  have hu : Tryz.prog.underlying 103 = some (.array 6 9) := by simp
  rcases hc with rfl | rfl | rfl | rfl | rfl | rfl
  all_goals
    simp [Instr.index, run_underlying hu, asIntOf, whyS, go_sem]
    trace_state
theorem why_c (n : Int) (w : World) : FN Tryz.prog 25 [i64 n] w fun e w' => e = .returned (.string (whyS n)) ∧ Ext w w' := by
  refine FN_enter Tryz.func25 rfl rfl (by kernel_rfl) ?_
  by_cases h1 : n < 0
  · simp [h1, whyS_out (.inl h1)]
    exact Ext.refl w
  by_cases h2 : 6 ≤ n
  · simp [h1, h2, whyS_out (n := n) (.inr (by omega))]
    exact Ext.refl w
  have hc : n = 0 ∨ n = 1 ∨ n = 2 ∨ n = 3 ∨ n = 4 ∨ n = 5 := by omega
  have hx := idx6 hc w
  simp [h1, h2, hx]
  exact Ext.refl w
theorem rwhy_c (n : Int) (w : World) : FN Tryz.prog 26 [i64 n] w fun e w' => e = .returned (.string (whyS n)) ∧ Ext w w' := by
  refine FN_enter Tryz.func26 rfl rfl (by kernel_rfl) ?_
  by_cases h1 : n < 0
  · simp [h1, whyS_out (.inl h1)]
    exact Ext.refl w
  by_cases h2 : 5 < n
  · simp [h1, h2, whyS_out (.inr h2)]
    exact Ext.refl w
  have hc : n = 0 ∨ n = 1 ∨ n = 2 ∨ n = 3 ∨ n = 4 ∨ n = 5 := by omega
  rcases hc with rfl | rfl | rfl | rfl | rfl | rfl
  all_goals
    simp [whyS]
    exact (Ext.refl w).alloc _
theorem rwords_c (w : World) : FN Tryz.prog 23 [] w fun e w' => e = .returned (.slice (some ⟨w.heap.size, 0, none⟩) 5 5) ∧ w' = w.alloc (.cells #[.string ⟨#[114, 101, 112, 111, 114, 116]⟩, .string ⟨#[97, 115, 107]⟩, .string ⟨#[116, 101, 108, 108]⟩, .string ⟨#[102, 111, 114, 101]⟩, .string ⟨#[109, 101, 109, 98, 101, 114]⟩] 9) := by
  refine FN_enter Tryz.func23 rfl rfl (by kernel_rfl) ?_
  simp
end Go.Proofs
namespace Go.Proofs
open Pk
set_option maxRecDepth 10000
abbrev wordsL : List Value := kdK.map fun k => .string (kdW k)
structure WFix (W : World) (B b5 sb gb gr : Nat) (z : Int) : Prop where
  fz : Var W B (i64 z)
  fo : Var W (B + 1) (.bool false)
  fg : Var W b5 (.slice (some ⟨sb, 0, none⟩) 5 5)
  fgs : Sl W 1 (.slice (some ⟨sb, 0, none⟩) 5 5) 5 wordsL
  fgc : Var W gb (.map (some gr))
  fgm : MapAt (Value.int .i64) agE W gr kdL
theorem WFix.ext {W W' : World} {B b5 sb gb gr : Nat} {z : Int} (h : WFix W B b5 sb gb gr z) (hE : Ext W W') : WFix W' B b5 sb gb gr z :=
  ⟨h.fz.ext hE, h.fo.ext hE, h.fg.ext hE, h.fgs.ext hE, h.fgc.ext hE, h.fgm.ext hE⟩
theorem kdK_at {i : Nat} {x : Int} (h : kdK[i]? = some x) : i < 5 ∧ x = i + 1 := by
  have hi : i < 5 := by have := (List.getElem?_eq_some_iff.1 h).1; simpa using this
  refine ⟨hi, ?_⟩
  have hc : i = 0 ∨ i = 1 ∨ i = 2 ∨ i = 3 ∨ i = 4 := by omega
  rcases hc with rfl | rfl | rfl | rfl | rfl <;> (simp at h; omega)
set_option maxHeartbeats 4000000 in
theorem lawWords_c (n z : Int) (w : World) : FN Tryz.prog 8 [i64 n, i64 z] w fun e w' => e = .returned (.bool true) ∧ Ext w w' := by
  refine FN_enter Tryz.func8 rfl rfl (by kernel_rfl) ?_
  simp
  have hE1 : Ext w ((w.alloc (.cells #[i64 z] 3)).alloc (.cells #[.bool false] 4)) := ((Ext.refl w).alloc _).alloc _
  have z1 : Var ((w.alloc (.cells #[i64 z] 3)).alloc (.cells #[.bool false] 4)) w.heap.size (i64 z) := (Var.new w (i64 z) 3).ext ((Ext.refl _).alloc _)
  have o1 : Var ((w.alloc (.cells #[i64 z] 3)).alloc (.cells #[.bool false] 4)) (w.heap.size + 1) (.bool false) := by
    have := Var.new (w.alloc (.cells #[i64 z] 3)) (.bool false) 4
    simpa using this
  have s1 : ((w.alloc (.cells #[i64 z] 3)).alloc (.cells #[.bool false] 4)).heap.size = w.heap.size + 1 + 1 := by simp
  generalize ((w.alloc (.cells #[i64 z] 3)).alloc (.cells #[.bool false] 4)) = w1 at *
  refine FN.mono (rwords_c w1) ?_
  rintro _ w2 ⟨rfl, hw2⟩
  have hE2 : Ext w1 w2 := hw2 ▸ (Ext.refl w1).alloc _
  have sl2 : Sl w2 1 (.slice (some ⟨w1.heap.size, 0, none⟩) 5 5) 5 wordsL := by
    rw [hw2]
    exact Sl.made w1 wordsL 9 1 5 rfl
  clear hw2
  simp
  have hE3 : Ext w2 (w2.alloc (.cells #[.slice (some ⟨w1.heap.size, 0, none⟩) 5 5] 59)) := (Ext.refl _).alloc _
  have g3 := Var.new w2 (.slice (some ⟨w1.heap.size, 0, none⟩) 5 5) 59
  generalize (w2.alloc (.cells #[.slice (some ⟨w1.heap.size, 0, none⟩) 5 5] 59)) = w3 at *
  refine FN.mono (kindsF_c w3) ?_
  rintro _ w4 ⟨gb, gr, rfl, gv4, gm4, hE4⟩
  simp
  have hE5 : Ext w4 (w4.alloc (.cells #[i64 0] 3)) := (Ext.refl _).alloc _
  have t5 := Var.new w4 (i64 0) 3
  have hE25 := hE3.trans (hE4.trans hE5)
  have hE15 := hE1.trans (hE2.trans hE25)
  obtain ⟨sb, hsb⟩ : ∃ sb, sb = w1.heap.size := ⟨_, rfl⟩
  rw [← hsb] at sl2 g3 ⊢
  have F : WFix (w4.alloc (.cells #[i64 0] 3)) w.heap.size w2.heap.size sb gb gr z :=
    ⟨z1.ext (hE2.trans hE25), o1.ext (hE2.trans hE25), g3.ext (hE4.trans hE5), sl2.ext hE25, gv4.ext hE5, gm4.ext hE5⟩
  obtain ⟨b10, hb10⟩ : ∃ b10, b10 = w4.heap.size := ⟨_, rfl⟩
  have s5 : (w4.alloc (.cells #[i64 0] 3)).heap.size = b10 + 1 := by simp [hb10]
  have hs4 := hE4.size
  have hs3 := hE3.size
  have hs2 := hE2.size
  rw [← hb10] at t5 ⊢
  generalize (w4.alloc (.cells #[i64 0] 3)) = w5 at *
  obtain ⟨B, hB⟩ : ∃ B, B = w.heap.size := ⟨_, rfl⟩
  obtain ⟨b5, hb5⟩ : ∃ b5, b5 = w2.heap.size := ⟨_, rfl⟩
  rw [← hB, ← hb5] at F ⊢
  have hBb : B + 1 < b5 := by omega
  have hb54 : b5 < b10 := by have := g3.lt; omega
  have hgb4 : gb < b10 ∧ gr < b10 := by rw [hb10]; exact ⟨gv4.lt, gm4.lt⟩
  have glen := fun ty W => F.fgs.isLen (P := Tryz.prog) (t := 59) (by simp) ty W
  have q1' : IntKind.i64.wrap 1 = 1 := by decide
  have q2' : IntKind.i64.wrap 2 = 2 := by decide
  refine WC_loop (fun k ρ ds w' => ∃ (turn b : Nat) (Ds : List Nat), k = 2 - turn ∧ turn ≤ 2 ∧ ρ 0 = i64 n ∧ ρ 3 = ptr B ∧ ρ 4 = ptr (B + 1) ∧ ρ 5 = ptr b5 ∧ ρ 6 = .func (.func 46) #[] #[ptr gb] ∧ ρ 7 = ptr b ∧ ds = Ds.map dmark ∧ Ds.Nodup ∧ (∀ D ∈ Ds, b10 < D ∧ w'.heap[D]? = some (.deferred (some []))) ∧
    Var w' b (i64 turn) ∧ b10 ≤ b ∧ Ext w5 w') 2
    ⟨0, b10, [], rfl, by omega, by simp, by simp, by simp, by simp, by simp, by simp, rfl, List.nodup_nil, (fun D h => by cases h), t5, by omega, Ext.refl _⟩ ?_
  rintro k ρ ds w6 ⟨turn, b, Ds, rfl, ht2, e0, e3, e4, e5, e6, e7, rfl, hDn, hDs, vb, hbb, hE6⟩
  by_cases ht : turn < 2
  · have htb : (turn : Int) < 2 := by omega
    simp [e6, e7, vb.cell, htb]
    have eA : Ext w6 (w6.alloc (.cells #[i64 0] 3)) := (Ext.refl _).alloc _
    have v11 := Var.new w6 (i64 0) 3
    have s7 : (w6.alloc (.cells #[i64 0] 3)).heap.size = w6.heap.size + 1 := by simp
    obtain ⟨b11, hb11⟩ : ∃ b11, b11 = w6.heap.size := ⟨_, rfl⟩
    rw [← hb11] at v11 s7 ⊢
    generalize (w6.alloc (.cells #[i64 0] 3)) = w7 at *
    have hE7 := hE6.trans eA
    have F7 := F.ext hE7
    have vb7 := vb.ext eA
    have hs6 := hE6.size
    have hbl := vb.lt
    have fin : ∀ (W : World) (q' : Int), Ext w6 W → W.heap[w7.heap.size]? = some (.deferred (some [])) → ∃ x : List Nat, ({ target := .collected w7.heap.size, args := #[] } :: Ds.map dmark : List Deferred) = x.map dmark ∧ x.Nodup ∧
        (∀ D ∈ x, b10 < D ∧ W.heap[D]? = some (.deferred (some []))) ∧ Var (W.alloc (.cells #[i64 q'] 3)) W.heap.size (i64 q') ∧ b10 ≤ W.heap.size ∧ Ext w5 (W.alloc (.cells #[i64 q'] 3)) := by
      intro W q' hx hD
      have hy := hx.trans ((Ext.refl W).alloc (.cells #[i64 q'] 3))
      have hsz := hx.size
      refine ⟨w7.heap.size :: Ds, rfl, List.nodup_cons.2 ⟨fun hm => ?_, hDn⟩, ?_, Var.new _ _ _, by omega, hE6.trans hy⟩
      · have := (hDs _ hm).2
        have := (Array.getElem?_eq_some_iff.1 this).1
        omega
      · intro D hm
        rcases List.mem_cons.1 hm with rfl | hm
        · exact ⟨by omega, hD⟩
        · exact ⟨(hDs D hm).1, hx.obj (hDs D hm).2⟩
    refine WC_rangeFunc (gf := 46) (first := #[]) (caps := #[ptr gb]) (enc := kwst) (by simp) (fun _ _ => callFunc_enter Tryz.func46 rfl rfl _ _) (words_it F7.fgc F7.fgm) (fun x => rfl) (fun k => k = b11)
      (fun C pre W => Var W b11 (i64 pre.length) ∧ (∀ k, C k ↔ k = b11) ∧ Ext w6 W ∧ (turn = 0 → pre ≠ [] → (pre.length : Int) < z))
      (fun cd C pre W => cd = .exit 2 ∧ turn = 0 ∧ Var W b11 (i64 pre.length) ∧ Ext w6 W ∧ z ≤ pre.length ∧ ((pre.length : Int) - 1 < z ∨ pre.length = 1) ∧ (∀ k, C k ↔ k = b11))
      (fun k hk => ⟨?_, ?_⟩) (fun k hk => by omega) ?_ ?_ ⟨by simpa using v11, fun _ => Iff.rfl, eA, fun _ h => (h rfl).elim⟩ ?ρ ?ha ?_ ?_ ?_
    case ha =>
      intro l x W
      simp [kwst]
      exact rfl
    · rcases hk with rfl | hk
      · omega
      · cases hk; omega
    · rcases hk with rfl | hk
      · omega
      · cases hk; omega
    · rintro C pre W W' ⟨h1, h5, h6, h7⟩ hag
      refine ⟨h1.agr hag (.inr ((h5 _).2 rfl)), h5, ?_, h7⟩
      exact ⟨hag.os.trans h6.os, hag.tape.trans h6.tape, hag.out.trans h6.out, Nat.le_trans h6.size hag.size, fun i hi => (hag.blk i (Nat.lt_of_lt_of_le hi h6.size) (.inl (by omega))).trans (h6.blk i hi)⟩
    · rintro cd C pre W W' ⟨h0, ht0, h1, h6, h7, h8, h5⟩ hag
      refine ⟨h0, ht0, h1.agr hag (.inr ((h5 _).2 rfl)), ?_, h7, h8, h5⟩
      exact ⟨hag.os.trans h6.os, hag.tape.trans h6.tape, hag.out.trans h6.out, Nat.le_trans h6.size hag.size, fun i hi => (hag.blk i (Nat.lt_of_lt_of_le hi h6.size) (.inl (by omega))).trans (h6.blk i hi)⟩
    · rintro l C pre x W hsp ⟨h1, h5, h6, h7⟩ - - -
      obtain ⟨_, suf, hsuf⟩ := hsp
      have hxq : kdK[pre.length]? = some x := by rw [hsuf]; simp
      obtain ⟨hql, hx1⟩ := kdK_at hxq
      have FW := F.ext (hE6.trans h6)
      have vbW := vb.ext h6
      have d1 := FW.fgs.at_ pre.length (.string (kdW x)) (by rw [List.getElem?_map, hxq]; rfl)
      have ix := fun W => F.fgs.index (P := Tryz.prog) (t := 59) (by simp) .i64 pre.length (by omega) (by omega) W
      simp at ix d1
      have wq : IntKind.i64.wrap ((pre.length : Int) + 1) = ((pre.length + 1 : Nat) : Int) := by rw [wrap64 _ (by omega) (by omega)]; rfl
      have hnl : ¬ (5 : Int) ≤ pre.length := by omega
      have hset := h1.set (i64 ((pre.length + 1 : Nat) : Int))
      have hxw : (x != IntKind.i64.wrap ((pre.length : Int) + 1)) = false := by rw [wq, hx1]; simp
      simp [e5, e7, h1.cell, h1.thaw, FW.fg.cell, glen, hnl, ix, d1, hxw]
      rw [wq]
      obtain ⟨W3, hW3⟩ : ∃ W3, W3 = W.setCell ⟨b11, 0, none⟩ (i64 ((pre.length + 1 : Nat) : Int)) := ⟨_, rfl⟩
      rw [← hW3] at hset ⊢
      have hM3 : Mod (fun k => k = b11) W W3 := by rw [hW3]; exact (Mod.refl _ W).setC 0 _
      have hE3 : Ext w6 W3 := (h6.mod.trans hM3).ext fun k hk => by omega
      have F3 := F.ext (hE6.trans hE3)
      have vb3 := vb.ext hE3
      have hMC : Own C (fun k => k = b11) W W3 := ⟨hM3.weaken fun k hk => (h5 k).2 hk, fun k hk => .inl ((h5 k).2 hk)⟩
      by_cases ht0 : turn = 0
      · subst ht0
        by_cases hz : z ≤ (pre.length : Int) + 1
        · simp [e3, vb3.cell, hset.cell, F3.fz.cell, hz]
          refine ⟨fun k => k = b11, ⟨?_, hE3, ?_, fun _ => Iff.rfl⟩, hMC⟩
          · have := hset; push_cast at this; exact this
          · by_cases hp : pre = []
            · right; exact hp
            · left; exact h7 rfl hp
        · simp [e3, vb3.cell, hset.cell, F3.fz.cell, hz]
          refine ⟨fun k => k = b11, ⟨?_, fun _ => Iff.rfl, hE3, by omega⟩, hMC⟩
          have := hset; push_cast at this; exact this
      · have htn : ((turn : Int) == 0) = false := by simp; omega
        simp [vb3.cell, htn]
        refine ⟨fun k => k = b11, ⟨?_, fun _ => Iff.rfl, hE3, fun h => (ht0 h).elim⟩, hMC⟩
        have := hset; push_cast at this; exact this
    · rintro C _ W rfl ⟨h1, h5, h6, h7⟩ hD
      simp only [List.length_cons, List.length_nil] at h1 h7
      have FW := F.ext (hE6.trans h6)
      have vbW := vb.ext h6
      by_cases ht0 : turn = 0
      · subst ht0
        have hmn : ((5 : Int) != min (5 : Int) (max 1 z)) = false := by
          have : (5 : Int) = min (5 : Int) (max 1 z) := by
            have := h7 rfl (by simp)
            omega
          rw [← this]; simp
        simp [e3, e5, e7, vbW.cell, h1.cell, FW.fg.cell, FW.fz.cell, glen, hmn, q1']
        obtain ⟨x, f1, f2, f3, f4, f5, f6⟩ := fin W 1 h6 hD
        exact ⟨1, by omega, 1, rfl, by omega, e0, e4, e6, x, f1, f2, f3, f4, f5, f6⟩
      · obtain rfl : turn = 1 := by omega
        simp [e3, e5, e7, vbW.cell, h1.cell, FW.fg.cell, glen, q2']
        obtain ⟨x, f1, f2, f3, f4, f5, f6⟩ := fin W 2 h6 hD
        exact ⟨2, by omega, by omega, e0, e4, e6, x, f1, f2, f3, f4, f5, f6⟩
    · rintro cd C pre W hsp ⟨rfl, ht0, h1, h6, h7, h8, h5⟩ hD
      have FW := F.ext (hE6.trans h6)
      have vbW := vb.ext h6
      subst ht0
      obtain ⟨hne, suf, hsuf⟩ := hsp
      have hql : pre.length ≤ 5 := by have := congrArg List.length hsuf; simp at this; omega
      have hq0 : 0 < pre.length := List.length_pos_iff.2 hne
      have hmn : ((pre.length : Int) != min (5 : Int) (max 1 z)) = false := by
        have : (pre.length : Int) = min (5 : Int) (max 1 z) := by omega
        rw [← this]; simp
      simp [e3, e5, e7, vbW.cell, h1.cell, FW.fg.cell, FW.fz.cell, glen, hmn, q1']
      obtain ⟨x, f1, f2, f3, f4, f5, f6⟩ := fin W 1 h6 hD
      exact ⟨1, by omega, 1, rfl, by omega, e0, e4, e6, x, f1, f2, f3, f4, f5, f6⟩
  · have htb : ¬ (turn : Int) < 2 := by omega
    have F6 := F.ext hE6
    simp [e0, e7, vb.cell, htb]
    refine FN.mono (why_c n w6) ?_
    rintro _ w7 ⟨rfl, hE7⟩
    simp [e0]
    refine FN.mono (rwhy_c n w7) ?_
    rintro _ w8 ⟨rfl, hE8⟩
    simp
    refine FN.mono (works_c _) ?_
    rintro _ wb ⟨rfl, hEb⟩
    have hE6b := hE7.trans (hE8.trans hEb)
    have Fb := F6.ext hE6b
    simp [e4, Fb.fo.cell, Fb.fo.thaw]
    have hM := (Mod.refl (fun k => k = B + 1) wb).setC 0 (.bool true)
    have ho := Fb.fo.set (.bool true)
    have hEf : Ext w (wb.setCell ⟨B + 1, 0, none⟩ (.bool true)) := (((hE15.trans hE6).trans hE6b).mod.trans hM).ext fun k hk => by omega
    have hlf := Fb.fo.lt
    generalize (wb.setCell ⟨B + 1, 0, none⟩ (.bool true)) = wc at *
    refine LV_marks Ds wc hDn (fun D hD => ?_) fun w' hM' => ?_
    · have := hDs D hD
      exact hM.obj (hE6b.obj this.2) (by omega)
    · have ho' := ho.mod hM' (fun h => by have := (hDs _ h).1; omega)
      simp [ho'.cell, e4]
      exact (hEf.mod.trans hM').ext fun D hD => by have := (hDs D hD).1; omega
end Go.Proofs
