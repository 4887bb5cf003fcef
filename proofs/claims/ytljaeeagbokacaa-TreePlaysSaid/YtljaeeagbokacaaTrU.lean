/-
  Contracts of the functions that the law reaches, step by step.
-/
import Derived.Test.YtljaeeagbokacaaTrT
import Derived.Test.YtljaeeagbokacaaTrS
import Derived.Test.YtljaeeagbokacaaEngQ
import Derived.Test.YtljaeeagbokacaaTrR
import Derived.Test.YtljaeeagbokacaaTrQ
set_option maxRecDepth 10000
set_option maxHeartbeats 4000000
namespace Go.Proofs
open Pk
theorem TreeAt.mod {w w' : World} {t r : Nat} {m : ML} {S : Nat → Prop} (h : TreeAt w t r m) (he : Mod S w w') (h1 : ¬ S t) (h2 : ¬ S r) : TreeAt w' t r m := ⟨he.cell h.cell h1, h.map.mod he h2⟩
theorem rws_mod {w w' : World} {v : Value} {s : ML} {S : Nat → Prop} (h : Rws w v s) (hK : Mod S w w') (hS : 0 < s.length → ¬ S (slB v)) : Rws w' v s :=
  ⟨h.len, h.val, fun j c hj => hK.cell (h.at_ j c hj) (hS (by have := (List.getElem?_eq_some_iff.1 hj).1; rw [pairCells_len] at this; omega))⟩
theorem rws_head {w : World} {v : Value} {s : ML} (h : Rws w v s) (h0 : 0 < s.length) : ∃ (o : Nat) (x : Int), w.cell? ⟨slB v, o, none⟩ = some (u32 x) := by
  obtain ⟨p, hp⟩ : ∃ p, s[0]? = some p := ⟨_, List.getElem?_eq_getElem h0⟩
  exact ⟨_, _, h.at_ _ _ (pairCells_at s 0 p hp).1⟩
theorem rws_ne_map {w : World} {v : Value} {s m : ML} {r : Nat} (h : Rws w v s) (hm : MA w r m) (h0 : 0 < s.length) : slB v ≠ r := by
  obtain ⟨o, x, hc⟩ := rws_head h h0
  intro e
  obtain ⟨⟨es, c, hr, _⟩, _⟩ := hm
  rw [e] at hc
  simp [World.cell?, hr] at hc
theorem rws_ne_var {w : World} {v : Value} {s : ML} {B : Nat} {T : TypeId} (h : Rws w v s) (hv : w.heap[B]? = some (.cells #[.slice none 0 0] T (0, 0))) (h0 : 0 < s.length) : slB v ≠ B := by
  obtain ⟨o, x, hc⟩ := rws_head h h0
  intro e
  rw [e] at hc
  simp [World.cell?, hv] at hc
  cases o with
  | zero => simp [u32] at hc
  | succ o => simp at hc
theorem sl_mod {w w' : World} {v : Value} {k n : Nat} {cs : List Value} {S : Nat → Prop} (h : Sl w k v n cs) (hK : Mod S w w') (hS : cs ≠ [] → ¬ S (slB v)) : Sl w' k v n cs :=
  ⟨h.len, h.val, fun j c hj => hK.cell (h.at_ j c hj) (hS (by rintro rfl; simp at hj))⟩
theorem sl_ne_var {w : World} {v : Value} {n : Nat} {xs : List Int} {B : Nat} {T : TypeId} (h : Sl w 1 v n (xs.map u32)) (hv : w.heap[B]? = some (.cells #[.slice none 0 0] T (0, 0))) (h0 : xs.map u32 ≠ []) : slB v ≠ B := by
  cases xs with
  | nil => exact absurd rfl h0
  | cons x xs =>
    have hc := h.at_ 0 (u32 x) (by simp)
    intro e
    rw [e] at hc
    simp [World.cell?, hv] at hc
    cases ho : slO v with
    | zero => rw [ho] at hc; simp [u32] at hc
    | succ o => rw [ho] at hc; simp at hc
theorem way_eq {l l' : List Int} {x y : Int} (hx : 0 ≤ x) (hy : 0 ≤ y) : rwayE l l' x y = wayE l l' x y := by
  unfold rwayE wayE
  by_cases h : x = 0 ∨ y = 0
  · rw [if_pos h, if_pos (by omega)]
  · have h2 : min x y ≠ 0 := by omega
    rw [if_neg h, if_neg h2]
theorem wayL_len (l l' : List Int) : ((wayL l l').getD []).length ≤ l.length + l'.length := by
  unfold wayL
  split
  · simp
  · simp only [Option.getD_some, List.length_append, List.length_reverse, List.length_take]; omega
theorem next_far {m : ML} {l l' : List Int} {x y : Int} (hl : Lin m x l) (hl' : Lin m y l') (h : nextE l l' x y = 0) : 1 < ((wayL l l').getD []).length := by
  have hxy : x ≠ y := by
    rintro rfl
    unfold nextE at h
    split at h
    · omega
    · rename_i h1; exact h1 ⟨h, rfl⟩
  have hw : wayE l l' x y = 0 := by
    unfold nextE at h
    rwa [if_neg (fun h => hxy h.2)] at h
  unfold wayE at hw
  split at hw
  · omega
  rename_i hm
  rcases meets hl hl' with ⟨e, _⟩ | ⟨p, a, s, p', hM⟩
  · rw [e] at hw; simp at hw
  · rw [hM.way]
    have e1 := hM.up
    have e2 := hM.down
    simp
    cases p with
    | cons c p => simp; omega
    | nil => cases p' with
      | cons c p' => simp
      | nil =>
        cases hl with
        | top => simp at e1
        | on h0 k => cases hl' with
          | top => simp at e2
          | on h0' k' => simp at e1 e2; exact absurd (e1.1.trans e2.1.symm) hxy
theorem next_eq {m : ML} {l l' : List Int} {x y : Int} (hl : Lin m x l) (hl' : Lin m y l') (hx : 0 ≤ x) (hy : 0 ≤ y) : rnextE l l' x y = nextE l l' x y := by
  unfold rnextE nextE
  rw [way_eq hx hy]
  by_cases h : x = y
  · rw [if_pos h]
    by_cases h1 : wayE l l' x y = 0
    · rw [if_pos ⟨h1, h⟩]
    · rw [if_neg (fun hc => h1 hc.1)]
      unfold wayE at h1 ⊢
      by_cases h2 : min x y = 0
      · rw [if_pos h2]
      · rw [if_neg h2] at h1 ⊢
        exfalso
        subst h
        obtain rfl := hl.uniq hl'
        cases hl with
        | top => simp at h2
        | @on _ l h0 k =>
          refine h1 ?_
          unfold wayL
          simp [List.findIdx?_cons]
  · rw [if_neg h, if_neg (fun hc => h hc.2)]
theorem act_c {w : World} {t r : Nat} {m s : ML} {v : Value} (ht : TreeAt w t r m) (hr : Rws w v s) (hR : Rel m s) (hg : Good m) (a : Int) {x y : Int} (hx : 0 ≤ x) (hy : 0 ≤ y) :
    FN Try.prog 16 [ptr t, .agg #[v], .agg #[.int .i64 a, u32 x, u32 y]] w fun e w' => ∃ m' s' v', e = .returned (.tuple #[.agg #[v'], .bool true]) ∧ TreeAt w' t r m' ∧ Rws w' v' s' ∧ Rel m' s' ∧ Good m' ∧ Mod (· = r) w w' := by
  refine FN_enter Try.func16 rfl rfl (by kernel_rfl) ?_
  obtain ⟨w1, hw1⟩ : ∃ w1, w1 = (((w.alloc (.cells #[v] 45)).alloc (.cells #[.int .i64 a, u32 x, u32 y] 49)).alloc (.cells #[.slice none 0 0] 45)) := ⟨_, rfl⟩
  have hE : Ext w w1 := by rw [hw1]; exact (((Ext.refl w).alloc _).alloc _).alloc _
  obtain ⟨b, hbb⟩ : ∃ b, b = w.heap.size := ⟨_, rfl⟩
  have hsz : w1.heap.size = b + 3 := by rw [hw1, hbb]; simp
  have hV : Var w1 b v := by rw [hw1, hbb]; exact (Var.new w v 45).ext (((Ext.refl _).alloc _).alloc _)
  have hZ : Var w1 (b + 2) (.slice none 0 0) := by
    have := Var.new ((w.alloc (.cells #[v] 45)).alloc (.cells #[.int .i64 a, u32 x, u32 y] 49)) (.slice none 0 0) 45
    rw [World.size_alloc, World.size_alloc, ← hbb] at this
    rw [hw1]; exact this
  have hZo : w1.heap[b + 2]? = some (.cells #[.slice none 0 0] 45 (0, 0)) := by
    rw [hw1, hbb]
    show (((w.heap.push _).push _).push _)[w.heap.size + 2]? = _
    rw [Array.getElem?_push, if_pos (by simp)]
  have hA0 : w1.cell? ⟨b + 1, 0, none⟩ = some (.int .i64 a) := by rw [hw1, hbb]; exact ((Ext.refl _).alloc _).cell_eq (by simp)
  have hA1 : w1.cell? ⟨b + 1, 1, none⟩ = some (u32 x) := by rw [hw1, hbb]; exact ((Ext.refl _).alloc _).cell_eq (by simp)
  have hA2 : w1.cell? ⟨b + 1, 2, none⟩ = some (u32 y) := by rw [hw1, hbb]; exact ((Ext.refl _).alloc _).cell_eq (by simp)
  have ht1 := ht.ext hE
  have hr1 := hr.ext hE
  have hml : m.length ≤ 1000 := by have := hg.few; omega
  have hsl : s.length ≤ 1000 := by rw [hR.len]; exact hml
  obtain ⟨lx, hlx⟩ := hg.line x
  obtain ⟨ly, hly⟩ := hg.line y
  have hrb : r < b := by have := ht.map.lt; omega
  have htb : t < b := by have := World.block_lt_of_cell? _ _ ht.cell; simp at this; omega
  by_cases h0 : a = 0 ∨ a = 1 ∨ a = 2
  · rcases h0 with rfl | rfl | rfl
    all_goals
      simp
      rw [← hw1, ← hbb]
      refine FN.mono (rset_c (x := x) hr1 hR.asc (hR.lin hly) hsl) ?_
      rintro _ w2 ⟨v', rfl, hE2, hr2⟩
      obtain ⟨z1, z2, hz⟩ := hr2.isSlice
      subst hz
      obtain ⟨B, hB⟩ : ∃ B, B = w2.heap.size := ⟨_, rfl⟩
      obtain ⟨w3, hw3⟩ : ∃ w3, w3 = w2.alloc (.cells #[.slice z1 (if setE s ly x y = 0 then rset s x y else s).length z2] 45) := ⟨_, rfl⟩
      simp
      rw [← hw3, ← hB]
      have hE3 : Ext w2 w3 := by rw [hw3]; exact (Ext.refl _).alloc _
      have hV3 : Var w3 B (.slice z1 (if setE s ly x y = 0 then rset s x y else s).length z2) := by rw [hw3, hB]; exact Var.new _ _ _
      have hBg : b + 3 ≤ B := by have := hE2.size; omega
      refine WC_drawH 12 (fun g => g == r || g == b + 2) [6, 10] (fun k W => TreeAt W t r (if k = 0 then m else if setE m ly x y = 0 then mset m x y else m) ∧
        Var W (b + 2) (if k < 2 then .slice none 0 0 else .slice z1 (if setE s ly x y = 0 then rset s x y else s).length z2))
        [none, none, none, none, none, none, some (fun u _ => u = .int .i64 (setE m ly x y)), some (fun u _ => u = .int .i64 (setE m ly x y)), none, some (fun u _ => u = .bool true), some (fun _ _ => True), some (fun u _ => u = .bool true)]
        (Mod fun g => g = r ∨ g = b + 2) rfl (by kernel_rfl) (Mod.refl _) (fun _ _ _ => Mod.trans) (fun W h => h.agr fun i hi => by simpa using hi.2) ?_ ?_ ?_
      · have e := hE3.trans (Ext.drew w3)
        exact ⟨by simpa using (ht1.ext hE2).ext e, by simpa using (hZ.ext hE2).ext e⟩
      · intro A hA u p q h1 _
        simp only [List.mem_cons, Option.some.injEq, List.mem_nil_iff, or_false, reduceCtorEq, false_or] at hA
        rcases hA with rfl | rfl | rfl | rfl | rfl
        · exact h1
        · exact h1
        · exact h1
        · trivial
        · exact h1
      · intro W hW
        have hWE : Ext w3 W := hW ▸ Ext.drew w3
        have hV4 := hV3.ext hWE
        have hE4 := hE2.trans (hE3.trans hWE)
        have d1 := hE4.cell_eq hA1
        have d2 := hE4.cell_eq hA2
        have lk0 := ldOk_one (P := Try.prog) (t := 45) (by kernel_rfl) hV4.cell (fun g => g == r || g == b + 2) (by simp; omega)
        have lk1 := ldOk_one (P := Try.prog) (t := 23) (by kernel_rfl) d1 (fun g => g == r || g == b + 2) (by simp; omega)
        have lk2 := ldOk_one (P := Try.prog) (t := 23) (by kernel_rfl) d2 (fun g => g == r || g == b + 2) (by simp; omega)
        simp [hV4.cell, d1, d2, lk0, lk1, lk2]
        have em := hR.setE ly x y
        refine GH_some (by kernel_rfl) (fun W1 hK hp _ => ?_) fun u6 => ?_
        · simp at hp ⊢
          refine FN.mono (set_c (x := x) hp.1 hly hml) ?_
          rintro _ w4 ⟨rfl, ht4, hM⟩
          simp
          refine ⟨hM.weaken fun g hg => .inl hg, ht4, ?_⟩
          exact hp.2.mod hM (by omega)
        simp
        refine GH_some (by kernel_rfl) (fun W1 hK hp hf => ?_) fun u7 => ?_
        · have := fact hf 6 rfl (by kernel_rfl)
          subst this
          simp at hp ⊢
          refine num_c _ _ _ ?_
          simp
          exact ⟨Mod.refl _ _, hp⟩
        simp
        refine GH_free (by kernel_rfl) (fun k W1 hK hp hf => ?_) fun u9 => ?_
        · have := fact hf 7 rfl (by kernel_rfl)
          subst this
          simp [em] at hp ⊢
          exact ⟨Mod.refl _ _, hp⟩
        simp
        refine GH_some (by kernel_rfl) (fun W1 hK hp hf => ?_) fun u10 => ?_
        · simp at hp ⊢
          simp [hp.2.cell, hp.2.thaw]
          have hM : Mod (fun g => g = r ∨ g = b + 2) W1 (W1.setCell ⟨b + 2, 0, none⟩ (.slice z1 (if setE s ly x y = 0 then rset s x y else s).length z2)) := (Mod.refl _ _).setCell _ _ (.inl (.inr rfl))
          have hM' : Mod (· = b + 2) W1 (W1.setCell ⟨b + 2, 0, none⟩ (.slice z1 (if setE s ly x y = 0 then rset s x y else s).length z2)) := (Mod.refl _ _).setCell _ _ (.inl rfl)
          exact ⟨hM, hp.1.mod hM' (by omega) (by omega), hp.2.set _⟩
        simp
        refine GH_some (by kernel_rfl) (fun W1 hK hp hf => ?_) fun u11 => ?_
        · have := fact hf 9 rfl (by kernel_rfl)
          subst this
          simp at hp ⊢
          exact ⟨Mod.refl _ _, hp⟩
        simp
        refine GH_fin fun W1 hK hp hf => ?_
        have := fact' hf 11 rfl
        subst this
        simp at hp ⊢
        simp [hp.2.cell]
        have hWM : Mod (· = r) w W1 := by
          have h1 : Mod (· = r) w W := Ext.mod (hE.trans hE4)
          exact h1.trans' hK fun i hi => by rcases hi with h | h; exact .inl h; exact .inr (by omega)
        have hr4 := hr2.ext (hE3.trans hWE)
        have hne : 0 < (if setE s ly x y = 0 then rset s x y else s).length → ¬ (slB (.slice z1 (if setE s ly x y = 0 then rset s x y else s).length z2) = r ∨ slB (.slice z1 (if setE s ly x y = 0 then rset s x y else s).length z2) = b + 2) := by
          rintro h0 (h | h)
          · exact rws_ne_map hr4 (ht1.ext hE4).map h0 h
          · exact rws_ne_var hr4 (T := 45) (by rw [hE4.blk _ (by omega)]; exact hZo) h0 h
        refine ⟨_, hp.1, _, rws_mod hr4 hK hne, ?_, ?_, hWM⟩
        · rw [em]; split
          · exact hR.set x y
          · exact hR
        · split
          · rename_i h; exact hg.set hly h
          · exact hg
  have hn0 : (a == 0) = false := by simp; omega
  have hn1 : (a == 1) = false := by simp; omega
  have hn2 : (a == 2) = false := by simp; omega
  by_cases h3 : a = 3
  · subst h3
    simp
    rw [← hw1, ← hbb]
    refine FN.mono (rdrop_c hr1 hR.asc x hsl) ?_
    rintro _ w2 ⟨v', rfl, hE2, hr2⟩
    obtain ⟨z1, z2, hz⟩ := hr2.isSlice
    subst hz
    obtain ⟨B, hB⟩ : ∃ B, B = w2.heap.size := ⟨_, rfl⟩
    obtain ⟨w3, hw3⟩ : ∃ w3, w3 = w2.alloc (.cells #[.slice z1 (if dropE s x = 0 then rdel s x else s).length z2] 45) := ⟨_, rfl⟩
    have hE3 : Ext w2 w3 := by rw [hw3]; exact (Ext.refl _).alloc _
    have hV3 : Var w3 B (.slice z1 (if dropE s x = 0 then rdel s x else s).length z2) := by rw [hw3, hB]; exact Var.new _ _ _
    have hBg : b + 3 ≤ B := by have := hE2.size; omega
    have hE13 := hE2.trans hE3
    have d1 := hE13.cell_eq hA1
    have ht3 := ht1.ext hE13
    have hr3 := hr2.ext hE3
    have hZ3 := hZ.ext hE13
    simp [hE2.cell_eq hA1]
    rw [← hw3, ← hB]
    refine FN.mono (drop_c (x := x) ht3 hml) ?_
    rintro _ w4 ⟨rfl, ht4, hM⟩
    simp
    have hZ4 := hZ3.mod hM (by omega)
    have hV4 := hV3.mod hM (by omega)
    have hr4 := rws_mod hr3 hM fun h0 => rws_ne_map hr3 ht3.map h0
    have hne4 : 0 < (if dropE s x = 0 then rdel s x else s).length → slB (.slice z1 (if dropE s x = 0 then rdel s x else s).length z2) ≠ b + 2 := rws_ne_var hr3 (T := 45) (by rw [hE13.blk _ (by omega)]; exact hZo)
    refine WC_drawH 12 (fun g => g == b + 2) [10] (fun k W => Var W (b + 2) (if k = 0 then .slice none 0 0 else .slice z1 (if dropE s x = 0 then rdel s x else s).length z2))
      [none, none, none, none, none, none, some (fun u _ => u = .int .i64 (dropE m x)), none, some (fun u _ => u = .bool true), some (fun u _ => u = .bool true), some (fun _ _ => True), some (fun u _ => u = .bool true)]
      (Mod fun g => g = b + 2) rfl (by kernel_rfl) (Mod.refl _) (fun _ _ _ => Mod.trans) (fun W h => h.agr fun i hi => by simpa using hi.2) ?_ ?_ ?_
    · exact by simpa using hZ4.ext (Ext.drew w4)
    · intro A hA u p q h1 _
      simp only [List.mem_cons, Option.some.injEq, List.mem_nil_iff, or_false, reduceCtorEq, false_or] at hA
      rcases hA with rfl | rfl | rfl | rfl | rfl
      · exact h1
      · exact h1
      · exact h1
      · trivial
      · exact h1
    · intro W hW
      have hWE : Ext w4 W := hW ▸ Ext.drew w4
      have hV5 := hV4.ext hWE
      have lk0 := ldOk_one (P := Try.prog) (t := 45) (by kernel_rfl) hV5.cell (fun g => g == b + 2) (by simp; omega)
      have em := hR.dropE x
      have eg := hR.get x
      simp [hV5.cell, lk0, em, eg]
      refine GH_some (by kernel_rfl) (fun W1 hK hp hf => ?_) fun u6 => ?_
      · simp at hp ⊢
        refine num_c _ _ _ ?_
        simp
        exact ⟨Mod.refl _ _, hp⟩
      simp
      refine GH_free (by kernel_rfl) (fun k W1 hK hp hf => ?_) fun u8 => ?_
      · have := fact hf 6 rfl (by kernel_rfl)
        subst this
        simp at hp ⊢
        exact ⟨Mod.refl _ _, hp⟩
      simp
      refine GH_free (by kernel_rfl) (fun k W1 hK hp hf => ?_) fun u9 => ?_
      · have := fact hf 8 rfl (by kernel_rfl)
        subst this
        simp at hp ⊢
        exact ⟨Mod.refl _ _, hp⟩
      simp
      refine GH_some (by kernel_rfl) (fun W1 hK hp hf => ?_) fun u10 => ?_
      · simp at hp ⊢
        simp [hp.cell, hp.thaw]
        exact ⟨(Mod.refl _ _).setCell _ _ (.inl rfl), hp.set _⟩
      simp
      refine GH_some (by kernel_rfl) (fun W1 hK hp hf => ?_) fun u11 => ?_
      · have := fact hf 9 rfl (by kernel_rfl)
        subst this
        simp at hp ⊢
        exact ⟨Mod.refl _ _, hp⟩
      simp
      refine GH_fin fun W1 hK hp hf => ?_
      have := fact' hf 11 rfl
      subst this
      simp at hp ⊢
      simp [hp.cell]
      have hWM : Mod (· = r) w W1 := by
        have h1 : Mod (· = r) w W := (Ext.mod (hE.trans hE13)).trans (hM.trans (Ext.mod hWE))
        exact h1.trans' hK fun i hi => .inr (by omega)
      rw [em] at hr4 hne4
      refine ⟨_, (ht4.ext hWE).mod hK (by omega) (by omega), _, rws_mod (hr4.ext hWE) hK hne4, ?_, ?_, hWM⟩
      · split
        · rename_i h
          refine hR.del ?_
          unfold there
          rw [eg]
          unfold Go.Proofs.dropE at h
          by_cases hx0 : x = 0
          · rw [if_pos hx0] at h; omega
          · rw [if_neg hx0] at h
            cases hm : mget m x with
            | none => rw [hm] at h; simp at h
            | some _ => rfl
        · exact hR
      · split
        · exact hg.del x
        · exact hg
  have hn3 : (a == 3) = false := by simpa using h3
  have we : rwayE lx ly x y = wayE lx ly x y := way_eq hx hy
  obtain ⟨c0, p0, hv0⟩ := hr.isSlice
  have stay : ∀ W W1, Ext w W → Mod (fun g => g = b + 2) W W1 → TreeAt W1 t r m ∧ Rws W1 v s ∧ Mod (· = r) w W1 := fun W W1 h hK => by
    have e : Ext w W1 := (Mod.trans' (S := fun g => g = b + 2) (Ext.mod h) hK (fun i hi => .inl hi)).ext (fun i hi => by omega)
    exact ⟨ht.ext e, hr.ext e, Ext.mod e⟩
  by_cases h4 : a = 4
  · subst h4
    simp
    rw [← hw1, ← hbb]
    refine FN.mono (rway_c (x := x) (y := y) hr1 hR.asc (hR.lin hlx) (hR.lin hly) hsl) ?_
    rintro _ w2 ⟨u, rfl, hE2, hu⟩
    rw [we] at hu ⊢
    obtain ⟨xs, hxs⟩ : ∃ xs, xs = (if wayE lx ly x y = 0 then ((wayL lx ly).getD []) else []) := ⟨_, rfl⟩
    have hu' : Sl w2 1 u xs.length (xs.map u32) := by
      rw [hxs]
      split at hu
      · rename_i h; rw [if_pos h]; exact hu
      · rename_i h; rw [if_neg h, hu]; exact Sl.nil _ _ _
    have hxl : xs.length ≤ 1048576 := by
      rw [hxs]; split
      · have := wayL_len lx ly; have := hlx.bound; have := hly.bound; omega
      · simp
    simp [hE2.cell_eq hA1, hE2.cell_eq hA2]
    refine FN.mono (Way_c (x := x) (y := y) (ht1.ext hE2) hlx hly hml) ?_
    rintro _ w3 ⟨v3, rfl, hE3, hv3⟩
    rw [← hxs] at hv3
    simp
    have hE13 := hE2.trans hE3
    have hV3 := hV.ext hE13
    have hZ3 := hZ.ext hE13
    have hu3 := hu'.ext hE3
    refine WC_drawH 12 (fun g => g == b + 2) [10] (fun k W => Var W (b + 2) (if k = 0 then .slice none 0 0 else v))
      [none, none, none, some (fun u _ => u = .bool true), some (fun u _ => u = .bool true), some (fun u _ => u = .int .i64 (wayE lx ly x y)), some (fun u _ => u = .int .i64 (wayE lx ly x y)), some (fun u _ => u = .int .i64 (wayE lx ly x y)), some (fun u _ => u = .bool true), some (fun u _ => u = .bool true), some (fun _ _ => True), some (fun u _ => u = .bool true)]
      (Mod fun g => g = b + 2) rfl (by kernel_rfl) (Mod.refl _) (fun _ _ _ => Mod.trans) (fun W h => h.agr fun i hi => by simpa using hi.2) ?_ ?_ ?_
    · exact by simpa using hZ3.ext (Ext.drew w3)
    · intro A hA u p q h1 _
      simp only [List.mem_cons, Option.some.injEq, List.mem_nil_iff, or_false, reduceCtorEq, false_or] at hA
      rcases hA with rfl | rfl | rfl | rfl | rfl | rfl | rfl | rfl | rfl
      all_goals first | exact h1 | trivial
    · intro W hW
      have hWE : Ext w3 W := hW ▸ Ext.drew w3
      have hV5 := hV3.ext hWE
      have lk0 := ldOk_one (P := Try.prog) (t := 45) (by kernel_rfl) hV5.cell (fun g => g == b + 2) (by simp)
      simp [hV5.cell, lk0]
      refine GH_some (by kernel_rfl) (fun W1 hK hp hf => ?_) fun u3 => ?_
      · simp at hp ⊢
        have k1 : Sl W1 1 v3 xs.length (xs.map u32) := sl_mod (hv3.ext hWE) hK (sl_ne_var (hv3.ext hWE) (T := 45) (by rw [hWE.blk _ (by have := hE13.size; omega), hE13.blk _ (by omega)]; exact hZo))
        have k2 : Sl W1 1 u xs.length (xs.map u32) := sl_mod (hu3.ext hWE) hK (sl_ne_var (hu3.ext hWE) (T := 45) (by rw [hWE.blk _ (by have := hE13.size; omega), hE13.blk _ (by omega)]; exact hZo))
        refine FN.mono (same_c k1 k2 hxl) ?_
        rintro _ w4 ⟨rfl, hE4⟩
        simp
        exact ⟨Ext.mod hE4, hp.ext hE4⟩
      simp
      refine GH_some (by kernel_rfl) (fun W1 hK hp hf => ?_) fun u4 => ?_
      · have := fact hf 3 rfl (by kernel_rfl)
        subst this
        simp at hp ⊢
        exact ⟨Mod.refl _ _, hp⟩
      simp
      refine GH_some (by kernel_rfl) (fun W1 hK hp hf => ?_) fun u5 => ?_
      · have := fact hf 4 rfl (by kernel_rfl)
        subst this
        simp at hp ⊢
        exact ⟨Mod.refl _ _, hp⟩
      simp
      refine GH_some (by kernel_rfl) (fun W1 hK hp hf => ?_) fun u6 => ?_
      · have := fact hf 4 rfl (by kernel_rfl)
        subst this
        have := fact hf 5 rfl (by kernel_rfl)
        subst this
        simp at hp ⊢
        refine num_c _ _ _ ?_
        simp
        exact ⟨Mod.refl _ _, hp⟩
      simp
      refine GH_free (by kernel_rfl) (fun k W1 hK hp hf => ?_) fun u7 => ?_
      · have := fact hf 4 rfl (by kernel_rfl)
        subst this
        simp at hp ⊢
        exact ⟨Mod.refl _ _, hp⟩
      simp
      refine GH_free (by kernel_rfl) (fun k W1 hK hp hf => ?_) fun u8 => ?_
      · have := fact hf 4 rfl (by kernel_rfl)
        subst this
        have := fact hf 6 rfl (by kernel_rfl)
        subst this
        have := fact hf 7 rfl (by kernel_rfl)
        subst this
        simp at hp ⊢
        exact ⟨Mod.refl _ _, hp⟩
      simp
      refine GH_free (by kernel_rfl) (fun k W1 hK hp hf => ?_) fun u9 => ?_
      · have := fact hf 4 rfl (by kernel_rfl)
        subst this
        have := fact hf 8 rfl (by kernel_rfl)
        subst this
        simp at hp ⊢
        exact ⟨Mod.refl _ _, hp⟩
      simp
      refine GH_some (by kernel_rfl) (fun W1 hK hp hf => ?_) fun u10 => ?_
      · simp at hp ⊢
        simp [hp.cell, hp.thaw, hv0]
        exact ⟨(Mod.refl _ _).setCell _ _ (.inl rfl), hp.set _⟩
      simp
      refine GH_some (by kernel_rfl) (fun W1 hK hp hf => ?_) fun u11 => ?_
      · have := fact hf 9 rfl (by kernel_rfl)
        subst this
        simp at hp ⊢
        exact ⟨Mod.refl _ _, hp⟩
      simp
      refine GH_fin fun W1 hK hp hf => ?_
      have := fact' hf 11 rfl
      subst this
      simp at hp ⊢
      obtain ⟨a1, a2, a3⟩ := stay W W1 ((hE.trans hE13).trans hWE) hK
      simp [hp.cell, hv0]
      exact ⟨_, a1, _, hv0 ▸ a2, hR, hg, a3⟩
  have hn4 : (a == 4) = false := by simpa using h4
  have ne := next_eq hlx hly hx hy
  have nf := next_far hlx hly
  by_cases h5 : a = 5
  · subst h5
    simp
    rw [← hw1, ← hbb]
    refine FN.mono (rnext_c (x := x) (y := y) hr1 hR.asc (hR.lin hlx) (hR.lin hly) hsl (by rw [ne]; exact nf)) ?_
    rintro _ w2 ⟨rfl, hE2⟩
    rw [ne]
    simp [hE2.cell_eq hA1, hE2.cell_eq hA2]
    refine FN.mono (next_c (x := x) (y := y) (ht1.ext hE2) hlx hly hml nf) ?_
    rintro _ w3 ⟨rfl, hE3⟩
    simp
    have hE13 := hE2.trans hE3
    have hV3 := hV.ext hE13
    have hZ3 := hZ.ext hE13
    refine WC_drawH 17 (fun g => g == b + 2) [15] (fun k W => Var W (b + 2) (if k = 0 then .slice none 0 0 else v))
      [none, none, none, none, none, none, none, none, none, none, none, some (fun u _ => u = .int .i64 (nextE lx ly x y)), none, some (fun u _ => u = .bool true), some (fun u _ => u = .bool true), some (fun _ _ => True), some (fun u _ => u = .bool true)]
      (Mod fun g => g = b + 2) rfl (by kernel_rfl) (Mod.refl _) (fun _ _ _ => Mod.trans) (fun W h => h.agr fun i hi => by simpa using hi.2) ?_ ?_ ?_
    · exact by simpa using hZ3.ext (Ext.drew w3)
    · intro A hA u p q h1 _
      simp only [List.mem_cons, Option.some.injEq, List.mem_nil_iff, or_false, reduceCtorEq, false_or] at hA
      rcases hA with rfl | rfl | rfl | rfl | rfl
      all_goals first | exact h1 | trivial
    · intro W hW
      have hWE : Ext w3 W := hW ▸ Ext.drew w3
      have hV5 := hV3.ext hWE
      have eg := hR.get x
      have lk0 := ldOk_one (P := Try.prog) (t := 45) (by kernel_rfl) hV5.cell (fun g => g == b + 2) (by simp)
      simp [hV5.cell, lk0, eg]
      refine GH_some (by kernel_rfl) (fun W1 hK hp hf => ?_) fun u11 => ?_
      · simp at hp ⊢
        refine num_c _ _ _ ?_
        simp
        exact ⟨Mod.refl _ _, hp⟩
      simp
      refine GH_free (by kernel_rfl) (fun k W1 hK hp hf => ?_) fun u13 => ?_
      · have := fact hf 11 rfl (by kernel_rfl)
        subst this
        simp at hp ⊢
        exact ⟨Mod.refl _ _, hp⟩
      simp
      refine GH_free (by kernel_rfl) (fun k W1 hK hp hf => ?_) fun u14 => ?_
      · have := fact hf 13 rfl (by kernel_rfl)
        subst this
        simp at hp ⊢
        exact ⟨Mod.refl _ _, hp⟩
      simp
      refine GH_some (by kernel_rfl) (fun W1 hK hp hf => ?_) fun u15 => ?_
      · simp at hp ⊢
        simp [hp.cell, hp.thaw, hv0]
        exact ⟨(Mod.refl _ _).setCell _ _ (.inl rfl), hp.set _⟩
      simp
      refine GH_some (by kernel_rfl) (fun W1 hK hp hf => ?_) fun u16 => ?_
      · have := fact hf 14 rfl (by kernel_rfl)
        subst this
        simp at hp ⊢
        exact ⟨Mod.refl _ _, hp⟩
      simp
      refine GH_fin fun W1 hK hp hf => ?_
      have := fact' hf 16 rfl
      subst this
      simp at hp ⊢
      obtain ⟨a1, a2, a3⟩ := stay W W1 ((hE.trans hE13).trans hWE) hK
      simp [hp.cell, hv0]
      exact ⟨_, a1, _, hv0 ▸ a2, hR, hg, a3⟩
  have hn5 : (a == 5) = false := by simpa using h5
  simp [hn0, hn1, hn2, hn3, hn4, hn5]
  rw [← hw1, ← hbb]
  refine FN.mono (rparent_c hr1 hR.asc x hsl) ?_
  rintro _ w2 ⟨rfl, hE2⟩
  simp [hE2.cell_eq hA1]
  refine FN.mono (parent_c (ht1.ext hE2) x) ?_
  rintro _ _ ⟨rfl, hww⟩
  subst hww
  rename_i w3
  simp
  have hV3 := hV.ext hE2
  have hZ3 := hZ.ext hE2
  have hA3 := hE2.cell_eq hA1
  refine WC_drawH 25 (fun g => g == b + 2) [23] (fun k W => Var W (b + 2) (if k = 0 then .slice none 0 0 else v))
    [none, none, none, none, none, none, none, none, none, none, none, none, none, some (fun u _ => u = .int .i64 ((lx.length - 1 : Nat) : Int)), none, none, none, some (fun u _ => ∃ c p, u = .slice c lx.length p), some (fun u _ => u = .int .i64 lx.length), some (fun u _ => u = .int .i64 (lx.length - 1)), some (fun u _ => u = .int .i64 ((lx.length - 1 : Nat) : Int)), some (fun u _ => u = .bool true), some (fun u _ => u = .bool true), some (fun _ _ => True), some (fun u _ => u = .bool true)]
    (Mod fun g => g = b + 2) rfl (by kernel_rfl) (Mod.refl _) (fun _ _ _ => Mod.trans) (fun W h => h.agr fun i hi => by simpa using hi.2) ?_ ?_ ?_
  · exact by simpa using hZ3.ext (Ext.drew w3)
  · intro A hA u p q h1 _
    simp only [List.mem_cons, Option.some.injEq, List.mem_nil_iff, or_false, reduceCtorEq, false_or] at hA
    rcases hA with rfl | rfl | rfl | rfl | rfl | rfl | rfl | rfl | rfl
    all_goals first | exact h1 | trivial
  · intro W hW
    have hWE : Ext w3 W := hW ▸ Ext.drew w3
    have hV5 := hV3.ext hWE
    have hA5 := hWE.cell_eq hA3
    have eg := hR.get x
    have lk0 := ldOk_one (P := Try.prog) (t := 45) (by kernel_rfl) hV5.cell (fun g => g == b + 2) (by simp)
    have lk1 := ldOk_one (P := Try.prog) (t := 23) (by kernel_rfl) hA5 (fun g => g == b + 2) (by simp)
    have hlb := hlx.bound
    simp [hV5.cell, lk0, eg, hA5, lk1]
    refine GH_some (by kernel_rfl) (fun W1 hK hp hf => ?_) fun u13 => ?_
    · simp at hp ⊢
      obtain ⟨a1, a2, a3⟩ := stay W W1 ((hE.trans hE2).trans hWE) hK
      refine FN.mono (depth_c (x := x) a1 hlx hml) ?_
      rintro _ w4 ⟨rfl, hE4⟩
      simp
      exact ⟨Ext.mod hE4, hp.ext hE4⟩
    simp
    refine GH_some (by kernel_rfl) (fun W1 hK hp hf => ?_) fun u17 => ?_
    · simp at hp ⊢
      obtain ⟨a1, a2, a3⟩ := stay W W1 ((hE.trans hE2).trans hWE) hK
      refine FN.mono (rline_c (x := x) a2 hR.asc (hR.lin hlx) hsl) ?_
      rintro _ w4 ⟨u, rfl, hE4, hu⟩
      simp
      exact ⟨Ext.mod hE4, hu.isSlice, hp.ext hE4⟩
    simp
    refine GH_free (by kernel_rfl) (fun k W1 hK hp hf => ?_) fun u18 => ?_
    · obtain ⟨c, p, rfl⟩ := fact hf 17 rfl (by kernel_rfl)
      simp at hp ⊢
      exact ⟨Mod.refl _ _, hp⟩
    simp
    refine GH_free (by kernel_rfl) (fun k W1 hK hp hf => ?_) fun u19 => ?_
    · have := fact hf 18 rfl (by kernel_rfl)
      subst this
      have wr : IntKind.i64.wrap ((lx.length : Int) - 1) = (lx.length : Int) - 1 := wrap64 _ (by omega) (by omega)
      simp [wr] at hp ⊢
      exact ⟨Mod.refl _ _, hp⟩
    simp
    refine GH_free (by kernel_rfl) (fun k W1 hK hp hf => ?_) fun u20 => ?_
    · have := fact hf 19 rfl (by kernel_rfl)
      subst this
      have e : max 0 ((lx.length : Int) - 1) = ((lx.length - 1 : Nat) : Int) := by omega
      simp at hp ⊢
      exact ⟨Mod.refl _ _, by omega, hp⟩
    simp
    refine GH_free (by kernel_rfl) (fun k W1 hK hp hf => ?_) fun u21 => ?_
    · have := fact hf 13 rfl (by kernel_rfl)
      subst this
      have := fact hf 20 rfl (by kernel_rfl)
      subst this
      simp at hp ⊢
      exact ⟨Mod.refl _ _, hp⟩
    simp
    refine GH_free (by kernel_rfl) (fun k W1 hK hp hf => ?_) fun u22 => ?_
    · have := fact hf 21 rfl (by kernel_rfl)
      subst this
      simp at hp ⊢
      exact ⟨Mod.refl _ _, hp⟩
    simp
    refine GH_some (by kernel_rfl) (fun W1 hK hp hf => ?_) fun u23 => ?_
    · simp at hp ⊢
      simp [hp.cell, hp.thaw, hv0]
      exact ⟨(Mod.refl _ _).setCell _ _ (.inl rfl), hp.set _⟩
    simp
    refine GH_some (by kernel_rfl) (fun W1 hK hp hf => ?_) fun u24 => ?_
    · have := fact hf 22 rfl (by kernel_rfl)
      subst this
      simp at hp ⊢
      exact ⟨Mod.refl _ _, hp⟩
    simp
    refine GH_fin fun W1 hK hp hf => ?_
    have := fact' hf 24 rfl
    subst this
    simp at hp ⊢
    obtain ⟨a1, a2, a3⟩ := stay W W1 ((hE.trans hE2).trans hWE) hK
    simp [hp.cell, hv0]
    exact ⟨_, a1, _, hv0 ▸ a2, hR, hg, a3⟩
end Go.Proofs
