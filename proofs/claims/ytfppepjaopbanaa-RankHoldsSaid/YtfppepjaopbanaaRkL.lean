/-
  Contracts of the functions that the law reaches, step by step.
-/
import Derived.Test.YtfppepjaopbanaaRkK
namespace Go.Proofs
open Pk
set_option maxRecDepth 10000
def sumBy (g : Wt → Int) (l : List Wt) : Int := (l.map g).sum
theorem sumBy_cons (g : Wt → Int) (x : Wt) (l : List Wt) : sumBy g (x :: l) = g x + sumBy g l := by simp [sumBy]
theorem sumBy_app (g : Wt → Int) (l l' : List Wt) : sumBy g (l ++ l') = sumBy g l + sumBy g l' := by
  induction l with
  | nil => simp [sumBy]
  | cons x l ih => rw [List.cons_append, sumBy_cons, sumBy_cons, ih]; omega
def sz (x : Wt) : Int := x.2.2.2
def szN (nd : Int) (x : Wt) : Int := if x.2.1 = nd then x.2.2.2 else 0
theorem nodes1_c (x : Wt) (w : World) : FN Try.prog 50 [wtV x] w fun e w' => e = .returned (i64 (sz x)) ∧ Ext w w' := by
  refine FN_enter Try.func50 rfl rfl (by kernel_rfl) ?_
  simp [sz]
  exact (Ext.refl w).alloc _
def sized (l : List Wt) : Prop := ∀ x ∈ l, 1 ≤ x.2.2.2 ∧ x.2.2.2 ≤ 65536
theorem sum_bound {l : List Wt} (h : sized l) : 0 ≤ sumBy sz l ∧ sumBy sz l ≤ 65536 * l.length := by
  induction l with
  | nil => simp [sumBy]
  | cons x l ih =>
    have h1 := h x (by simp)
    have h2 := ih fun y hy => h y (by simp [hy])
    rw [sumBy_cons, List.length_cons]
    unfold sz at *
    omega
theorem sum_c {w : World} {v : Value} {l : List Wt} (h : WSl w v l) (hb : l.length ≤ 300000) (hs : sized l) : FN Try.prog 49 [v, .func (.func 50) #[] #[]] w fun e w' => e = .returned (i64 (sumBy sz l)) ∧ Ext w w' := by
  refine FN_enter Try.func49 rfl rfl (by kernel_rfl) ?_
  have hlen := fun ty W => h.isLen (P := Try.prog) (t := 22) (by simp) ty W
  simp [hlen]
  refine WC_loop (fun k ρ ds w' => ∃ i : Nat, k = l.length - i ∧ i ≤ l.length ∧ ρ 1 = .func (.func 50) #[] #[] ∧ ρ 4 = i64 (sumBy sz (l.take i)) ∧ ρ 7 = v ∧ ρ 8 = i64 l.length ∧ ρ 9 = i64 i ∧ ds = [] ∧ Ext w w') l.length ⟨0, by simp, by simp, by simp, by simp [sumBy], by simp, by simp, by simp, rfl, Ext.refl _⟩ ?_
  rintro k ρ ds w1 ⟨i, rfl, hi, e1, e4, e7, e8, e9, rfl, hE⟩
  by_cases hlt : i < l.length
  · have hq := List.getElem?_eq_getElem hlt
    have r := (WSl.row h hq).ext hE
    have ix := WSl.index h i hlt w1
    simp [e1, e4, e7, e8, e9, hlt, ix, r.c0, r.c1, r.c2, r.c3, r.c4, r.c5, r.c6]
    have hE4 := hE.alloc (.cells #[u32 l[i].1.1, u32 l[i].1.2.1, u64 l[i].1.2.2.1, u32 l[i].1.2.2.2, u32 l[i].2.1, i64 l[i].2.2.1, i64 l[i].2.2.2] 30)
    refine FN.mono (nodes1_c l[i] _) ?_
    rintro _ w2 ⟨rfl, hE2⟩
    have htk : l.take (i + 1) = l.take i ++ [l[i]] := by rw [List.take_add_one, hq]; rfl
    have hsum : sumBy sz (l.take (i + 1)) = sumBy sz (l.take i) + sz l[i] := by rw [htk, sumBy_app]; simp [sumBy]
    have hb1 := sum_bound (l := l.take (i + 1)) fun x hx => hs x (List.mem_of_mem_take hx)
    have hl1 : (l.take (i + 1)).length ≤ 300000 := by simp; omega
    have hw : IntKind.i64.wrap (sumBy sz (l.take i) + sz l[i]) = sumBy sz (l.take (i + 1)) := by rw [hsum]; exact wrap64 _ (by omega) (by omega)
    simp [e1, e7, e8, e9, hw]
    exact ⟨l.length - (i + 1), by omega, i + 1, rfl, by omega, rfl, by rw [wrap64 _ (by omega) (by omega)]; rfl, hE4.trans hE2⟩
  · have : i = l.length := by omega
    subst this
    simp [e4, e8, e9]
    exact hE
/-! ### What the queues come to -/
theorem perm_sum {l l' : List Int} (h : l.Perm l') : l.sum = l'.sum := by
  induction h with
  | nil => rfl
  | cons x _ ih => rw [List.sum_cons, List.sum_cons, ih]
  | swap x y l => simp only [List.sum_cons]; omega
  | trans _ _ h1 h2 => exact h1.trans h2
def hasE (E : MQ) (nd : Int) : Bool := E.any fun e => decide (e.1.1 = nd)
def valE (E : MQ) (nd : Int) : Int := (E.map fun e => sumBy (szN nd) e.2.2).sum
def sumE (E : MQ) (nd : Int) : Option Int := if hasE E nd then some (valE E nd) else none
theorem valE_snoc (E : MQ) (p : Qu × (Value × List Wt)) (nd : Int) : valE (E ++ [p]) nd = valE E nd + sumBy (szN nd) p.2.2 := by
  unfold valE
  rw [List.map_append, List.sum_append]
  simp
theorem szN_all {l : List Wt} {nd : Int} (h : ∀ x ∈ l, x.2.1 = nd) : sumBy (szN nd) l = sumBy sz l := by
  unfold sumBy
  congr 1
  apply List.map_congr_left
  intro x hx
  unfold szN sz
  rw [if_pos (h x hx)]
theorem szN_no {l : List Wt} {nd : Int} (h : ∀ x ∈ l, x.2.1 ≠ nd) : sumBy (szN nd) l = 0 := by
  induction l with
  | nil => rfl
  | cons x l ih =>
    rw [sumBy_cons, ih fun y hy => h y (by simp [hy])]
    unfold szN
    rw [if_neg (h x (by simp))]; rfl
theorem sumE_snoc (E : MQ) (q : Qu) (v : Value) (r : List Wt) (hr : ∀ x ∈ r, x.2.1 = q.1) (nd : Int) (h0 : hasE E nd = false → valE E nd = 0) :
    sumE (E ++ [(q, (v, r))]) nd = if nd = q.1 then some ((sumE E nd).getD 0 + sumBy sz r) else sumE E nd := by
  unfold sumE
  rw [valE_snoc]
  by_cases h : nd = q.1
  · subst h
    have : hasE (E ++ [(q, (v, r))]) q.1 = true := by simp [hasE]
    rw [if_pos rfl, if_pos this, szN_all hr]
    cases hh : hasE E q.1 with
    | true => simp
    | false => simp [h0 hh]
  · have : hasE (E ++ [(q, (v, r))]) nd = hasE E nd := by
      unfold hasE
      rw [List.any_append]
      have : ¬ (q.1 = nd) := fun e => h e.symm
      simp [this]
    rw [if_neg h, this, szN_no fun x hx e => h (e.symm.trans (hr x hx)).symm.symm]
    simp
theorem valE_none {w : World} {l Rq Rw : Nat} {M : MQ} {N : MN} {s : List Wt} {most : Int} (h : LineAt w l Rq Rw M N s most) (E : MQ) (hE : ∀ e ∈ E, e ∈ M) (nd : Int) (h0 : hasE E nd = false) : valE E nd = 0 := by
  induction E with
  | nil => rfl
  | cons e E ih =>
    unfold hasE at h0
    simp only [List.any_cons, Bool.or_eq_false_iff, decide_eq_false_iff_not] at h0
    have := ih (fun x hx => hE x (by simp [hx])) h0.2
    unfold valE at this ⊢
    rw [List.map_cons, List.sum_cons, this, szN_no]
    · rfl
    · intro x hx hxn
      have hq := h.hasQ (v := e.2.1) (r := e.2.2) ((kget_iff h.mq.nodup).2 (hE e (by simp)))
      rw [hq.1] at hx
      have := (List.mem_filter.1 hx).2
      simp only [decide_eq_true_eq] at this
      exact h0.1 (by rw [← this]; exact hxn)
/-- The sum over the keys of what each has. -/
theorem sum_keys (g : Wt → Int) : ∀ (s : List Wt) (K : List Qu), K.Nodup → (∀ y ∈ s, quOf y ∈ K) → (K.map fun q => sumBy g (qof s q)).sum = sumBy g s
  | [], K, _, _ => by
    induction K with
    | nil => rfl
    | cons q K ih => rw [List.map_cons, List.sum_cons, ih (List.nodup_cons.1 ‹_›).2 (fun y hy => by cases hy)]; rfl
  | y :: s, K, hn, hc => by
    have ih := sum_keys g s K hn fun z hz => hc z (by simp [hz])
    have e : ∀ q, sumBy g (qof (y :: s) q) = (if q = quOf y then g y else 0) + sumBy g (qof s q) := by
      intro q
      unfold qof
      rw [List.filter_cons]
      by_cases h : quOf y = q
      · subst h
        simp [sumBy_cons]
      · have h' : ¬ q = quOf y := fun e => h e.symm
        simp [h, h']
    have e2 : ∀ K : List Qu, (K.map fun q => sumBy g (qof (y :: s) q)).sum = (K.map fun q => if q = quOf y then g y else 0).sum + (K.map fun q => sumBy g (qof s q)).sum := by
      intro K
      induction K with
      | nil => rfl
      | cons q K ih2 => rw [List.map_cons, List.map_cons, List.map_cons, List.sum_cons, List.sum_cons, List.sum_cons, ih2, e]; omega
    have e3 : ∀ K : List Qu, K.Nodup → (K.map fun q => if q = quOf y then g y else 0).sum = if quOf y ∈ K then g y else 0 := by
      intro K
      induction K with
      | nil => simp
      | cons q K ih2 =>
        intro hn
        obtain ⟨h1, h2⟩ := List.nodup_cons.1 hn
        rw [List.map_cons, List.sum_cons, ih2 h2]
        by_cases h : q = quOf y
        · subst h; simp [h1]
        · have h' : ¬ quOf y = q := fun e => h e.symm
          simp [h, h']
    rw [e2, e3 K hn, if_pos (hc y (by simp)), ih, sumBy_cons]
def sumS (s : List Wt) (nd : Int) : Option Int := if (s.any fun y => decide (y.2.1 = nd)) then some (sumBy (szN nd) s) else none
theorem sumE_all {w : World} {l Rq Rw : Nat} {M : MQ} {N : MN} {s : List Wt} {most : Int} (h : LineAt w l Rq Rw M N s most) {idxs : List Nat} (hp : idxs.Perm (List.range M.length)) (nd : Int) : sumE (seenOf M idxs) nd = sumS s nd := by
  have hpm := seenOf_all hp
  have h1 : hasE (seenOf M idxs) nd = (s.any fun y => decide (y.2.1 = nd)) := by
    rw [Bool.eq_iff_iff]
    unfold hasE
    simp only [List.any_eq_true, decide_eq_true_eq]
    constructor
    · rintro ⟨e, he, rfl⟩
      have hm := hpm.mem_iff.1 he
      have hq := h.hasQ (v := e.2.1) (r := e.2.2) ((kget_iff h.mq.nodup).2 hm)
      obtain ⟨y, hy⟩ := List.exists_mem_of_ne_nil _ hq.2
      obtain ⟨a, b⟩ := List.mem_filter.1 hy
      simp only [decide_eq_true_eq] at b
      exact ⟨y, a, by rw [← b]; rfl⟩
    · rintro ⟨y, hy, rfl⟩
      have hq : qof s (quOf y) ≠ [] := List.ne_nil_of_mem (List.mem_filter.2 ⟨hy, by simp⟩)
      obtain ⟨v, hv⟩ := h.get hq
      exact ⟨_, hpm.mem_iff.2 (kget_mem hv), rfl⟩
  have h2 : valE (seenOf M idxs) nd = sumBy (szN nd) s := by
    unfold valE
    rw [perm_sum (hpm.map fun e => sumBy (szN nd) e.2.2)]
    rw [← sum_keys (szN nd) s (M.map (·.1)) h.mq.nodup fun y hy => (h.keys _).2 (List.ne_nil_of_mem (List.mem_filter.2 ⟨hy, by simp⟩)), List.map_map]
    congr 1
    apply List.map_congr_left
    intro e he
    simp only [Function.comp]
    rw [(h.hasQ (v := e.2.1) (r := e.2.2) ((kget_iff h.mq.nodup).2 he)).1]
  unfold sumE sumS
  rw [h1, h2]
theorem kU32 : KeyEq Try.prog 23 (Value.int .u32) := keyEq_int (by simp)
theorem tms : Try.prog.underlying 103 = some (.map 23 3) := by simp
theorem zI (w : World) : (zeroValue 3).run Try.prog w = .ok (.int .i64 0) w := by simp
abbrev SM (w : World) (r : Nat) (m : List (Int × Int)) := MapAt (Value.int .u32) (Value.int .i64) w r m
def sumOk (E : MQ) (n : Nat) : Prop := ∀ nd, 0 ≤ (sumE E nd).getD 0 ∧ (sumE E nd).getD 0 ≤ 16711680 * n
theorem LineAt.len_le {w : World} {l Rq Rw : Nat} {M : MQ} {N : MN} {s : List Wt} {most : Int} (h : LineAt w l Rq Rw M N s most) : M.length ≤ s.length := by
  have := nodup_sub_len (M.map (·.1)) (s.map quOf) h.mq.nodup fun q hq => by
    obtain ⟨y, hy⟩ := List.exists_mem_of_ne_nil _ ((h.keys q).1 hq)
    obtain ⟨a, b⟩ := List.mem_filter.1 hy
    simp only [decide_eq_true_eq] at b
    exact List.mem_map.2 ⟨y, a, b⟩
  simpa using this
set_option maxHeartbeats 1000000 in
theorem nodes_c {w : World} {l Rq Rw : Nat} {M : MQ} {N : MN} {s : List Wt} {most : Int} (h : LineAt w l Rq Rw M N s most) (hbd : s.length ≤ 255) (hsz : sized s) :
    FN Try.prog 19 [ptr l] w fun e w' => ∃ b r m, e = .returned (.func (.func 51) #[] #[ptr b]) ∧ Var w' b (.map (some r)) ∧ SM w' r m ∧ (∀ nd, mget m nd = sumS s nd) ∧ Ext w w' ∧ w.heap.size ≤ b ∧ w.heap.size ≤ r := by
  refine FN_enter Try.func19 rfl rfl (by kernel_rfl) ?_
  simp
  have hE1 : Ext w ((w.alloc (.map #[] 0)).alloc (.cells #[.map (some w.heap.size)] 103)) := ((Ext.refl w).alloc _).alloc _
  have m1 : SM ((w.alloc (.map #[] 0)).alloc (.cells #[.map (some w.heap.size)] 103)) w.heap.size [] := (MapAt.alloc0 _ _ w).ext ((Ext.refl _).alloc _)
  have v1 : Var ((w.alloc (.map #[] 0)).alloc (.cells #[.map (some w.heap.size)] 103)) (w.heap.size + 1) (.map (some w.heap.size)) := by
    have := Var.new (w.alloc (.map #[] 0)) (.map (some w.heap.size)) 103
    simpa using this
  have z1 : ((w.alloc (.map #[] 0)).alloc (.cells #[.map (some w.heap.size)] 103)).heap.size = w.heap.size + 1 + 1 := by simp
  generalize ((w.alloc (.map #[] 0)).alloc (.cells #[.map (some w.heap.size)] 103)) = w1 at *
  have h1 := h.ext hE1
  refine FN.mono (none_c h1) ?_
  rintro _ w2 ⟨rfl, hw⟩
  rw [hw]
  obtain ⟨o, hr, hi⟩ := h1.mq.range (P := Try.prog) tmq
  simp [h1.c1, hr]
  have hE2 := (Ext.refl w1).alloc o
  have hlt := h.lt
  have hlr := hlt Rq (.inr (.inl rfl))
  obtain ⟨ib, hib⟩ : ∃ ib, ib = w1.heap.size := ⟨_, rfl⟩
  rw [← hib] at hi ⊢
  refine WC_loop (fun k ρ ds w' => ∃ (idxs : List Nat) (m : List (Int × Int)), k + idxs.length = M.length ∧ ρ 3 = ptr (w.heap.size + 1) ∧ ρ 14 = ptr ib ∧ ds = [] ∧ MIter quV ewQ w' ib Rq M idxs ∧ SM w' w.heap.size m ∧ (∀ nd, mget m nd = sumE (seenOf M idxs) nd) ∧ Mod (fun k => k = w.heap.size ∨ k = ib) w1 w' ∧ sumOk (seenOf M idxs) idxs.length) M.length
    ⟨[], [], by simp, by simp, by simp, rfl, hi, m1.ext hE2, fun nd => by simp [kget_nil, seenOf, sumE, hasE], hE2.mod, fun nd => by simp [seenOf, sumE, hasE]⟩ ?_
  rintro k ρ ds w2 ⟨idxs, m, hk, e3, e14, rfl, hI, hm, hmv, hM, hok⟩
  have nn : ∀ k, k ≠ w.heap.size → k ≠ ib → ¬ (k = w.heap.size ∨ k = ib) := fun k a b e => by rcases e with e | e; exact a e; exact b e
  have hEw : Ext w w2 := ((hE1.mod (S := fun k => w.heap.size ≤ k)).trans (hM.weaken fun k hk => by rcases hk with rfl | rfl <;> omega)).ext fun _ h => h
  rcases hI.next (P := Try.prog) 0 with ⟨hp, hrun⟩ | ⟨i, p, w3, hpi, hni, hrun, hI3, hM3, hent, hs3⟩
  · simp [e3, e14, hrun]
    exact ⟨_, v1.mod hM (nn _ (by omega) (by omega)), m, hm, fun nd => by rw [hmv, sumE_all h hp], hEw, Nat.le_refl _⟩
  · obtain ⟨q, v, r⟩ := p
    have hpm := List.mem_of_getElem? hpi
    have hq := h.hasQ (v := v) (r := r) ((kget_iff h.mq.nodup).2 hpm)
    have hrn : ∀ x ∈ r, x.2.1 = q.1 := fun x hx => by
      rw [hq.1] at hx
      have := (List.mem_filter.1 hx).2
      simp only [decide_eq_true_eq] at this
      rw [← this]; rfl
    have hrs : sized r := fun x hx => hsz x (by rw [hq.1] at hx; exact (List.mem_filter.1 hx).1)
    have hrl : r.length ≤ s.length := by rw [hq.1]; exact qof_len s q
    simp [ewQ] at hrun hent
    simp [e14, hrun, hent]
    have hE4 := (Ext.refl w3).alloc (.cells #[u32 q.1, i64 q.2] 80)
    have q0 : (w3.alloc (.cells #[u32 q.1, i64 q.2] 80)).cell? ⟨w3.heap.size, 0, none⟩ = some (u32 q.1) := by simp
    have hM2 := hM.trans (hM3.weaken fun k hk => .inr hk)
    have z4 : (w3.alloc (.cells #[u32 q.1, i64 q.2] 80)).heap.size = w3.heap.size + 1 := by simp
    generalize (w3.alloc (.cells #[u32 q.1, i64 q.2] 80)) = w4 at *
    have hne : w.heap.size ≠ ib := by omega
    have hm4 := (hm.mod hM3 hne).ext hE4
    have hM4 := hM2.trans hE4.mod
    have hf := seen_fresh h.mq.nodup hpi hni
    have hss := fun nd => sumE_snoc (seenOf M idxs) q v r hrn nd (valE_none h _ (fun e he => seenOf_mem he) nd)
    have hbs := sum_bound hrs
    have hbE : 0 ≤ (sumE (seenOf M idxs) q.1).getD 0 ∧ (sumE (seenOf M idxs) q.1).getD 0 ≤ 10000000000  := by
      have h1 := hok q.1
      have h2 := VIter.bound (v := .map (some Rq)) (.inl ⟨Rq, rfl, hI⟩)
      have h3 := h.len_le
      omega
    have hok' : sumOk (seenOf M (idxs ++ [i])) (idxs ++ [i]).length := fun nd => by
      have h1 := hok nd
      rw [seenOf_snoc hpi, hss, List.length_append, List.length_singleton]
      by_cases e : nd = q.1
      · rw [if_pos e, Option.getD_some]; omega
      · rw [if_neg e]; omega
    have step : ∀ (W : World), Ext w4 W → ∃ W', (Instr.mapUpdate 103 (.map (some w.heap.size)) (.int .u32 q.1) (.int .i64 (IntKind.i64.wrap (((mget m q.1).getD 0) + sumBy sz r)))).run Try.prog W = .ok () W' ∧
        (∃ m', SM W' w.heap.size m' ∧ (∀ nd, mget m' nd = sumE (seenOf M (idxs ++ [i])) nd) ∧ MIter quV ewQ W' ib Rq M (idxs ++ [i]) ∧ Mod (fun k => k = w.heap.size ∨ k = ib) w1 W') := by
      intro W hEW
      have hwr : IntKind.i64.wrap (((mget m q.1).getD 0) + sumBy sz r) = ((mget m q.1).getD 0) + sumBy sz r := by rw [hmv]; exact wrap64 _ (by omega) (by omega)
      rw [hwr]
      obtain ⟨W', hr', hm', hM', hs'⟩ := (hm4.ext hEW).update (P := Try.prog) kU32 tms q.1 (((mget m q.1).getD 0) + sumBy sz r)
      refine ⟨W', hr', _, hm', fun nd => ?_, ((hI3.mod (S := fun _ => False) (hE4.trans hEW).mod id id)).mod hM' (by omega) (by omega), hM4.trans (hEW.mod.trans (hM'.weaken fun k hk => .inl hk))⟩
      rw [kget_mset, seenOf_snoc hpi, hss, hmv, hmv]
      by_cases e : nd = q.1
      · rw [if_pos e, if_pos e, e]
      · rw [if_neg e, if_neg e]
    have gd : ∀ o : Option Int, (o.map (Value.int .i64)).getD (.int .i64 0) = i64 (o.getD 0) := fun o => by cases o <;> rfl
    have fin : ∀ (W : World), (∃ m', SM W w.heap.size m' ∧ (∀ nd, mget m' nd = sumE (seenOf M (idxs ++ [i])) nd) ∧ MIter quV ewQ W ib Rq M (idxs ++ [i]) ∧ Mod (fun k => k = w.heap.size ∨ k = ib) w1 W) → ∃ m', m' < k ∧ ∃ idxs, m' + idxs.length = M.length ∧ MIter quV ewQ W ib Rq M idxs ∧ ∃ x, SM W w.heap.size x ∧ (∀ nd, mget x nd = sumE (seenOf M idxs) nd) ∧ Mod (fun k => k = w.heap.size ∨ k = ib) w1 W ∧ sumOk (seenOf M idxs) idxs.length := by
      rintro W ⟨m', a1, a2, a3, a4⟩
      have hbd := VIter.bound (v := .map (some Rq)) (.inl ⟨Rq, rfl, a3⟩)
      simp at hbd
      exact ⟨k - 1, by omega, idxs ++ [i], by simp; omega, a3, m', a1, a2, a4, hok'⟩
    refine WC_drawC 6 (.F 0 <| .F 1 <| .F 2 <| .F 4 <| .E 3 (.C 5 <| .Z) (.E 5 (.C 3 <| .Z) .Z)) (fun _ => false) rfl (by kernel_rfl) fun W5 hW5 => ?_
    have hWE5 : Ext w4 W5 := hW5 ▸ Ext.drew w4
    have hv5 := (v1.mod hM4 (nn _ (by omega) (by omega))).ext hWE5
    have hrow5 := ((h.ext hEw).mod hM3 (fun k hk e => by have := hlt k hk; omega)).row _ hpm
    have hrow5' := own_ext hrow5 (hE4.trans hWE5)
    simp [e3, hv5.cell, hWE5.cell_eq q0]
    refine RT_alt ?_ ?_
    · have hlk := (hm4.ext hWE5).lookup (P := Try.prog) kU32 tms (zI _) q.1 false
      rw [gd] at hlk
      simp at hlk
      simp [hlk]
      refine KR_same ?_
      simp
      refine FN.mono (sum_c (sl_of_own hrow5') (by simp only; omega) hrs) ?_
      rintro _ W6 ⟨rfl, hE6⟩
      simp
      refine KR_ext hE6 ?_
      obtain ⟨W7, hr7, hfin⟩ := step W6 (hWE5.trans hE6)
      simp [e3, e14, hr7]
      exact fin W7 hfin
    · simp
      refine FN.mono (sum_c (sl_of_own hrow5') (by simp only; omega) hrs) ?_
      rintro _ W6 ⟨rfl, hE6⟩
      have hlk := (hm4.ext (hWE5.trans hE6)).lookup (P := Try.prog) kU32 tms (zI _) q.1 false
      rw [gd] at hlk
      simp at hlk
      simp
      refine KR_ext hE6 ?_
      simp [hlk]
      refine KR_same ?_
      obtain ⟨W7, hr7, hfin⟩ := step W6 (hWE5.trans hE6)
      simp [e3, e14, hr7]
      exact fin W7 hfin
end Go.Proofs
