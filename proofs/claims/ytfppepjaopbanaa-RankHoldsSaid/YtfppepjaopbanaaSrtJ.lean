/-
  Contracts of the functions that the law reaches, step by step.
-/
import Derived.Test.YtfppepjaopbanaaSrtI
namespace Go.Proofs
open Pk
set_option maxRecDepth 10000
/- what lies between the pivot's choice and the partition; d1: the row, hP1: shuffled -/
set_option maxHeartbeats 8000000 in
theorem Suint32.pdq_c {v : Value} : ∀ (N a b : Nat) (d : Array Int) (w : World) (z : Int), b - a < N → a ≤ b → b ≤ d.size → d.size ≤ 255 → Suint32.A w v d → Sort.Below Sort.ltInt a b d →
    FN Try.prog 72 [v, .int .i64 a, .int .i64 b, .int .i64 z] w fun e w' => (∃ u, e = .returned u) ∧ ∃ d', Sort.PermIn a b d d' ∧ Sort.SortedIn Sort.ltInt a b d' ∧ Suint32.A w' v d' ∧ Mod (Sv v) w w' := by
  intro N
  induction N with
  | zero => intro a b d w z h; omega
  | succ N ih =>
  intro a b d w z hN hab hb hn hA hB
  refine FN_enter Try.func72 rfl rfl (by kernel_rfl) ?_
  simp
  refine WC_loop (fun k ρ ds w' => ∃ (a' b' : Nat) (z : Int) (b8 b9 : Bool) (dk : Array Int), k = b' - a' ∧ a' ≤ b' ∧ b' ≤ d.size ∧ b' - a' ≤ b - a ∧ ρ 0 = v ∧ ρ 1 = .int .i64 a' ∧ ρ 2 = .int .i64 b' ∧ ρ 3 = .int .i64 z ∧ ρ 8 = .bool b8 ∧ ρ 9 = .bool b9 ∧ ds = [] ∧
    Suint32.A w' v dk ∧ dk.size = d.size ∧ Sort.Below Sort.ltInt a' b' dk ∧ (∀ R, Sort.PermIn a' b' dk R → Sort.SortedIn Sort.ltInt a' b' R → Sort.PermIn a b d R ∧ Sort.SortedIn Sort.ltInt a b R) ∧ Mod (Sv v) w w') (b - a) ⟨a, b, z, true, true, d, ?_⟩ ?_
  · simp
    exact ⟨hab, hb, hA, hB, fun R h1 h2 => ⟨h1, h2⟩, Mod.refl _ _⟩
  · rintro k ρ ds w1 ⟨a', b', z, b8, b9, dk, rfl, hab', hb', hle, e0, e1, e2, e3, e8, e9, rfl, hD, hz, hB, hC, hM⟩
    have w1_ : IntKind.i64.wrap ((b' : Int) - (a' : Int)) = ((b' - a' : Nat) : Int) := wnat _ _ (by omega) (by omega)
    by_cases h12 : b' - a' ≤ 12
    · have h12' : ((b' - a' : Nat) : Int) ≤ 12 := by omega
      simp [e0, e1, e2, w1_, h12']
      refine FN.mono (Suint32.ins_c hD (a := a') (b := b') (by omega) (by omega) (by omega)) ?_
      rintro _ w2 ⟨⟨u, rfl⟩, hD2, hM2⟩
      simp
      obtain ⟨q1, q2⟩ := Sort.insertionSort_holds Sort.swo_ltInt dk a' b' hab' (by omega)
      exact ⟨_, (hC _ q1 q2).1, (hC _ q1 q2).2, hD2, hM.trans hM2⟩
    · have h12' : ¬ ((b' - a' : Nat) : Int) ≤ 12 := by omega
      by_cases hz0 : z = 0
      · subst hz0
        simp [e0, e1, e2, e3, w1_, h12']
        refine FN.mono (Suint32.heap_c hD (a := a') (b := b') (by omega) (by omega) (by omega)) ?_
        rintro _ w2 ⟨⟨u, rfl⟩, hD2, hM2⟩
        simp
        obtain ⟨q1, q2⟩ := Sort.heapSort_holds Sort.swo_ltInt dk a' b' hab' (by omega)
        exact ⟨_, (hC _ q1 q2).1, (hC _ q1 q2).2, hD2, hM.trans hM2⟩
      · have hz0' : (z == 0) = false := by simp [hz0]
        refine with_tail (T := ∀ (σ : Env) (W : World) (d3 : Array Int) (p : Nat),
          (σ 0 = v ∧ σ 1 = .int .i64 a' ∧ σ 2 = .int .i64 b' ∧ (∃ z, σ 3 = .int .i64 z) ∧ (∃ c, σ 8 = .bool c) ∧ (∃ c, σ 9 = .bool c) ∧ σ 10 = .int .i64 ((b' - a' : Nat) : Int) ∧ σ 11 = .int .i64 p) ∧
          Suint32.A W v d3 ∧ Sort.PermIn a' b' dk d3 ∧ a' ≤ p ∧ p < b' ∧ Mod (Sv v) w W → WC Try.prog 134 none ?c ?Q σ [] W) (fun tail => ?_) ?_
        rotate_left 2
        · simp [e1, e2, e3, e8, w1_, h12', hz0']
          cases b8
          · simp [e0, e1, e2]
            refine FN.mono (Suint32.brk_c hD (a := a') (b := b') (by omega) (by omega) (by omega)) ?_
            rintro _ w2 ⟨⟨u, rfl⟩, d1, hP1, hD, hM2⟩
            replace hM := hM.trans hM2
            have hz1 := hP1.1
            obtain ⟨z1, hz1'⟩ : ∃ z1, z1 = IntKind.i64.wrap (z - 1) := ⟨_, rfl⟩
            simp [e0, e1, e2, e3, ← hz1']
            refine FN.mono (Suint32.piv_c hD (a := a') (b := b') (by omega) (by omega) (by omega)) ?_
            rintro _ w3 ⟨⟨p, h, rfl, hp1, hp2⟩, hD, hM3⟩
            replace hM := hM.trans hM3
            simp
            by_cases h2 : h = 2
            · simp [h2, e0, e1, e2]
              refine FN.mono (Suint32.rev_c hD (a := a') (b := b') (by omega) (by omega) (by omega)) ?_
              rintro _ w4 ⟨⟨u, rfl⟩, d2, hP2, hD, hM4⟩
              replace hM := hM.trans hM4
              replace hP1 := Sort.permIn_trans _ _ _ _ _ hP1 hP2
              have hz2 := hP1.1
              obtain ⟨p2, hp⟩ : ∃ p2, p2 = b' - 1 - (p - a') := ⟨_, rfl⟩
              have wa_ : IntKind.i64.wrap ((b' : Int) - 1) = ((b' - 1 : Nat) : Int) := wnat _ _ (by omega) (by omega)
              have wb_ : IntKind.i64.wrap ((p : Int) - (a' : Int)) = ((p - a' : Nat) : Int) := wnat _ _ (by omega) (by omega)
              have wc_ : IntKind.i64.wrap (((b' - 1 : Nat) : Int) - ((p - a' : Nat) : Int)) = (p2 : Int) := wnat _ _ (by omega) (by omega)
              simp [e1, e2, e8, wa_, wb_, wc_]
              refine tail _ _ d2 p2 ⟨?_, hD, hP1, by omega, by omega, hM⟩
              simp [e0, e1, e2, e8, e9]
            · have h2' : (h == 2) = false := by simp [h2]
              simp [h2', e8]
              refine tail _ _ d1 p ⟨?_, hD, hP1, by omega, by omega, hM⟩
              simp [e0, e1, e2, e8, e9]
          · obtain ⟨d1, hd1⟩ : ∃ d1, d1 = dk := ⟨_, rfl⟩
            have hP1 : Sort.PermIn a' b' dk d1 := by rw [hd1]; exact Sort.permIn_refl _ _ _
            rw [← hd1] at hD
            have hz1 := hP1.1
            simp [e0, e1, e2]
            refine FN.mono (Suint32.piv_c hD (a := a') (b := b') (by omega) (by omega) (by omega)) ?_
            rintro _ w3 ⟨⟨p, h, rfl, hp1, hp2⟩, hD, hM3⟩
            replace hM := hM.trans hM3
            simp
            by_cases h2 : h = 2
            · simp [h2, e0, e1, e2]
              refine FN.mono (Suint32.rev_c hD (a := a') (b := b') (by omega) (by omega) (by omega)) ?_
              rintro _ w4 ⟨⟨u, rfl⟩, d2, hP2, hD, hM4⟩
              replace hM := hM.trans hM4
              replace hP1 := Sort.permIn_trans _ _ _ _ _ hP1 hP2
              have hz2 := hP1.1
              obtain ⟨p2, hp⟩ : ∃ p2, p2 = b' - 1 - (p - a') := ⟨_, rfl⟩
              have wa_ : IntKind.i64.wrap ((b' : Int) - 1) = ((b' - 1 : Nat) : Int) := wnat _ _ (by omega) (by omega)
              have wb_ : IntKind.i64.wrap ((p : Int) - (a' : Int)) = ((p - a' : Nat) : Int) := wnat _ _ (by omega) (by omega)
              have wc_ : IntKind.i64.wrap (((b' - 1 : Nat) : Int) - ((p - a' : Nat) : Int)) = (p2 : Int) := wnat _ _ (by omega) (by omega)
              simp [e1, e2, e8, e9, wa_, wb_, wc_]
              cases b9
              · simp
                refine tail _ _ d2 p2 ⟨?_, hD, hP1, by omega, by omega, hM⟩
                simp [e0, e1, e2, e3, e8, e9]
              · simp [e0, e1, e2]
                have hz3 := hP1.1
                refine FN.mono (Suint32.pis_c hD (a := a') (b := b') (by omega) (by omega) (by omega)) ?_
                rintro _ w5 ⟨rfl, hD, hM5⟩
                replace hM := hM.trans hM5
                have hB1 := Sort.Below.perm hB (by omega) hP1
                obtain ⟨hq1, hq2⟩ := Sort.partialInsertionSort_holds Sort.swo_ltInt d2 a' b' (by omega) (by omega) hB1
                generalize Sort.partialInsertionSort Sort.ltInt d2 a' b' = R at *
                obtain ⟨R1, R2⟩ := R
                cases R2
                · simp
                  refine tail _ _ R1 p2 ⟨?_, hD, Sort.permIn_trans _ _ _ _ _ hP1 hq1, by omega, by omega, hM⟩
                  simp [e0, e1, e2, e3, e8, e9]
                · simp
                  exact ⟨R1, (hC _ (Sort.permIn_trans _ _ _ _ _ hP1 hq1) (hq2 rfl)).1, (hC _ (Sort.permIn_trans _ _ _ _ _ hP1 hq1) (hq2 rfl)).2, hD, hM⟩
            · have h2' : (h == 2) = false := by simp [h2]
              simp [h2', e8, e9]
              cases b9
              · simp
                refine tail _ _ d1 p ⟨?_, hD, hP1, by omega, by omega, hM⟩
                simp [e0, e1, e2, e3, e8, e9]
              · by_cases h1 : h = 1
                · simp [h1, e0, e1, e2]
                  have hz3 := hP1.1
                  refine FN.mono (Suint32.pis_c hD (a := a') (b := b') (by omega) (by omega) (by omega)) ?_
                  rintro _ w5 ⟨rfl, hD, hM5⟩
                  replace hM := hM.trans hM5
                  have hB1 := Sort.Below.perm hB (by omega) hP1
                  obtain ⟨hq1, hq2⟩ := Sort.partialInsertionSort_holds Sort.swo_ltInt d1 a' b' (by omega) (by omega) hB1
                  generalize Sort.partialInsertionSort Sort.ltInt d1 a' b' = R at *
                  obtain ⟨R1, R2⟩ := R
                  cases R2
                  · simp
                    refine tail _ _ R1 p ⟨?_, hD, Sort.permIn_trans _ _ _ _ _ hP1 hq1, by omega, by omega, hM⟩
                    simp [e0, e1, e2, e3, e8, e9]
                  · simp
                    exact ⟨R1, (hC _ (Sort.permIn_trans _ _ _ _ _ hP1 hq1) (hq2 rfl)).1, (hC _ (Sort.permIn_trans _ _ _ _ _ hP1 hq1) (hq2 rfl)).2, hD, hM⟩
                · have h1' : (h == 1) = false := by simp [h1]
                  simp [h1']
                  refine tail _ _ d1 p ⟨?_, hD, hP1, by omega, by omega, hM⟩
                  simp [e0, e1, e2, e3, e8, e9]
        · rintro σ W d3 p ⟨⟨e0, e1, e2, ⟨z, e3⟩, ⟨c8, e8⟩, ⟨c9, e9⟩, e10, e11⟩, hD, hP, hp1, hp2, hM⟩
          have hz3 := hP.1
          have hB3 := Sort.Below.perm hB (by omega) hP
          refine WC_drQ 12 rfl (by kernel_rfl) fun W hW => ?_
          replace hD := hD.dr hW
          replace hM := hM.dr hW
          by_cases ha0 : 0 < a'
          · have wa_ : IntKind.i64.wrap ((a' : Int) - 1) = ((a' - 1 : Nat) : Int) := wnat _ _ (by omega) (by omega)
            have i1 := Suint32.ix hD (a' - 1) (by omega)
            have i2 := Suint32.ix hD p (by omega)
            obtain ⟨c1, c2, -⟩ := hD.facts (a' - 1) p (by omega) (by omega)
            simp [e0, e1, e11, ha0, wa_, i1, i2, c1, c2]
            refine FN.mono (Suint32.less_c (at_ d3 (a' - 1)) (at_ d3 p) W) ?_
            rintro _ _ ⟨rfl, rfl⟩
            simp
            by_cases hl : Sort.ltInt (at_ d3 (a' - 1)) (at_ d3 p) = true
            · simp [hl, e0, e1, e2, e11]
              refine FN.mono (Suint32.part_c hD (a := a') (b := b') (pivot := p) hp1 hp2 (by omega) (by omega)) ?_
              rintro _ w6 ⟨⟨fl, rfl⟩, hD, hM6⟩
              replace hM := hM.trans hM6
              obtain ⟨mid, hmid⟩ : ∃ mid, mid = (Sort.partition Sort.ltInt d3 a' b' p).1 := ⟨_, rfl⟩
              obtain ⟨d4, hd4⟩ : ∃ d4, d4 = (Sort.partition Sort.ltInt d3 a' b' p).2.2 := ⟨_, rfl⟩
              obtain ⟨q1, q2, q3, q4, q5, q6, q7⟩ := Sort.round_part Sort.swo_ltInt (Sort.partition_holds _) (d3 := d3) (d4 := d4) (mid := mid) (ap := (Sort.partition Sort.ltInt d3 a' b' p).2.1) hp1 hp2 (by omega) hB3 (by rw [hmid, hd4])
              rw [← hd4] at hD
              rw [← hmid]
              have wl_ : IntKind.i64.wrap ((mid : Int) - (a' : Int)) = ((mid - a' : Nat) : Int) := wnat _ _ (by omega) (by omega)
              have wr_ : IntKind.i64.wrap ((b' : Int) - (mid : Int)) = ((b' - mid : Nat) : Int) := wnat _ _ (by omega) (by omega)
              have wm_ : IntKind.i64.wrap ((mid : Int) + 1) = ((mid + 1 : Nat) : Int) := wnat _ _ (by omega) (by omega)
              simp [e1, e2, e10, wl_, wr_]
              by_cases hlr : mid - a' < b' - mid
              · simp [hlr, e0, e1, e3]
                refine FN.mono (ih a' mid d4 w6 z (by omega) q1 (by omega) (by omega) hD q4) ?_
                rintro _ w7 ⟨⟨u, rfl⟩, L, hL1, hL2, hD, hM7⟩
                replace hM := hM.trans hM7
                obtain ⟨r1, r2⟩ := q6 L hL1 hL2
                have hLz := hL1.1
                simp [e0, e2, e3]
                rw [wm_]
                exact ⟨b' - (mid + 1), by omega, mid + 1, b', rfl, by omega, by omega, by omega, rfl, rfl, by omega, L, hD, by omega, r1, fun R h1 h2 => hC R (Sort.permIn_trans _ _ _ _ _ hP (r2 R h1 h2).1) (r2 R h1 h2).2, hM⟩
              · simp [hlr, e0, e2, e3]
                rw [wm_]
                refine FN.mono (ih (mid + 1) b' d4 w6 z (by omega) (by omega) (by omega) (by omega) hD q5) ?_
                rintro _ w7 ⟨⟨u, rfl⟩, L, hL1, hL2, hD, hM7⟩
                replace hM := hM.trans hM7
                obtain ⟨r1, r2⟩ := q7 L hL1 hL2
                have hLz := hL1.1
                simp [e0, e1, e3]
                exact ⟨mid - a', by omega, a', mid, rfl, by omega, by omega, by omega, rfl, rfl, by omega, L, hD, by omega, r1, fun R h1 h2 => hC R (Sort.permIn_trans _ _ _ _ _ hP (r2 R h1 h2).1) (r2 R h1 h2).2, hM⟩
            · replace hl := Bool.eq_false_iff.2 hl
              simp [hl, e0, e1, e2, e11]
              refine FN.mono (Suint32.peq_c hD (a := a') (b := b') (pivot := p) hp1 hp2 (by omega) (by omega)) ?_
              rintro _ w6 ⟨rfl, hD, hM6⟩
              replace hM := hM.trans hM6
              obtain ⟨mid, hmid⟩ : ∃ mid, mid = (Sort.partitionEqual Sort.ltInt d3 a' b' p).1 := ⟨_, rfl⟩
              obtain ⟨d4, hd4⟩ : ∃ d4, d4 = (Sort.partitionEqual Sort.ltInt d3 a' b' p).2 := ⟨_, rfl⟩
              obtain ⟨q1, q2, q3, q4, q5⟩ := Sort.round_eq Sort.swo_ltInt (Sort.partitionEqual_holds _) (d3 := d3) (d4 := d4) (mid := mid) ha0 hp1 hp2 (by omega) hB3 hl (by rw [hmid, hd4])
              rw [← hd4] at hD
              rw [← hmid]
              simp [e0, e2, e3, e8, e9]
              exact ⟨b' - mid, by omega, mid, b', rfl, by omega, by omega, by omega, rfl, rfl, d4, hD, by omega, q4, fun R h1 h2 => hC R (Sort.permIn_trans _ _ _ _ _ hP (q5 R h1 h2).1) (q5 R h1 h2).2, hM⟩
          · simp [e0, e1, e2, e11, ha0]
            refine FN.mono (Suint32.part_c hD (a := a') (b := b') (pivot := p) hp1 hp2 (by omega) (by omega)) ?_
            rintro _ w6 ⟨⟨fl, rfl⟩, hD, hM6⟩
            replace hM := hM.trans hM6
            obtain ⟨mid, hmid⟩ : ∃ mid, mid = (Sort.partition Sort.ltInt d3 a' b' p).1 := ⟨_, rfl⟩
            obtain ⟨d4, hd4⟩ : ∃ d4, d4 = (Sort.partition Sort.ltInt d3 a' b' p).2.2 := ⟨_, rfl⟩
            obtain ⟨q1, q2, q3, q4, q5, q6, q7⟩ := Sort.round_part Sort.swo_ltInt (Sort.partition_holds _) (d3 := d3) (d4 := d4) (mid := mid) (ap := (Sort.partition Sort.ltInt d3 a' b' p).2.1) hp1 hp2 (by omega) hB3 (by rw [hmid, hd4])
            rw [← hd4] at hD
            rw [← hmid]
            have wl_ : IntKind.i64.wrap ((mid : Int) - (a' : Int)) = ((mid - a' : Nat) : Int) := wnat _ _ (by omega) (by omega)
            have wr_ : IntKind.i64.wrap ((b' : Int) - (mid : Int)) = ((b' - mid : Nat) : Int) := wnat _ _ (by omega) (by omega)
            have wm_ : IntKind.i64.wrap ((mid : Int) + 1) = ((mid + 1 : Nat) : Int) := wnat _ _ (by omega) (by omega)
            simp [e1, e2, e10, wl_, wr_]
            by_cases hlr : mid - a' < b' - mid
            · simp [hlr, e0, e1, e3]
              refine FN.mono (ih a' mid d4 w6 z (by omega) q1 (by omega) (by omega) hD q4) ?_
              rintro _ w7 ⟨⟨u, rfl⟩, L, hL1, hL2, hD, hM7⟩
              replace hM := hM.trans hM7
              obtain ⟨r1, r2⟩ := q6 L hL1 hL2
              have hLz := hL1.1
              simp [e0, e2, e3]
              rw [wm_]
              exact ⟨b' - (mid + 1), by omega, mid + 1, b', rfl, by omega, by omega, by omega, rfl, rfl, by omega, L, hD, by omega, r1, fun R h1 h2 => hC R (Sort.permIn_trans _ _ _ _ _ hP (r2 R h1 h2).1) (r2 R h1 h2).2, hM⟩
            · simp [hlr, e0, e2, e3]
              rw [wm_]
              refine FN.mono (ih (mid + 1) b' d4 w6 z (by omega) (by omega) (by omega) (by omega) hD q5) ?_
              rintro _ w7 ⟨⟨u, rfl⟩, L, hL1, hL2, hD, hM7⟩
              replace hM := hM.trans hM7
              obtain ⟨r1, r2⟩ := q7 L hL1 hL2
              have hLz := hL1.1
              simp [e0, e1, e3]
              exact ⟨mid - a', by omega, a', mid, rfl, by omega, by omega, by omega, rfl, rfl, by omega, L, hD, by omega, r1, fun R h1 h2 => hC R (Sort.permIn_trans _ _ _ _ _ hP (r2 R h1 h2).1) (r2 R h1 h2).2, hM⟩
theorem Suint32.sort_c {w : World} {v : Value} {d : Array Int} (hA : Suint32.A w v d) (hn : d.size ≤ 255) :
    FN Try.prog 69 [v] w fun e w' => (∃ u, e = .returned u) ∧ ∃ d', Sort.PermIn 0 d.size d d' ∧ Sort.SortedIn Sort.ltInt 0 d.size d' ∧ Suint32.A w' v d' ∧ Mod (Sv v) w w' := by
  refine FN_enter Try.func69 rfl rfl (by kernel_rfl) ?_
  simp [hA.isLen]
  rw [wrap64u _ (by omega) (by omega)]
  refine FN.mono (Suint32.blen_c d.size hn w) ?_
  rintro _ w1 ⟨⟨k, rfl, -⟩, hw⟩
  subst hw
  simp
  refine FN.mono (Suint32.pdq_c (d.size + 1) 0 d.size d w1 k (by omega) (by omega) (Nat.le_refl _) hn hA (.inl rfl)) ?_
  rintro _ w2 ⟨⟨u, rfl⟩, d', h1, h2, h3, h4⟩
  simp
  exact ⟨d', h1, h2, h3, h4⟩
/-- slices.Sort, of a row told by its list. -/
theorem Suint32.sorts {w : World} {v : Value} {xs : List Int} (h : Sl w 1 v xs.length (xs.map (Value.int .u32))) (hf : ∀ j, j < xs.length → w.frozen? ⟨slB v, slO v + j, none⟩ = false) (hb : xs.length ≤ 255) :
    FN Try.prog 69 [v] w fun e w' => (∃ u, e = .returned u) ∧ ∃ ys : List Int, ys.Perm xs ∧ ys.Pairwise (· ≤ ·) ∧ Sl w' 1 v ys.length (ys.map (Value.int .u32)) ∧ Mod (Sv v) w w' := by
  have hA : Suint32.A w v xs.toArray := by
    refine ⟨?_, fun j hj => ?_, fun j hj => hf j (by simpa using hj)⟩
    · rcases h.blk with ⟨h1, h2⟩ | ⟨b, o, c, rfl, hc⟩
      · obtain ⟨a, c, rfl⟩ := h.isSlice
        cases a with
        | none => exact .inl ⟨c, by rw [h2], by simpa using h2⟩
        | some a => cases h1
      · exact .inr ⟨b, o, c, by simp⟩
    · have hj' : j < xs.length := by simpa using hj
      have := h.at_ j (Value.int .u32 xs[j]) (by simp [hj'])
      rw [this]
      simp [at_, hj']
  refine FN.mono (Suint32.sort_c hA (by simpa using hb)) ?_
  rintro _ w' ⟨hu, d', h1, h2, h3, h4⟩
  have hz : d'.size = xs.length := by simpa using h1.1
  refine ⟨hu, d'.toList, ?_, ?_, ?_, h4⟩
  · have hq := h1.2.2
    have e1 : d'.extract 0 xs.toArray.size = d' := by rw [List.size_toArray, ← hz]; simp
    have e2 : xs.toArray.extract 0 xs.toArray.size = xs.toArray := by simp
    rw [e1, e2] at hq
    exact hq
  · rw [List.pairwise_iff_getElem]
    intro i j hi hj hij
    have := h2 i j (Nat.zero_le _) hij (by simpa [hz] using hj)
    have hi' : i < d'.size := by simpa using hi
    have hj' : j < d'.size := by simpa using hj
    simp only [Sort.ltInt, decide_eq_false_iff_not, getElem!_pos d' i hi', getElem!_pos d' j hj'] at this
    simpa using this
  · refine ⟨by simp, ?_, fun j u hj => ?_⟩
    · have hv := h3.val
      rcases hv with ⟨c, rfl, h0⟩ | ⟨b, o, c, rfl⟩
      · exact .inl ⟨c, rfl, by simpa using h0⟩
      · rcases h.blk with ⟨h1, -⟩ | ⟨b', o', c', h1, hc⟩
        · cases h1
        · simp only [Value.slice.injEq] at h1
          exact .inr ⟨b, o, c, by simp, by rw [Array.length_toList, hz, h1.2.2]; exact hc⟩
    · have hj' : j < d'.size := by have := (List.getElem?_eq_some_iff.1 hj).1; simpa using this
      have := h3.cell j hj'
      rw [this]
      simp [hj'] at hj
      rw [← hj]
      simp [at_, getElem!_pos d' j hj']
end Go.Proofs
