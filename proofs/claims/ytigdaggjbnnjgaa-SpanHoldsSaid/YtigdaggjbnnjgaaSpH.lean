/-
  Contracts of the functions that the law reaches, step by step.
-/
import Derived.Test.YtigdaggjbnnjgaaSpG
namespace Go.Proofs
open Pk
set_option maxRecDepth 10000
theorem gdT_of {w : World} {t R : Nat} {M : ME} (ht : TabAt w t R M) (h : ∀ q, gdI (sps M q)) : gdT M := by
  intro x hx
  have := h x.1
  rw [sps, (kget_iff ht.map.nodup).2 (show (x.1, x.2) ∈ M from hx)] at this
  exact this
/-- A table of one's own. -/
structure OwnT (w : World) (W : World) (t R : Nat) (M : ME) : Prop where
  tab : TabAt W t R M
  ext : Ext w W
  own : ∀ k, Foot t R M k → w.heap.size ≤ k
theorem OwnT.put {w W W' : World} {t R : Nat} {M M' : ME} (h : OwnT w W t R M) (h1 : TabAt W' t R M') (h2 : Mod (Foot t R M) W W') (h3 : ∀ k, Foot t R M' k → Foot t R M k ∨ W.heap.size ≤ k) : OwnT w W' t R M' :=
  ⟨h1, ((h.ext.mod (S := fun k => w.heap.size ≤ k)).trans (h2.weaken h.own)).ext fun _ h => h, fun k hk => by
    rcases h3 k hk with h4 | h4
    · exact h.own k h4
    · have := h.ext.size; omega⟩
theorem OwnT.ext' {w W W' : World} {t R : Nat} {M : ME} (h : OwnT w W t R M) (hE : Ext W W') : OwnT w W' t R M := ⟨h.tab.ext hE, h.ext.trans hE, h.own⟩
theorem OwnT.new {w W : World} {t R : Nat} (h : TabAt W t R []) (hE : Ext w W) (h1 : w.heap.size ≤ t) (h2 : w.heap.size ≤ R) : OwnT w W t R [] :=
  ⟨h, hE, fun k hk => by
    rcases hk with rfl | rfl | ⟨x, hx, _⟩
    · exact h1
    · exact h2
    · cases hx⟩
theorem step_c (a k : Int) (w : World) : FN Try.prog 20 [u64 a, u64 k] w fun e w' => e = .returned (stV ⟨1, 2, a, k⟩) ∧ Ext w w' := by
  refine FN_enter Try.func20 rfl rfl (by kernel_rfl) ?_
  simp
  exact (Ext.refl w).alloc _
theorem setM {W : World} {w : World} {t R : Nat} {M : ME} (h : OwnT w W t R M) (hf : total M ≤ 1048576) (s : St) :
    FN Try.prog 8 [ptr t, stV s] W fun e W' => e = .returned (.tuple #[.bool (wasS M s), .int .i64 (setE M s)]) ∧ ∃ M', OwnT w W' t R M' ∧ (∀ q, sps M' q = if setE M s = 0 ∧ q = (s.f, s.t) then mset (sps M q) s.a s.k else sps M q) ∧ total M' = (if setE M s = 0 ∧ wasS M s = false then total M + 1 else total M) := by
  refine FN.mono (set_c h.tab hf s) ?_
  rintro _ W' ⟨rfl, M', h1, h2, h3, h4, h5⟩
  exact ⟨rfl, M', h.put h1 h2 h3, h4, h5⟩
theorem lnd_ev {m : ML} {a b : Int} (h : lnd m a = b) : lnd m a = b := h
set_option maxHeartbeats 1000000 in
theorem works_c (w : World) : FN Try.prog 6 [] w fun e w' => e = .returned (.bool true) ∧ Ext w w' := by
  refine FN_enter Try.func6 rfl rfl (by kernel_rfl) ?_
  simp
  refine FN.mono (new_c w) ?_
  rintro _ w1 ⟨t, R, rfl, ht, hE, hlt, hlr⟩
  have o1 := OwnT.new ht hE hlt hlr
  simp
  refine FN.mono (step_c 10 5 w1) ?_
  rintro _ w2 ⟨rfl, hE2⟩
  have o2 := o1.ext' hE2
  simp
  refine FN.mono (setM o2 (by simp [total]) ⟨1, 2, 10, 5⟩) ?_
  rintro _ w3 ⟨rfl, M3, o3, s3, n3⟩
  have e3 : setE [] ⟨1, 2, 10, 5⟩ = 0 := by decide
  have e3' : wasS [] ⟨1, 2, 10, 5⟩ = false := by decide
  rw [e3] at s3 n3
  rw [e3'] at n3
  have n3' : total M3 = 1 := by simpa [total] using n3
  have s31 : sps M3 (1, 2) = [(10, 5)] := by rw [s3]; rfl
  have s32 : sps M3 (2, 1) = [] := by rw [s3]; rfl
  have g3 : gdT M3 := gdT_of o3.tab fun q => by
    rw [s3]
    split
    · rename_i h
      rw [h.2]
      intro q hq
      have : q = (10, 5) := by simpa [sps, kget_nil, mset] using hq
      subst this; simp
    · intro q hq; simp [sps, kget_nil] at hq
  simp [e3, e3']
  refine FN.mono (ticks_c o3.tab 1 2 9) ?_
  rintro _ w4 ⟨rfl, hE4⟩
  have o4 := o3.ext' hE4
  simp
  refine FN.mono (lands_c o4.tab g3 1 2 10 (by omega)) ?_
  rintro _ w5 ⟨rfl, hE5⟩
  have o5 := o4.ext' hE5
  simp
  refine FN.mono (lands_c o5.tab g3 2 1 10 (by omega)) ?_
  rintro _ w6 ⟨rfl, hE6⟩
  have o6 := o5.ext' hE6
  have l1 : tk (sps M3 (1, 2)) 9 = 0 := by rw [s31]; decide
  have l2 : lnd (sps M3 (1, 2)) 10 = 15 := by rw [s31]; decide
  have l3 : lnd (sps M3 (2, 1)) 10 = 10 := by rw [s32]; decide
  rw [l1, l2, l3]
  simp
  refine FN.mono (step_c 20 1 w6) ?_
  rintro _ w7 ⟨rfl, hE7⟩
  have o7 := o6.ext' hE7
  simp
  refine FN.mono (setM o7 (by omega) ⟨1, 2, 20, 1⟩) ?_
  rintro _ w8 ⟨rfl, M8, o8, s8, n8⟩
  have e8 : setE M3 ⟨1, 2, 20, 1⟩ = 0 := by
    have : badS ⟨1, 2, 20, 1⟩ = false := by decide
    simp [setE, this, n3', s31]
  have e8' : wasS M3 ⟨1, 2, 20, 1⟩ = false := by
    have : mget (sps M3 (1, 2)) 20 = none := by rw [s31]; decide
    simp [wasS, this]
  rw [e8] at s8 n8
  rw [e8'] at n8
  have n8' : total M8 = 2 := by simpa [n3'] using n8
  have s81 : sps M8 (1, 2) = [(10, 5), (20, 1)] := by rw [s8]; simp; rw [s31]; decide
  have g8 : gdT M8 := gdT_of o8.tab fun q => by
    rw [s8]
    split
    · rename_i h
      rw [h.2]
      show gdI (mset (sps M3 (1, 2)) 20 1)
      rw [s31]
      intro q hq
      have : q = (10, 5) ∨ q = (20, 1) := by simpa [mset, mget] using hq
      rcases this with rfl | rfl <;> simp
    · exact g3.sps q
  simp [e8, e8']
  have k8 : isKeys (sps M8 (1, 2)) [10, 20] := by rw [s81]; exact ⟨List.Perm.refl _, by decide⟩
  have b1 : bst (sps M8 (1, 2)) ⟨12, 30⟩ 12 [10, 20] = 12 := by rw [s81]; decide
  have b2 : bst (sps M8 (1, 2)) ⟨5, 15⟩ 5 [10, 20] = 5 := by rw [s81]; decide
  refine FN.mono (best_c o8.tab g8 1 2 ⟨12, 30⟩ (by simp) (by rw [s81]; simp) k8) ?_
  rintro _ w9 ⟨rfl, hE9⟩
  have o9 := o8.ext' hE9
  have i1 : inS ⟨12, 30⟩ 12 = true := by decide
  have i2 : inS ⟨5, 15⟩ 5 = true := by decide
  simp [i1, b1]
  refine FN.mono (best_c o9.tab g8 1 2 ⟨5, 15⟩ (by simp) (by rw [s81]; simp) k8) ?_
  rintro _ w10 ⟨rfl, hE10⟩
  have o10 := o9.ext' hE10
  simp [i2, b2]
  refine FN.mono (step_c 10 6 w10) ?_
  rintro _ w11 ⟨rfl, hE11⟩
  have o11 := o10.ext' hE11
  simp
  refine FN.mono (setM o11 (by omega) ⟨1, 2, 10, 6⟩) ?_
  rintro _ w12 ⟨rfl, M12, o12, s12, n12⟩
  have m12 : mget (sps M8 (1, 2)) 10 = some 5 := by rw [s81]; decide
  have e12 : setE M8 ⟨1, 2, 10, 6⟩ = 0 := by
    have : badS ⟨1, 2, 10, 6⟩ = false := by decide
    simp [setE, this, m12]
  have e12' : wasS M8 ⟨1, 2, 10, 6⟩ = true := by
    simp [wasS, e12, m12]
  rw [e12] at s12 n12
  rw [e12'] at n12
  have n12' : total M12 = 2 := by simpa [n8'] using n12
  have s121 : sps M12 (1, 2) = [(10, 6), (20, 1)] := by rw [s12]; simp; rw [s81]; decide
  simp [e12, e12']
  have h12 : hasS M12 1 2 11 = false := by unfold hasS; rw [s121]; decide
  refine FN.mono (drop_c o12.tab (by omega) 1 2 11) ?_
  rintro _ w13 ⟨rfl, M13, d1, d2, d3, d4, d5⟩
  have o13 := o12.put d1 d2 d3
  rw [h12] at d5
  have n13 : total M13 = 2 := by simpa [n12'] using d5
  simp [h12]
  have hA : Ext w13 (w13.alloc (.cells #[u32 (dropSt M12 1 2 11).f, u32 (dropSt M12 1 2 11).t, u64 (dropSt M12 1 2 11).a, u64 (dropSt M12 1 2 11).k] 35)) := (Ext.refl w13).alloc _
  have o14 := o13.ext' hA
  generalize (w13.alloc (.cells #[u32 (dropSt M12 1 2 11).f, u32 (dropSt M12 1 2 11).t, u64 (dropSt M12 1 2 11).a, u64 (dropSt M12 1 2 11).k] 35)) = w14 at *
  refine FN.mono (setM o14 (by omega) ⟨1, 1, 0, 0⟩) ?_
  rintro _ w15 ⟨rfl, M15, o15, s15, n15⟩
  have e15 : setE M13 ⟨1, 1, 0, 0⟩ = 2 := by
    have : badS ⟨1, 1, 0, 0⟩ = true := by decide
    simp [setE, this]
  simp [e15]
  have z0 : IntKind.i64.wrap 0 = 0 := by decide
  refine FN.mono (num_c 0 w15) ?_
  rintro _ _ ⟨rfl, hw⟩
  subst hw
  rename_i w15
  simp
  refine FN.mono (num_c 0 w15) ?_
  rintro _ _ ⟨rfl, hw⟩
  subst hw
  rename_i w15
  simp
  refine FN.mono (num_c 0 w15) ?_
  rintro _ _ ⟨rfl, hw⟩
  subst hw
  rename_i w15
  simp [z0]
  refine FN.mono (num_c 5 w15) ?_
  rintro _ _ ⟨rfl, hw⟩
  subst hw
  rename_i w15
  simp
  refine FN.mono (num_c 2 w15) ?_
  rintro _ _ ⟨rfl, hw⟩
  subst hw
  simp
  exact o15.ext
end Go.Proofs
