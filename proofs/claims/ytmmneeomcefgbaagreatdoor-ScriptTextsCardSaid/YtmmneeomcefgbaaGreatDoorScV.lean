/-
  Contracts of the functions that the law reaches,step by step.
-/
import Derived.Test.YtmmneeomcefgbaaGreatDoorScP
namespace Go.Proofs
open Pk
set_option maxRecDepth 10000
/-! ### What is read is in its bounds -/
def OkR (R : Trn → List Tx → Option (Trn × List Tx)) : Prop := ∀ t l t' l',t.Ok → R t l = some (t',l') → t'.Ok
theorem ctQ_ok {l r : List Tx} {c : Ctc} (h : ctQ l = some (c, r)) : c.Ok := by
  simp only [ctQ,Option.bind_eq_some_iff,Option.some.injEq,Prod.mk.injEq] at h
  obtain ⟨⟨a1,b1⟩,h1,⟨a2,b2⟩,h2,⟨a3,b3⟩,h3,⟨a4,b4⟩,h4,⟨a5,b5⟩,h5,rfl,-⟩ := h
  have := nodeQ_le h1
  have := nodeQ_le h2
  have := longQ_le h3
  have := longQ_le h4
  have := longQ_le h5
  exact ⟨by simp only [R32]; omega,by simp only [R32]; omega,by simp only [R64]; omega,by simp only [R64]; omega,by simp only [R64]; omega⟩
theorem stQ_ok {l r : List Tx} {c : Stp} (h : stQ l = some (c, r)) : c.Ok := by
  simp only [stQ,Option.bind_eq_some_iff,Option.some.injEq,Prod.mk.injEq] at h
  obtain ⟨⟨a1,b1⟩,h1,⟨a2,b2⟩,h2,⟨a3,b3⟩,h3,⟨a4,b4⟩,h4,rfl,-⟩ := h
  have := nodeQ_le h1
  have := nodeQ_le h2
  have := longQ_le h3
  have := longQ_le h4
  exact ⟨by simp only [R32]; omega,by simp only [R32]; omega,by simp only [R64]; omega,by simp only [R64]; omega⟩
theorem parseP_le {s : Tx} {n m : Nat} (h : parseP s = some (n, m)) : n ≤ 4294967295 ∧ m ≤ 4294967295 := by
  unfold parseP at h
  split at h
  · unfold endP at h
    split at h
    · cases h; omega
    · split at h
      · split at h
        · cases h
        · rename_i a b hq
          split at h
          · cases h
          · cases h
            unfold endQ at hq
            rcases hc : cutAt 46 (Lib.trimPrefix s ipnT) with _ | ⟨x, y⟩
            · rw [hc] at hq; cases hq
            · rw [hc] at hq
              simp only at hq
              rcases h1 : bndP x 4294967295 with _ | n'
              · rw [h1] at hq; cases hq
              · rcases h2 : bndP y 4294967295 with _ | m'
                · rw [h1,h2] at hq; cases hq
                · rw [h1,h2] at hq
                  cases hq
                  exact ⟨bndP_le h1,bndP_le h2⟩
      · cases h
  · cases h
theorem pointQ_le {l r : List Tx} {x : Nat × Nat} (h : pointQ l = some (x, r)) : x.1 ≤ 4294967295 ∧ x.2 ≤ 4294967295 := by
  cases l with
  | nil => cases h
  | cons s l =>
    simp only [pointQ,wordP] at h
    cases hp : parseP s with
    | none => rw [hp] at h; cases h
    | some y => rw [hp] at h; cases h; exact parseP_le hp
theorem okR_nodeR : OkR (nodeR) := by
  intro t l t' l' ht h
  simp only [nodeR,Option.bind_eq_some_iff,Option.some.injEq,Prod.mk.injEq] at h
  obtain ⟨⟨a1,b1⟩,h1,⟨a2,b2⟩,h2,rfl,rfl⟩ := h
  have := nodeQ_le h1
  have := longQ_le h2
  exact { ht with node := by simp only [R32]; omega,n := by simp only [R64]; omega }
theorem okR_openR_true : OkR (openR true) := by
  intro t l t' l' ht h
  simp only [openR,Option.bind_eq_some_iff,Option.some.injEq,Prod.mk.injEq] at h
  obtain ⟨⟨a1,b1⟩,h1,⟨a2,b2⟩,h2,rfl,rfl⟩ := h
  have := nodeQ_le h1
  have := nodeQ_le h2
  exact { ht with node := by simp only [R32]; omega,n := by simp only [R64]; omega }
theorem okR_openR_false : OkR (openR false) := by
  intro t l t' l' ht h
  simp only [openR,Option.bind_eq_some_iff,Option.some.injEq,Prod.mk.injEq] at h
  obtain ⟨⟨a1,b1⟩,h1,⟨a2,b2⟩,h2,rfl,rfl⟩ := h
  have := nodeQ_le h1
  have := nodeQ_le h2
  exact { ht with node := by simp only [R32]; omega,n := by simp only [R64]; omega }
theorem okR_sendR : OkR (sendR) := by
  intro t l t' l' ht h
  simp only [sendR,Option.bind_eq_some_iff,Option.some.injEq,Prod.mk.injEq] at h
  obtain ⟨⟨a1,b1⟩,h1,⟨a2,b2⟩,h2,⟨a3,b3⟩,h3,⟨a4,b4⟩,h4,⟨a5,b5⟩,h5,⟨a6,b6⟩,h6,⟨a7,b7⟩,h7,⟨a8,b8⟩,h8,rfl,rfl⟩ := h
  have := nodeQ_le h1
  have := nodeQ_le h2
  have := pointQ_le h3
  have := nodeQ_le h4
  have := pointQ_le h5
  have := longQ_le h6
  have := smallQ_le h7
  exact { ht with node := by simp only [R32]; omega,lsvc := by simp only [R32]; omega,lton := by simp only [R32]; omega,ltos := by simp only [R32]; omega,lflg := by simp only [R32]; omega,lren := by simp only [R32]; omega,lres := by simp only [R32]; omega,life := by simp only [R64]; omega,lim := by simp only; omega }
theorem okR_memberR : OkR (memberR) := by
  intro t l t' l' ht h
  simp only [memberR,Option.bind_eq_some_iff,Option.some.injEq,Prod.mk.injEq] at h
  obtain ⟨⟨a1,b1⟩,h1,⟨a2,b2⟩,h2,⟨a3,b3⟩,h3,⟨a4,b4⟩,h4,⟨a5,b5⟩,h5,rfl,rfl⟩ := h
  have := nodeQ_le h1
  have := nodeQ_le h2
  have := nodeQ_le h3
  have := nodeQ_le h4
  exact { ht with node := by simp only [R32]; omega,mn := by simp only [R32]; omega,mr := by simp only [R32]; omega,me := by simp only [R32]; omega }
theorem okR_airR : OkR (airR) := by
  intro t l t' l' ht h
  simp only [airR,Option.bind_eq_some_iff,Option.some.injEq,Prod.mk.injEq] at h
  obtain ⟨⟨a1,b1⟩,h1,rfl,rfl⟩ := h
  exact { ht with c := ctQ_ok h1 }
theorem okR_lightR : OkR (lightR) := by
  intro t l t' l' ht h
  simp only [lightR,Option.bind_eq_some_iff,Option.some.injEq,Prod.mk.injEq] at h
  obtain ⟨⟨a1,b1⟩,h1,rfl,rfl⟩ := h
  exact { ht with s := stQ_ok h1 }
theorem okR_planR : OkR (planR) := by
  intro t l t' l' ht h
  simp only [planR,Option.bind_eq_some_iff,Option.some.injEq,Prod.mk.injEq] at h
  obtain ⟨⟨a1,b1⟩,h1,⟨a2,b2⟩,h2,⟨a3,b3⟩,h3,rfl,rfl⟩ := h
  have := nodeQ_le h1
  have := nodeQ_le h2
  exact { ht with node := by simp only [R32]; omega,n := by simp only [R64]; omega,c := ctQ_ok h3 }
theorem okR_stepR : OkR (stepR) := by
  intro t l t' l' ht h
  simp only [stepR,Option.bind_eq_some_iff,Option.some.injEq,Prod.mk.injEq] at h
  obtain ⟨⟨a1,b1⟩,h1,⟨a2,b2⟩,h2,rfl,rfl⟩ := h
  have := nodeQ_le h1
  exact { ht with node := by simp only [R32]; omega,s := stQ_ok h2 }
theorem okR_treeR : OkR (treeR) := by
  intro t l t' l' ht h
  simp only [treeR,Option.bind_eq_some_iff,Option.some.injEq,Prod.mk.injEq] at h
  obtain ⟨⟨a1,b1⟩,h1,⟨a2,b2⟩,h2,⟨a3,b3⟩,h3,rfl,rfl⟩ := h
  have := nodeQ_le h1
  have := nodeQ_le h2
  have := nodeQ_le h3
  exact { ht with node := by simp only [R32]; omega,n := by simp only [R64]; omega,to' := by simp only [R32]; omega }
theorem okR_serveR : OkR (serveR) := by
  intro t l t' l' ht h
  simp only [serveR,Option.bind_eq_some_iff,Option.some.injEq,Prod.mk.injEq] at h
  obtain ⟨⟨a1,b1⟩,h1,⟨a2,b2⟩,h2,⟨a3,b3⟩,h3,rfl,rfl⟩ := h
  have := nodeQ_le h1
  have := nodeQ_le h2
  have := smallQ_le h3
  exact { ht with node := by simp only [R32]; omega,to' := by simp only [R32]; omega,fate := by simp only; omega }
theorem okR_landR : OkR (landR) := by
  intro t l t' l' ht h
  simp only [landR,Option.bind_eq_some_iff,Option.some.injEq,Prod.mk.injEq] at h
  obtain ⟨⟨a1,b1⟩,h1,rfl,rfl⟩ := h
  have := longQ_le h1
  exact { ht with n := by simp only [R64]; omega }
theorem okR_tickR : OkR (tickR) := by
  intro t l t' l' ht h
  simp only [tickR,Option.bind_eq_some_iff,Option.some.injEq,Prod.mk.injEq] at h
  obtain ⟨⟨a1,b1⟩,h1,rfl,rfl⟩ := h
  have := longQ_le h1
  exact { ht with n := by simp only [R64]; omega }
theorem okR_crashR : OkR (crashR) := by
  intro t l t' l' ht h
  simp only [crashR,Option.bind_eq_some_iff,Option.some.injEq,Prod.mk.injEq] at h
  obtain ⟨⟨a1,b1⟩,h1,⟨a2,b2⟩,h2,rfl,rfl⟩ := h
  have := nodeQ_le h1
  exact { ht with node := by simp only [R32]; omega }
theorem okR_armR : OkR (armR) := by
  intro t l t' l' ht h
  simp only [armR,Option.bind_eq_some_iff,Option.some.injEq,Prod.mk.injEq] at h
  obtain ⟨⟨a1,b1⟩,h1,⟨a2,b2⟩,h2,rfl,rfl⟩ := h
  have := nodeQ_le h1
  have := longQ_le h2
  exact { ht with node := by simp only [R32]; omega,n := by simp only [R64]; omega }
theorem okR_askR : OkR (askR) := by
  intro t l t' l' ht h
  simp only [askR,Option.bind_eq_some_iff,Option.some.injEq,Prod.mk.injEq] at h
  obtain ⟨⟨a1,b1⟩,h1,⟨a2,b2⟩,h2,⟨a3,b3⟩,h3,rfl,rfl⟩ := h
  have := nodeQ_le h1
  have := nodeQ_le h2
  have := nodeQ_le h3
  exact { ht with node := by simp only [R32]; omega,to' := by simp only [R32]; omega,n := by simp only [R64]; omega }
theorem ok0 (k : Int) : ({ trn0 with kind := k } : Trn).Ok := by
  constructor <;> first | exact ⟨by simp [trn0],by simp [trn0]⟩ | (constructor <;> exact ⟨by simp [trn0],by simp [trn0]⟩)
/-- A reading of words that keeps bounds. -/
def RdOk (rd : Tx → Option (Int × (Trn → List Tx → Option (Trn × List Tx)))) : Prop := ∀ s k R,rd s = some (k,R) → OkR R
theorem turnP_ok {rd : Tx → Option (Int × (Trn → List Tx → Option (Trn × List Tx)))} (h : RdOk rd) : ∀ s t', turnP rd s = some t' → t'.Ok := by
  intro s t' hs
  unfold turnP at hs
  split at hs
  · cases hs
  · split at hs
    · cases hs
    · rename_i k R hr
      split at hs
      · rename_i t hx
        cases hs
        exact h _ _ _ hr _ _ _ _ (ok0 k) hx
      · cases hs
theorem rdW_ok : RdOk rdW := by
  intro s k R h
  unfold rdW at h
  by_cases c0 : s = [110, 111, 100, 101]
  · rw [if_pos c0] at h; cases h; exact okR_nodeR
  rw [if_neg c0] at h
  by_cases c1 : s = [111, 112, 101, 110]
  · rw [if_pos c1] at h; cases h; exact okR_openR_true
  rw [if_neg c1] at h
  by_cases c2 : s = [99, 108, 111, 115, 101]
  · rw [if_pos c2] at h; cases h; exact okR_openR_false
  rw [if_neg c2] at h
  by_cases c3 : s = [115, 101, 110, 100]
  · rw [if_pos c3] at h; cases h; exact okR_sendR
  rw [if_neg c3] at h
  by_cases c4 : s = [109, 101, 109, 98, 101, 114]
  · rw [if_pos c4] at h; cases h; exact okR_memberR
  rw [if_neg c4] at h
  by_cases c5 : s = [97, 105, 114]
  · rw [if_pos c5] at h; cases h; exact okR_airR
  rw [if_neg c5] at h
  by_cases c6 : s = [108, 105, 103, 104, 116]
  · rw [if_pos c6] at h; cases h; exact okR_lightR
  rw [if_neg c6] at h
  by_cases c7 : s = [112, 108, 97, 110]
  · rw [if_pos c7] at h; cases h; exact okR_planR
  rw [if_neg c7] at h
  by_cases c8 : s = [115, 116, 101, 112]
  · rw [if_pos c8] at h; cases h; exact okR_stepR
  rw [if_neg c8] at h
  by_cases c9 : s = [116, 114, 101, 101]
  · rw [if_pos c9] at h; cases h; exact okR_treeR
  rw [if_neg c9] at h
  by_cases c10 : s = [115, 101, 114, 118, 101]
  · rw [if_pos c10] at h; cases h; exact okR_serveR
  rw [if_neg c10] at h
  by_cases c11 : s = [108, 97, 110, 100]
  · rw [if_pos c11] at h; cases h; exact okR_landR
  rw [if_neg c11] at h
  by_cases c12 : s = [116, 105, 99, 107]
  · rw [if_pos c12] at h; cases h; exact okR_tickR
  rw [if_neg c12] at h
  by_cases c13 : s = [99, 114, 97, 115, 104]
  · rw [if_pos c13] at h; cases h; exact okR_crashR
  rw [if_neg c13] at h
  by_cases c14 : s = [97, 114, 109]
  · rw [if_pos c14] at h; cases h; exact okR_armR
  rw [if_neg c14] at h
  by_cases c15 : s = [97, 115, 107]
  · rw [if_pos c15] at h; cases h; exact okR_askR
  rw [if_neg c15] at h
  cases h
end Go.Proofs
