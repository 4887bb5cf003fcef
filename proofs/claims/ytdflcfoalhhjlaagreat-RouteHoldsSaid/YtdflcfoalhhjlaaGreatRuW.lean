/-
 Contracts of the functions that the law reaches,step by step.
-/
import Derived.Test.YtdflcfoalhhjlaaGreatRows
import Derived.Test.YtdflcfoalhhjlaaGreatRuV
namespace Go.Proofs.YtdflcfoalhhjlaaGreat
open Go.ChangeShapes Go.WideShapes Go.ChangeAt Go.RowKit Go.Deep Pk
set_option maxRecDepth 100000
theorem Tryz.own : ownKnob Tryz.prog.godebug = none := by kernel_rfl
theorem Tryz.laidOut : laidOutB Tryz.prog = true := by kernel_rfl
theorem kept_of_ext {w w' : World} (h : Ext w w') (may : MemPlace → Prop) : w.keptBut w' may := by
 refine ⟨h.os,h.out,fun i hi => ?_⟩
 rw [h.blk i hi]
 cases w.heap[i]? with
 | none => rfl
 | some o => cases o <;> simp
theorem shut_bool {H : Type} {enc : TypeId × Value → H} {P : Program} {w : World} {base : Nat} {spare : Nat → Bool} {held : Bool} {t : TypeId} {b : Bool} (ht : P.underlying t = some .bool) : DataW.Trod enc P w base spare held t (.bool b) (.lit (.bool b)) [] :=
 ⟨1,by simp [DataW.trod,Value.cells,ht]⟩
theorem below_of_ext {w w' : World} (h : Ext w w') : Go.RowKit.Below w.heap.size w w' := ⟨h.os,h.tape,h.out,h.size,h.blk⟩
theorem fit_int {cs : List Value} {ks : List CK} {q : IntKind} (h : Fit (.int q :: ks) cs) : ∃ (x : Int) (cs' : List Value), cs = .int q x :: cs' ∧ (Lit.int q x).wf = true ∧ Fit ks cs' := by
 obtain ⟨v1,c1,e1,⟨x,f1,w1⟩,h⟩ := h.cons
 exact ⟨x,c1,by rw [e1,f1],w1,h⟩
theorem fit_bool {cs : List Value} {ks : List CK} (h : Fit (.bool :: ks) cs) : ∃ (x : Bool) (cs' : List Value), cs = .bool x :: cs' ∧ Fit ks cs' := by
 obtain ⟨v1,c1,e1,⟨x,f1⟩,h⟩ := h.cons
 exact ⟨x,c1,by rw [e1,f1],h⟩
theorem open_els {α : Type} (g : α → List Value) (ok : α → Prop) {s : Nat} {l : List CK} {W : World} {v : Value} {n : Nat} {f : Nat → List Value} (hfit : ∀ cs, Fit l cs → ∃ x, cs = g x ∧ ok x) (h : SlA W s v n ((List.range n).flatMap f)) (hf : ∀ i, i < n → Fit l (f i)) :
  ∃ L : List α,SlA W s v L.length (L.flatMap g) ∧ ∀ q ∈ L,ok q := by
 have each : ∀ k, k ≤ n → ∃ L : List α, L.length = k ∧ L.flatMap g = (List.range k).flatMap f ∧ ∀ q ∈ L, ok q := by
  intro k
  induction k with
  | zero => exact fun _ => ⟨[],rfl,rfl,by simp⟩
  | succ k ih =>
   intro hk
   obtain ⟨L,h1,h2,h3⟩ := ih (by omega)
   obtain ⟨x,hx,hox⟩ := hfit _ (hf k (by omega))
   refine ⟨L ++ [x], by simp [h1], ?_, fun q hq => ?_⟩
   ·rw [List.flatMap_append,h2,List.range_succ,List.flatMap_append]
    simp [hx]
   ·rcases List.mem_append.1 hq with hq | hq
    ·exact h3 q hq
    ·simp at hq; subst hq; exact hox
 obtain ⟨L,h1,h2,h3⟩ := each n (Nat.le_refl _)
 refine ⟨L,?_,h3⟩
 rw [h1,h2]
 exact h
theorem RouteHolds_lifted (os : Os) (started : os.Started) (H : Type) (enc : TypeId × Value → H) :
  ReturnsInHanded {} Tryz.checked os 5 .any (Rows.routeHoldsSpec.pre6 enc Tryz.prog Tryz.f5 Rows.routeHoldsRow.domain false) (Rows.routeHoldsSpec.post enc Tryz.prog Tryz.f5 false true false false) := by
 refine returnsInHanded_of_change (C := Tryz.checked) Tryz.own started (by kernel_rfl) Tryz.func5
  (ChangeSpec.witness6 (enc := enc) (C := Tryz.checked) false ⟨#[],#[.agg #[.slice none 0 0,.slice none 0 0],.agg #[.int .u32 0,.int .u32 0,.int .u64 0,.int .u64 0,.int .i64 0,.slice none 0 0],.agg #[.int .u64 0,.int .i64 0]],[]⟩ 8 (by kernel_rfl) (by kernel_rfl) (by kernel_rfl) (by kernel_rfl)) ?_
 intro W base args ds gs before hval0 hW hcnd _
 have hval : ∀ (j : Nat) t v,Tryz.f5.params[j]? = some t → args[j]? = some v → Value.okWide Tryz.prog W .any base t v := hval0
 have hW' := hW
 have hlt := fun p hp => hW.lt p hp
 obtain ⟨p,q,hA0,hV,rfl,hfz,hnd⟩ := hW
 have hA : DataW.TrodAll enc Tryz.prog W 0 (fun _ => true) true Tryz.f5.params.toList args.toList ds p := hA0
 rw [Tryz.params5] at hA hval
 obtain ⟨v0,v1,v2,d0,d1,d2,p0,p1,p2,rfl,rfl,rfl,h0,h1,h2⟩ := trodAll_three hA
 obtain ⟨rfl,rfl⟩ := trodVars_none hV
 obtain ⟨vP,vS,P,S,rfl,hs⟩ := open_setup (hval 0 25 v0 rfl rfl) h0
 obtain ⟨qu,nv,rfl,hq,hn⟩ := open_quest (hval 1 29 v1 rfl rfl) h1
 obtain ⟨u,k,rfl,hu,hk⟩ := open_ask h2
 refine Calls.mono (calls_of_FN Tryz.func5 rfl rfl (RouteHolds_c hs hq hn u k hu.1)) fun e W' ⟨he,hw⟩ => ?_
 subst he
 have h0' := Below.trod Tryz.laidOut (by kernel_rfl) (by decide +kernel) h0 (below_of_ext hw) (fun x hx => hlt x (by simp [hx]))
 have h1' := Below.trod Tryz.laidOut (by kernel_rfl) (by decide +kernel) h1 (below_of_ext hw) (fun x hx => hlt x (by simp [hx]))
 have h2' := Below.trod Tryz.laidOut (by kernel_rfl) (by decide +kernel) h2 (below_of_ext hw) (fun x hx => hlt x (by simp [hx]))
 have hargs := trodAll_mk3 h0' h1' h2'
 refine ⟨_,rfl,_,[],_,[],_,[],hW',?_,hargs,rfl,kept_of_ext hw _,fun h => by cases h⟩
 exact trodAll_mk1 (shut_bool Tryz.underlying4)
theorem RouteHolds_holds : Rows.RouteHoldsSaid :=
 OpenClaim.holds_of_wide 5 Tryz.f5 rfl rfl rfl rfl rfl rfl rfl ⟨rfl, rfl, rfl, rfl, rfl⟩ rfl rfl rfl rfl rfl (by kernel_rfl) Tryz.func5 (by kernel_rfl)
  (of_decide_eq_true (by kernel_rfl)) (by unfold Func.isWrapper; first | (rw [if_pos (by decide +kernel)]; kernel_rfl) | (rw [if_neg (by decide +kernel)]; exact ⟨rfl,rfl⟩))
  (fun os started H enc _ => RouteHolds_lifted os started H enc)
end Go.Proofs.YtdflcfoalhhjlaaGreat