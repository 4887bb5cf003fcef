/-
 Contracts of the functions that the law reaches,step by step.
-/
import Derived.Test.YtdflcfoalhhjlaaGreatRows
import Derived.Test.YtdflcfoalhhjlaaGreatRvC
import Derived.Test.YtdflcfoalhhjlaaGreatRuN
namespace Go.Proofs.YtdflcfoalhhjlaaGreat
open Go.ChangeShapes Go.WideShapes Go.ChangeAt Go.RowKit Go.Deep Pk
set_option maxRecDepth 100000
theorem Tryz.own : ownKnob Tryz.prog.godebug = none := by kernel_rfl
theorem Tryz.laidOut : laidOutB Tryz.prog = true := by kernel_rfl
theorem kept_of_ext {w w' : World} (h : Ext w w') (may : MemPlace → Prop) : w.keptBut w' may := by
 refine ⟨h.os,h.out,fun i hi => ?_⟩
 rw [h.blk i hi]
 cases w.heap[i]? with
 | none => rfl
 | some o => cases o <;> simp
theorem shut_bool {H : Type} {enc : TypeId × Value → H} {P : Program} {w : World} {base : Nat} {spare : Nat → Bool} {held : Bool} {t : TypeId} {b : Bool} (ht : P.underlying t = some .bool) : DataW.Trod enc P w base spare held t (.bool b) (.lit (.bool b)) [] :=
 ⟨1,by simp [DataW.trod,Value.cells,ht]⟩
theorem below_of_ext {w w' : World} (h : Ext w w') : Go.RowKit.Below w.heap.size w w' := ⟨h.os,h.tape,h.out,h.size,h.blk⟩
theorem fit_int {cs : List Value} {ks : List CK} {q : IntKind} (h : Fit (.int q :: ks) cs) : ∃ (x : Int) (cs' : List Value), cs = .int q x :: cs' ∧ (Lit.int q x).wf = true ∧ Fit ks cs' := by
 obtain ⟨v1,c1,e1,⟨x,f1,w1⟩,h⟩ := h.cons
 exact ⟨x,c1,by rw [e1,f1],w1,h⟩
theorem fit_bool {cs : List Value} {ks : List CK} (h : Fit (.bool :: ks) cs) : ∃ (x : Bool) (cs' : List Value), cs = .bool x :: cs' ∧ Fit ks cs' := by
 obtain ⟨v1,c1,e1,⟨x,f1⟩,h⟩ := h.cons
 exact ⟨x,c1,by rw [e1,f1],h⟩
theorem open_els {α : Type} (g : α → List Value) (ok : α → Prop) {s : Nat} {l : List CK} {W : World} {v : Value} {n : Nat} {f : Nat → List Value} (hfit : ∀ cs, Fit l cs → ∃ x, cs = g x ∧ ok x) (h : SlA W s v n ((List.range n).flatMap f)) (hf : ∀ i, i < n → Fit l (f i)) :
  ∃ L : List α,SlA W s v L.length (L.flatMap g) ∧ ∀ q ∈ L,ok q := by
 have each : ∀ k, k ≤ n → ∃ L : List α, L.length = k ∧ L.flatMap g = (List.range k).flatMap f ∧ ∀ q ∈ L, ok q := by
  intro k
  induction k with
  | zero => exact fun _ => ⟨[],rfl,rfl,by simp⟩
  | succ k ih =>
   intro hk
   obtain ⟨L,h1,h2,h3⟩ := ih (by omega)
   obtain ⟨x,hx,hox⟩ := hfit _ (hf k (by omega))
   refine ⟨L ++ [x], by simp [h1], ?_, fun q hq => ?_⟩
   ·rw [List.flatMap_append,h2,List.range_succ,List.flatMap_append]
    simp [hx]
   ·rcases List.mem_append.1 hq with hq | hq
    ·exact h3 q hq
    ·simp at hq; subst hq; exact hox
 obtain ⟨L,h1,h2,h3⟩ := each n (Nat.le_refl _)
 refine ⟨L,?_,h3⟩
 rw [h1,h2]
 exact h
theorem fit_way {cs : List Value} (h : Fit [.int .u64, .int .i64, .int .u32, .int .u32, .int .u32, .int .u64, .int .u64, .int .u64] cs) : ∃ x : Wy, cs = wyC x ∧ True := by
 obtain ⟨a0,c0,rfl,w0,h⟩ := fit_int h
 obtain ⟨a1,c1,rfl,w1,h⟩ := fit_int h
 obtain ⟨a2,c2,rfl,w2,h⟩ := fit_int h
 obtain ⟨a3,c3,rfl,w3,h⟩ := fit_int h
 obtain ⟨a4,c4,rfl,w4,h⟩ := fit_int h
 obtain ⟨a5,c5,rfl,w5,h⟩ := fit_int h
 obtain ⟨a6,c6,rfl,w6,h⟩ := fit_int h
 obtain ⟨a7,c7,rfl,w7,h⟩ := fit_int h
 rw [h.nil]
 exact ⟨⟨a0,a1,a2,⟨a3,a4,a5,a6,a7⟩⟩,rfl,trivial⟩
theorem fit_u32 {cs : List Value} (h : Fit [.int .u32] cs) : ∃ x : Int, cs = [u32 x] ∧ True := by
 obtain ⟨a0,c0,rfl,w0,h⟩ := fit_int h
 rw [h.nil]
 exact ⟨a0,rfl,trivial⟩
theorem flat_u32 (l : List Int) : l.flatMap (fun x => [u32 x]) = l.map u32 := by
 induction l with
 | nil => rfl
 | cons a b ih => simp [ih]
theorem RoutePicks_lifted (os : Os) (started : os.Started) (H : Type) (enc : TypeId × Value → H) :
  ReturnsInHanded {} Tryz.checked os 6 .any (Rows.routePicksSpec.pre6 enc Tryz.prog Tryz.f6 Rows.routePicksRow.domain false) (Rows.routePicksSpec.post enc Tryz.prog Tryz.f6 false true false false) := by
 refine returnsInHanded_of_change (C := Tryz.checked) Tryz.own started (by kernel_rfl) Tryz.func6
  (ChangeSpec.witness6 (enc := enc) (C := Tryz.checked) false ⟨#[],#[.slice none 0 0,.slice none 0 0],[]⟩ 8 (by kernel_rfl) (by kernel_rfl) (by kernel_rfl) (by kernel_rfl)) ?_
 intro W base args ds gs before hval0 hW hcnd _
 have hval : ∀ (j : Nat) t v,Tryz.f6.params[j]? = some t → args[j]? = some v → Value.okWide Tryz.prog W .any base t v := hval0
 have hW' := hW
 have hlt := fun p hp => hW.lt p hp
 obtain ⟨p,q,hA0,hV,rfl,hfz,hnd⟩ := hW
 have hA : DataW.TrodAll enc Tryz.prog W 0 (fun _ => true) true Tryz.f6.params.toList args.toList ds p := hA0
 rw [Tryz.params6] at hA hval
 obtain ⟨v0,v1,d0,d1,p0,p1,rfl,rfl,rfl,h0,h1⟩ := trodAll_two hA
 obtain ⟨rfl,rfl⟩ := trodVars_none hV
 obtain ⟨x0,len0,cap0,rfl⟩ := okWide_slice Tryz.underlying48 (hval 0 48 v0 rfl rfl)
 obtain ⟨x1,len1,cap1,rfl⟩ := okWide_slice Tryz.underlying75 (hval 1 75 v1 rfl rfl)
 obtain ⟨f0,hf0⟩ := h0
 obtain ⟨f1,hf1⟩ := h1
 obtain ⟨n0,g0,s0,t0⟩ := open_rawC (m := 5) (l := [.int .u64,.int .i64,.int .u32,.int .u32,.int .u32,.int .u64,.int .u64,.int .u64]) (e := 66) Tryz.underlying48 (by kernel_rfl) (by kernel_rfl) (by decide) hf0
 obtain ⟨n1,g1,s1,t1⟩ := open_rawC (m := 4) (l := [.int .u32]) (e := 26) Tryz.underlying75 (by kernel_rfl) (by kernel_rfl) (by decide) hf1
 obtain ⟨l,q0,-⟩ := open_elsB wyC (fun _ => True) (fun _ => fit_way) s0 t0
 obtain ⟨but,q1,-⟩ := open_elsB (fun x => [u32 x]) (fun _ => True) (fun _ => fit_u32) s1 t1
 have q1' : SlB W 1 (.slice x1 len1 cap1) but.length (but.map u32) := by
  rw [← flat_u32 but]; exact q1
 refine Calls.mono (calls_of_FN Tryz.func6 rfl rfl (RoutePicks_c q0 q1')) fun e W' ⟨he,hw⟩ => ?_
 subst he
 have h0' := Below.trod Tryz.laidOut (by kernel_rfl) (by decide +kernel) ⟨f0,hf0⟩ (below_of_ext hw) (fun x hx => hlt x (by simp [hx]))
 have h1' := Below.trod Tryz.laidOut (by kernel_rfl) (by decide +kernel) ⟨f1,hf1⟩ (below_of_ext hw) (fun x hx => hlt x (by simp [hx]))
 have hargs := trodAll_mk2 h0' h1'
 refine ⟨_,rfl,_,[],_,[],_,[],hW',?_,hargs,rfl,kept_of_ext hw _,fun h => by cases h⟩
 exact trodAll_mk1 (shut_bool Tryz.underlying4)
theorem RoutePicks_holds : Rows.RoutePicksSaid :=
 OpenClaim.holds_of_wide 6 Tryz.f6 rfl rfl rfl rfl rfl rfl rfl ⟨rfl, rfl, rfl, rfl, rfl⟩ rfl rfl rfl rfl rfl (by kernel_rfl) Tryz.func6 (by kernel_rfl)
  (of_decide_eq_true (by kernel_rfl)) (by unfold Func.isWrapper; first | (rw [if_pos (by decide +kernel)]; kernel_rfl) | (rw [if_neg (by decide +kernel)]; exact ⟨rfl,rfl⟩))
  (fun os started H enc _ => RoutePicks_lifted os started H enc)
end Go.Proofs.YtdflcfoalhhjlaaGreat