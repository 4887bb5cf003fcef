/-
 Some facts of the engine that only the texts behind need.
-/
import Derived.Test.YtdgkfilajbnhgaaGreatGeJ
import Derived.Test.YtdgkfilajbnhgaaGreatEngR
namespace Pk
open Go Go.WideShapes Go.Deep Go.ChangeShapes
section
variable (P : Program) (w : World) (t : TypeId)
theorem isBoolT_inv {d : Option TypeDesc} (h : isBoolT d = true) : d = some .bool := by
 cases d with
 | none => cases h
 | some d => cases d <;> first | (cases h; done) | rfl
theorem q_bool (a b : Bool) (d : Nat) (h : isBoolT (P.underlying t) = true) : (Op.equalIn (d + 1) t (.bool a) (.bool b)).run P w = .ok (a == b) w := by
 have h' := run_und (isBoolT_inv h) w
 simp only [Op.equalIn,Sem.run_bind,h',Result.andThen_ok,Sem.run_pure]
@[simp] theorem b_neq_bool (a b : Bool) (h : isBoolT (P.underlying t) = true) : (binOp .neq t (.bool a) (.bool b)).run P w = .ok (.bool (!(a == b))) w := by
 simp only [binOp,Op.equal,Op.maxDepth,Sem.run_bind,q_bool P w t _ _  9999 h,Result.andThen_ok,Sem.run_pure]
end
section
variable {H : Type} {enc : TypeId × Value → H} {P : Program}
theorem agg_of {v a b : Value} {l : List Value} (h : v.cells.toList = a :: b :: l) : v = .agg (a :: b :: l).toArray := by
 cases v with
 | agg cs =>
  have : cs.toList = a :: b :: l := h
  rw [← this]
 | _ => simp [Value.cells] at h
theorem open_flat {W : World} {v : Value} {d : DataW H} {ps : List MemPlace} {t : TypeId} {m : Nat} {l : List CK} (hl : flat P m t = some l) (h : DataW.Trod enc P W 0 (fun _ => true) true t v d ps) : Fit l v.cells.toList := by
 obtain ⟨fuel,hf⟩ := h
 exact trod_flat m t l hl _ _ _ hf
end
end Pk
namespace Go.Proofs
open Pk
set_option maxRecDepth 10000
end Go.Proofs
namespace Go.Proofs
open Pk
set_option maxRecDepth 10000
theorem firsts_sub (L : List Ct) (q : Qu) : ∀ f ∈ firsts L q,f ∈ L := fun f hf => (List.mem_filter.1 (List.mem_filter.1 hf).1).1
end Go.Proofs
namespace Go.Proofs
open Pk
set_option maxRecDepth 10000
theorem firsts_apart {L : List Ct} (h : L.Pairwise aheadP) (q : Qu) : Gr.FApart (firsts L q) := by
 intro f hf g hg e1 e2
 have hfl := firsts_sub L q f hf
 have hgl := firsts_sub L q g hg
 have ff : f.fr = q.fr := by simpa using (List.mem_filter.1 (List.mem_filter.1 hf).1).2
 have gg : g.fr = q.fr := by simpa using (List.mem_filter.1 (List.mem_filter.1 hg).1).2
 obtain ⟨i,hi,rfl⟩ := List.getElem_of_mem hfl
 obtain ⟨j,hj,rfl⟩ := List.getElem_of_mem hgl
 rcases Nat.lt_trichotomy i j with k | k | k
 ·have := List.pairwise_iff_getElem.1 h i j hi hj k
  unfold aheadP at this
  omega
 ·subst k; rfl
 ·have := List.pairwise_iff_getElem.1 h j i hj hi k
  unfold aheadP at this
  omega
end Go.Proofs