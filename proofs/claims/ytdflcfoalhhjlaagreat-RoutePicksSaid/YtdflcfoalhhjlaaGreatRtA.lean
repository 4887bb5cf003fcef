/-
 Ways one by one,plain: best ways,each with another first contact than those ahead.
-/
import Derived.Test.YtdflcfoalhhjlaaGreatAmO
import Derived.Test.YtdflcfoalhhjlaaGreatGdJ
import Derived.Test.YtdflcfoalhhjlaaGreatGdP
namespace Go.Proofs.Gr
section
variable (L : List Ct) (snt : Ct → Int → Option Int) (fr at0 : Int) (K : Nat) (to' til : Int)
def Fs (no : List Ct) : List Ct := L.filter fun c => decide (c.fr = fr) && !decide (c ∈ no)
inductive Wys : List Ct → List Tl → Prop
 | nil (no : List Ct) (h : (∃ t,BestOf L snt (Fs L fr no) at0 K to' t ∧ til ≤ t.a) ∨ ∀ y,Wk L snt (Fs L fr no) at0 y → y.h ≤ K → y.n ≠ to') : Wys no []
 | cons (no : List Ct) (t : Tl) (l : List Tl) (h : BestOf L snt (Fs L fr no) at0 K to' t) (ht : t.a < til) (hl : Wys (no ++ [t.f]) l) : Wys no (t :: l)
end
variable {L : List Ct} {snt snt' : Ct → Int → Option Int} {fr at0 : Int} {K : Nat} {to' til : Int}
theorem mem_Fs {no : List Ct} {c : Ct} : c ∈ Fs L fr no ↔ c ∈ L ∧ c.fr = fr ∧ c ∉ no := by
 unfold Fs
 simp [List.mem_filter]
theorem Wk.sub {F F' : List Ct} {x : Tl} (h : Wk L snt F at0 x) (hx : x.f ∈ F') : Wk L snt F' at0 x := by
 induction h with
 | one f a hf hs => exact .one f a hx hs
 | step x c b hx' hc hn hs ih => exact .step x c b (ih hx) hc hn hs
theorem Fs_apart (hA : FApart (Fs L fr [])) (no : List Ct) : FApart (Fs L fr no) := fun f hf g hg h1 h2 =>
 hA f (mem_Fs.2 ⟨(mem_Fs.1 hf).1,(mem_Fs.1 hf).2.1,by simp⟩) g (mem_Fs.2 ⟨(mem_Fs.1 hg).1,(mem_Fs.1 hg).2.1,by simp⟩) h1 h2
end Go.Proofs.Gr
namespace Go.Proofs
open Pk
set_option maxRecDepth 10000
end Go.Proofs
namespace Go.Proofs
open Pk
set_option maxRecDepth 10000
theorem firsts_Fs (L : List Ct) (q : Qu) : firsts L q = Gr.Fs L q.fr q.no := by
 unfold firsts fromL Gr.Fs
 rw [List.filter_filter]
 refine List.filter_congr fun c _ => ?_
 exact Bool.and_comm _ _
abbrev qNo (q : Qu) (no : List Ct) : Qu := { q with no := no }
abbrev WaysOf (L : List Ct) (snt : Ct → Int → Option Int) (q : Qu) (til : Int) : List Ct → List Tl → Prop := Gr.Wys L snt q.fr q.at_ q.most.toNat q.to' til
theorem way_none {L : List Ct} {snt : Ct → Int → Option Int} {q : Qu} {no : List Ct} {x : Wy} {n til : Int} (hb : (badQ q || badE q) = false) (h : BestT L snt (firsts L (qNo q no)) (qNo q no) x n) (hn : n = 0 → til ≤ x.a) : WaysOf L snt q til no [] := by
 rw [firsts_Fs] at h
 rcases h.ok hb with ⟨t, h1, rfl, h2⟩ | ⟨h1, -, -⟩
 ·exact .nil no (.inl ⟨t,h1,hn h2⟩)
 ·exact .nil no (.inr h1)
end Go.Proofs