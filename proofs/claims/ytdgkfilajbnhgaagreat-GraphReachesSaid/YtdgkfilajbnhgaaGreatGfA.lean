/-
 Contracts of the functions that the law reaches,step by step.
-/
import Derived.Test.YtdgkfilajbnhgaaGreatGeW
namespace Go.Proofs
open Pk
set_option maxRecDepth 10000
theorem mget_all {κ ν:Type} [DecidableEq κ] {m:List (κ × ν)} (hn:(m.map (·.1)).Nodup) (k:κ):k∈m.map (·.1)↔(mget m k).isSome=true:=by
 constructor
 ·intro h
  obtain ⟨x,hx,rfl⟩:=List.mem_map.1 h
  rw [mget_of_mem hn (k:=x.1) (x:=x.2) hx]
  rfl
 ·intro h
  obtain ⟨x,hx⟩:=Option.isSome_iff_exists.1 h
  exact List.mem_map.2 ⟨_,mget_mem hx,rfl⟩
theorem reach_get {L:List Ct} {snt:Ct→Int→Option Int} {q:Qu} {mm:KWML} {bm:List (Int × Wy)} (hS:Gr.Sn snt) (hA:L.Pairwise aheadP) (hb:badQ q=false) (h:ReachT L snt (firsts L q) q mm) (h':AllT L snt (firsts L q) q (Nat.min L.length q.most.toNat) bm) (n:Int):mget mm n=mget bm n:=by
 have hF:=firsts_apart hA q
 cases hm:mget mm n with
 | some x =>
  obtain ⟨h1,t,h2,rfl⟩:=h.is n x hm
  have h3:=h2.less hS (firsts_sub L q)
  have h4:=h'.has t h3.wk h3.h (by rw [h3.at_]; exact h1)
  rw [h3.at_] at h4
  obtain ⟨y,hy⟩:=Option.isSome_iff_exists.1 h4
  obtain ⟨h5,t',h6,rfl⟩:=h'.is n y hy
  rw [hy,h3.uniq hF h6]
 | none =>
  cases hy:mget bm n with
  | none=>rfl
  | some y =>
   obtain ⟨h5,t',h6,rfl⟩:=h'.is n y hy
   have h4:=h.has hb t' h6.wk (Nat.le_trans h6.h (Nat.min_le_right _ _)) (by rw [h6.at_]; exact h5)
   rw [h6.at_,hm] at h4
   cases h4
theorem reach_same {L:List Ct} {snt:Ct→Int→Option Int} {q:Qu} {mm:KWML} {A:List Int} {B:List Wy} {ys:List Int} (hS:Gr.Sn snt) (hA:L.Pairwise aheadP) (hn:(mm.map (·.1)).Nodup) (h:ReachT L snt (firsts L q) q mm) (h':RdR L snt (firsts L q) q (Nat.min L.length q.most.toNat) A B) (hy:kWisKeys mm ys) :
  ys=A∧B=A.map (fun n=>(mget mm n).getD wyZ)∧∀ n∈A,(mget mm n).isSome=true:=by
 cases hb:badQ q with
 | true =>
  have h1:=h.bad hb
  obtain ⟨h2,h3⟩:=h'.bad hb
  subst h1 h2 h3
  exact ⟨by simpa using hy.1,rfl,by simp⟩
 | false =>
  obtain ⟨bm,h1,h2,h3,h4⟩:=h'.ok hb
  have hg:=reach_get hS hA hb h h2
  have hp:(mm.map (·.1)).Perm (bm.map (·.1)):=(List.perm_ext_iff_of_nodup hn h1).2 fun k=>by rw [mget_all hn,mget_all h1,hg]
  have hyA:ys=A:=kWuniq (m:=bm) ⟨hy.1.trans hp,hy.2⟩ h3
  refine ⟨hyA,?_,fun n hn'=>?_⟩
  ·rw [h4]
   exact List.map_congr_left fun n _=>by rw [hg]
  ·rw [hg,← mget_all h1]
   exact h3.1.mem_iff.1 hn'
end Go.Proofs