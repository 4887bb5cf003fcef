/-
 Contracts of the functions that the law reaches,step by step.
-/
import Derived.Test.YtdflcfoalhhjlaaGreatRuQ
import Derived.Test.YtdflcfoalhhjlaaGreatRtA
namespace Go.Proofs
open Pk
set_option maxRecDepth 10000
theorem kys_same {M M' : ME} {sl : List St} (h : RelT M sl) (h' : RelT M' sl) (hn : ∀ q, ((sps M q).map (·.1)).Nodup) (hn' : ∀ q, ((sps M' q).map (·.1)).Nodup) (f g : Int) : kys (sps M' (f, g)) = kys (sps M (f, g)) := by
 refine isKeys.uniq (m := sps M (f,g)) ⟨(kys_ok _).1.trans ?_,(kys_ok _).2⟩ (kys_ok _)
 rw [List.perm_ext_iff_of_nodup (hn' _) (hn _)]
 intro k
 rw [isKey h',isKey h]
theorem gSnt_same {M M' : ME} {sl : List St} (h : RelT M sl) (h' : RelT M' sl) (hn : ∀ q, ((sps M q).map (·.1)).Nodup) (hn' : ∀ q, ((sps M' q).map (·.1)).Nodup) (m : VM) (n : Int) : gSnt M' m n = gSnt M m n := by
 funext c a
 have hl : lnd (sps M' (c.fr,c.to')) = lnd (sps M (c.fr,c.to')) := by funext x; rw [h.lnd,h'.lnd]
 have hk := kys_same h h' hn hn' c.fr c.to'
 unfold gSnt sentO
 rw [sentB_f,sentB_f,hl,hk]
theorem ways_ord {L : List Ct} {snt : Ct → Int → Option Int} {q : Qu} {til : Int} {no : List Ct} {l : List Tl} (h : WaysOf L snt q til no l) {i j : Nat} (hi : i < l.length) (hj : j < l.length) (hji : j < i) : ¬ wyLt (tlWy l[i]) (tlWy l[j]) := by
 rw [wy_key]
 exact List.pairwise_iff_getElem.1 (Gr.Wys.sorted h) j i hj hi hji
theorem ways_fst {L : List Ct} {snt : Ct → Int → Option Int} {q : Qu} {til : Int} {no : List Ct} {l : List Tl} (h : WaysOf L snt q til no l) {i j : Nat} (hi : i < l.length) (hj : j < l.length) (hji : j < i) : ¬ l[j].f = l[i].f := by
 have := List.pairwise_iff_getElem.1 (Gr.Wys.firsts h) j i (by simpa using hj) (by simpa using hi) hji
 simpa using this
theorem ways_at {L : List Ct} {snt : Ct → Int → Option Int} {q : Qu} {til : Int} {no : List Ct} {l : List Tl} (h : WaysOf L snt q til no l) {i : Nat} (hi : i < l.length) : l[i].a < til ∧ l[i].f.fr = q.fr ∧ l[i].f ∈ L := by
 obtain ⟨h1,h2,h3,h4,h5⟩ := Gr.Wys.mem h l[i] (List.getElem_mem hi)
 have := Gr.mem_Fs.1 h2
 exact ⟨h5,this.2.1,this.1⟩
theorem WaysT.all {L : List Ct} {snt : Ct → Int → Option Int} {q : Qu} {til : Int} {l : List Tl} {n : Int} (h : WaysT L snt q til 32 l n) (hL : L.length ≤ 12) (hb : badM q til 32 = false) : WaysOf L snt q til q.no l := by
 obtain ⟨h1,h2,h3,h4⟩ := h.ok hb
 have := h1.len
 exact h3 (by omega)
theorem ways_worse {L : List Ct} {M M' : ME} {sl : List St} {q : Qu} {til : Int} {l l' : List Tl} {c : Ct} {m : VM} {n : Int} (hg : gdT M) (hm : vmOk m) (hn0 : 0 ≤ n) (h : RelT M sl) (h' : RelT M' sl) (hn : ∀ q, ((sps M q).map (·.1)).Nodup) (hn' : ∀ q, ((sps M' q).map (·.1)).Nodup)
  (hl : WaysOf L (gSnt M m q.size) q til q.no l) (hl' : WaysOf L (gSnt M' (bookM m c n) q.size) q til q.no l') {i : Nat} (hi : i < l'.length) : ∃ hil : i < l.length,¬ wyLt (tlWy l'[i]) (tlWy l[i]) := by
 rw [gSnt_same h h' hn hn'] at hl'
 obtain ⟨h1,h2⟩ := Gr.Wys.worse (gSnt_sn hg m q.size) (later_book hm hn0 q.size) hl hl' hi
 exact ⟨h1,by rw [wy_key]; exact h2⟩
end Go.Proofs