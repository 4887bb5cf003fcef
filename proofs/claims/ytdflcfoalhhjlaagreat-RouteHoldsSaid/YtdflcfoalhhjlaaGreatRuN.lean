/-
 Contracts of the functions that the law reaches,step by step.
-/
import Derived.Test.YtdflcfoalhhjlaaGreatRuL
import Derived.ProofKit
import Derived.OpenShut
namespace Go.Proofs
open Pk
set_option maxRecDepth 10000
theorem rlg_keep {w w' : World} {v : Value} {l : List LR} {S : Nat → Prop} {b : Nat} (h : RLg w v l) (hv : v = .slice none 0 0 ∨ b ≤ slB v) (hM : Mod S w w') (hS : ∀ k, b ≤ k → ¬ S k) : RLg w' v l :=
 Sl.keepN h fun hn a u ha hu => hM.cell hu (by
  rcases hv with rfl | hv
  ·exact (hn (List.eq_nil_of_length_eq_zero (by
    have := h.len
    obtain ⟨_,_,e⟩ := h.isSlice
    injection e with e1 e2 e3
    rw [this,← e2,Nat.zero_mul]))).elim
  ·exact hS _ (by rw [ha]; exact hv))
set_option maxHeartbeats 4000000 in
theorem RouteTakes_c {w : World} {c : Ct} {ahead size : Int} (hc : CtOk c) (ha : 0 ≤ ahead) (hs : 0 ≤ size) :
  FN Tryz.prog 4 [ctV c,u64 ahead,u64 size] w fun e w' => e = .returned (.bool true) ∧ Ext w w' := by
 refine FN_enter Tryz.func4 rfl rfl (by kernel_rfl) ?_
 have hE0 : Ext w (w.alloc (.cells #[u32 c.fr,u32 c.to',u64 c.sf,u64 c.su,u64 c.rate] 64)) := (Ext.refl w).alloc _
 have k0 : Blk (w.alloc (.cells #[u32 c.fr,u32 c.to',u64 c.sf,u64 c.su,u64 c.rate] 64)) w.heap.size (ctC c) := Blk.new w (ctC c) 64
 simp
 generalize (w.alloc (.cells #[u32 c.fr,u32 c.to',u64 c.sf,u64 c.su,u64 c.rate] 64)) = w0 at *
 refine FN.mono (vnew_c w0) ?_
 rintro _ w1 ⟨q,r,rfl,hL1,hE1,y1,y2⟩
 have hE2 : Ext w1 (w1.alloc (.cells #[.slice none 0 0] 41)) := (Ext.refl w1).alloc _
 have k2 : Blk (w1.alloc (.cells #[.slice none 0 0] 41)) w1.heap.size [.slice none 0 0] := Blk.new w1 _ 41
 have hvm : vmOk [] := fun x hx => (by cases hx)
 have hrl := hL1.lt.2
 have k0l := k0.lt
 simp [(k0.ext hE1).cell 0 _ rfl,(k0.ext hE1).cell 1 _ rfl,(k0.ext hE1).cell 2 _ rfl,(k0.ext hE1).cell 3 _ rfl,(k0.ext hE1).cell 4 _ rfl]
 generalize (w1.alloc (.cells #[.slice none 0 0] 41)) = w2 at *
 refine FN.mono (book_c (hL1.ext hE2) hvm hc ha) ?_
 rintro _ w3 ⟨rfl,hL3,hM3⟩
 have k2' := k2.mod hM3 (by omega)
 have k0' := ((k0.ext hE1).ext hE2).mod hM3 (by omega)
 simp [(k0').cell 0 _ rfl,(k0').cell 1 _ rfl,(k0').cell 2 _ rfl,(k0').cell 3 _ rfl,(k0').cell 4 _ rfl,k2'.cell 0 _ rfl]
 refine FN.mono (lbook_c (Sl.nil _ _ _) RelL.nil hvm hc (by simp) ha) ?_
 rintro _ w4 ⟨v1,rfl,hR1,hv1,hE4⟩
 have hv1' : v1 = .slice none 0 0 ∨ w3.heap.size ≤ slB v1 := by
  rcases hv1 with h | h | h
  ·exact .inl h
  ·exact .inl h
  ·exact .inr h
 obtain ⟨a1,d1,rfl⟩ := hR1.isSlice
 have hrel1 := RelL.nil.book c ahead
 have hvm1 := bookM_ok hvm hc ha
 have hlen1 := bookL_len (m := []) (l := []) c ahead
 have k2'' := k2'.ext hE4
 have hMs := Mod.setCell (S := fun k => k = w1.heap.size) (Mod.refl _ w4) ⟨w1.heap.size,0,none⟩ (.slice a1 (bookL [] [] c ahead).length d1) (.inl rfl)
 have k5 := k2''.set 0 (.slice a1 (bookL [] [] c ahead).length d1)
 have k0'' := (k0'.ext hE4).mod hMs (by omega)
 have hR5 := rlg_keep hR1 hv1' hMs fun k hk e => by have := k2'.lt; omega
 have hL5 := (hL3.ext hE4).mod hMs (by have := hL1.lt; omega) (by omega)
 have hX5 : Ext w (w4.setCell ⟨w1.heap.size,0,none⟩ (.slice a1 (bookL [] [] c ahead).length d1)) := (((hE0.trans (hE1.trans hE2)).mod (S := fun k => w.heap.size ≤ k)).trans ((hM3.weaken fun k hk => by have := hE0.size; omega).trans (hE4.mod.trans (hMs.weaken fun k hk => by have := hE0.size; have := hE1.size; omega)))).ext fun _ h => h
 have z45 := hMs.size
 simp [k2''.cell 0 _ rfl,k2''.thaw,k5.cell 0 _ rfl,(k0'').cell 0 _ rfl,(k0'').cell 1 _ rfl,(k0'').cell 2 _ rfl,(k0'').cell 3 _ rfl,(k0'').cell 4 _ rfl]
 generalize (w4.setCell ⟨w1.heap.size,0,none⟩ (.slice a1 (bookL [] [] c ahead).length d1)) = w5 at *
 refine FN.mono (lbook_c hR5 hrel1 hvm1 hc (by simp at hlen1; omega) hs) ?_
 rintro _ w6 ⟨v2,rfl,hR6,hv6,hE6⟩
 obtain ⟨a2,d2,rfl⟩ := hR6.isSlice
 have hE7 : Ext w6 (w6.alloc (.cells #[.slice a2 (bookL (bookM [] c ahead) (bookL [] [] c ahead) c size).length d2] 41)) := (Ext.refl w6).alloc _
 have k7 : Blk (w6.alloc (.cells #[.slice a2 (bookL (bookM [] c ahead) (bookL [] [] c ahead) c size).length d2] 41)) w6.heap.size [.slice a2 (bookL (bookM [] c ahead) (bookL [] [] c ahead) c size).length d2] := Blk.new w6 _ 41
 simp [(k0''.ext hE6).cell 0 _ rfl,(k0''.ext hE6).cell 1 _ rfl,(k0''.ext hE6).cell 2 _ rfl,(k0''.ext hE6).cell 3 _ rfl,(k0''.ext hE6).cell 4 _ rfl]
 generalize (w6.alloc (.cells #[.slice a2 (bookL (bookM [] c ahead) (bookL [] [] c ahead) c size).length d2] 41)) = w7 at *
 have hX57 := hE6.trans hE7
 refine FN.mono (take_c (x := ⟨0,1,c.to',c⟩) (n := size) (hL5.ext hX57) hvm1 hc hs) ?_
 rintro _ w8 ⟨rfl,hL8,hM8⟩
 have hrel2 := hrel1.book c size
 have hvm2 := bookM_ok hvm1 hc hs
 simp
 refine WC_drawC 17 (.F 0 <| .F 2 <| .C 1 <| .F 3 <| .F 4 <| .F 5 <| .F 6 <| .F 8 <| .F 9 <| .C 7 <| .C 10 <| .F 11 <| .F 12 <| .F 13 <| .F 14 <| .F 15 <| .F 16 <| .Z) (fun _ => false) rfl (by kernel_rfl) fun W hW => ?_
 have hEW : Ext w8 W := hW ▸ Ext.drew w8
 have hq5 := hL5.lt
 have k7W := (k7.mod hM8 (by have := hE6.size; omega)).ext hEW
 have k0W := ((k0''.ext hX57).mod hM8 (by omega)).ext hEW
 have hz5 : w3.heap.size ≤ w5.heap.size := Nat.le_trans hE4.size z45
 have hv6' : (Value.slice a2 (bookL (bookM [] c ahead) (bookL [] [] c ahead) c size).length d2) = .slice none 0 0 ∨ w3.heap.size ≤ slB (Value.slice a2 (bookL (bookM [] c ahead) (bookL [] [] c ahead) c size).length d2) := by
  rcases hv6 with h | h | h
  ·exact .inl h
  ·rw [h]; exact hv1'
  ·exact .inr (Nat.le_trans hz5 h)
 have hlen2 := bookL_len (m := bookM [] c ahead) (l := bookL [] [] c ahead) c size
 have hR8 := (rlg_keep (hR6.ext hE7) (b := w3.heap.size) hv6' hM8 fun k hk e => by have := hM3.size; have := hE2.size; omega).ext hEW
 have hX8 : Ext w W := (((hX5.trans hX57).mod (S := fun k => w.heap.size ≤ k)).trans ((hM8.weaken fun k hk => by have := hE0.size; omega).trans hEW.mod)).ext fun _ h => h
 simp
 refine FN.mono (knum_c (bookE (bookM [] c ahead) c size) W) ?_
 rintro _ _ ⟨rfl,rfl⟩
 rename_i W
 simp
 refine KR_same ?_
 simp [(k0W).cell 0 _ rfl,(k0W).cell 1 _ rfl,(k0W).cell 2 _ rfl,(k0W).cell 3 _ rfl,(k0W).cell 4 _ rfl,k7W.cell 0 _ rfl]
 refine FN.mono (vbooked_c (hL8.ext hEW) c hc) ?_
 rintro _ W2 ⟨rfl,hE9⟩
 simp
 refine KR_ext hE9 ?_
 simp
 refine FN.mono (lbooked_c (hR8.ext hE9) hrel2 c hc (by simp at hlen1; omega)) ?_
 rintro _ W3 ⟨rfl,hE10⟩
 simp
 refine KR_ext hE10 ?_
 simp [((k0W.ext hE9).ext hE10).cell 0 _ rfl,((k0W.ext hE9).ext hE10).cell 1 _ rfl,((k0W.ext hE9).ext hE10).cell 2 _ rfl,((k0W.ext hE9).ext hE10).cell 3 _ rfl,((k0W.ext hE9).ext hE10).cell 4 _ rfl]
 refine FN.mono (take_n W3 ⟨0,0,0,c⟩ size) ?_
 rintro _ W4 ⟨rfl,hE11⟩
 simp
 refine FN.mono (knum_c 1 W4) ?_
 rintro _ _ ⟨rfl,rfl⟩
 rename_i W4
 simp
 refine FN.mono (works_c W4) ?_
 rintro _ W5 ⟨rfl,hE12⟩
 simp
 exact hX8.trans (hE9.trans (hE10.trans (hE11.trans hE12)))
end Go.Proofs
namespace Go.Proofs
open Go.ChangeShapes Go.WideShapes Go.ChangeAt Go.RowKit Go.Deep Pk
set_option maxRecDepth 10000
section
variable {H : Type} {enc : TypeId × Value → H} {P : Program}
theorem open_rawB {W : World} {x : DataW H × List MemPlace} {fuel : Nat} {a : Option Addr} {len cap : Nat} {t e : TypeId} {m : Nat} {l : List CK} (ht : P.underlying t = some (.slice e)) (hl : flat P m e = some l) (hc : P.cellsOf e = l.length) (h0 : 0 < l.length)
  (hf : DataW.trod enc P W 0 (fun _ => true) true fuel t [.slice a len cap] = some x) :
  ∃ f : Nat → List Value,SlB W l.length (.slice a len cap) len ((List.range len).flatMap f) ∧ ∀ i,i < len → Fit l (f i) := by
 rcases open_slice ht hf with ⟨h1, -⟩ | ⟨a', len', cap', m', n, D, Pl, h1, hb, hle, hm, hmm, hx, hel⟩
 ·simp at h1
  obtain ⟨rfl,rfl,rfl⟩ := h1
  exact ⟨fun _ => [],SlB.nil _ _ _,fun i hi => by omega⟩
 ·simp at h1
  obtain ⟨rfl,rfl,rfl⟩ := h1
  simp at hmm
  subst hmm
  have each : ∀ i, i < len → ∃ cs : List Value, Fit l cs ∧ ∀ j u, cs[j]? = some u → W.cell? (a'.add (i * l.length + j)) = some u := by
   intro i hi
   obtain ⟨cs',h2,h3⟩ := hel i (by omega)
   rw [hc] at h2
   obtain ⟨_,hlen,hcell⟩ := World.cells?_some h2
   refine ⟨cs',trod_flat m e l hl _ _ _ h3,fun j u hj => ?_⟩
   have hjl := (List.getElem?_eq_some_iff.1 hj).1
   have := hcell j (by omega)
   rw [add_add] at this
   rw [this]; exact hj
  obtain ⟨f,hfx⟩ := choose_lt each
  have hfl : ∀ i,i < len → (f i).length = l.length := fun i hi => ((hfx i hi).1.length).symm
  obtain ⟨g1,g2⟩ := flatMap_at f len hfl
  have hsp : 0 < len → ∃ b o, a' = ⟨b, o, none⟩ := by
   intro h
   have hl0 := hfl 0 h
   have := (hfx 0 h).2 0 (f 0)[0] (by simp [hl0,h0])
   obtain ⟨b,o,sp⟩ := a'
   cases sp with
   | none => exact ⟨b,o,rfl⟩
   | some s => simp [Addr.add,World.cell?] at this; split at this <;> simp_all
  refine ⟨f, ⟨g1, ⟨some a', _, rfl, hle, fun h => ?_⟩, ?_⟩, fun i hi => (hfx i hi).1⟩
  ·obtain ⟨b,o,rfl⟩ := hsp h
   exact ⟨b,o,rfl⟩
  ·intro j u hj
   have hjl := (List.getElem?_eq_some_iff.1 hj).1
   rw [g1] at hjl
   have hi : j / l.length < len := (Nat.div_lt_iff_lt_mul h0).2 hjl
   obtain ⟨b,o,rfl⟩ := hsp (Nat.lt_of_le_of_lt (Nat.zero_le _) hi)
   have hdm := Nat.div_add_mod j l.length
   have hml := Nat.mod_lt j h0
   have e : j / l.length * l.length + j % l.length = j := by rw [Nat.mul_comm]; exact hdm
   have h3 := g2 (j / l.length) (j % l.length) hi hml
   rw [e,hj] at h3
   have := (hfx _ hi).2 _ _ h3.symm
   rw [e] at this
   simpa [slB,slO] using this
theorem open_rawC {W : World} {x : DataW H × List MemPlace} {fuel : Nat} {b : Value} {t e : TypeId} {m : Nat} {l : List CK} (ht : P.underlying t = some (.slice e)) (hl : flat P m e = some l) (hc : P.cellsOf e = l.length) (h0 : 0 < l.length)
  (hf : DataW.trod enc P W 0 (fun _ => true) true fuel t [b] = some x) :
  ∃ (n : Nat) (f : Nat → List Value),SlB W l.length b n ((List.range n).flatMap f) ∧ ∀ i,i < n → Fit l (f i) := by
 have hb : ∃ x len cap, b = .slice x len cap := by
  rcases open_slice ht hf with ⟨h1, -⟩ | ⟨a', len', cap', m', n, D, Pl, h1, -⟩
  ·simp at h1; exact ⟨_,_,_,h1⟩
  ·simp at h1; exact ⟨_,_,_,h1⟩
 obtain ⟨x,len,cap,rfl⟩ := hb
 obtain ⟨f,h1,h2⟩ := open_rawB ht hl hc h0 hf
 exact ⟨len,f,h1,h2⟩
theorem open_elsB {α : Type} (g : α → List Value) (ok : α → Prop) {s : Nat} {l : List CK} {W : World} {v : Value} {n : Nat} {f : Nat → List Value} (hfit : ∀ cs, Fit l cs → ∃ x, cs = g x ∧ ok x) (h : SlB W s v n ((List.range n).flatMap f)) (hf : ∀ i, i < n → Fit l (f i)) :
  ∃ L : List α,SlB W s v L.length (L.flatMap g) ∧ ∀ q ∈ L,ok q := by
 have each : ∀ k, k ≤ n → ∃ L : List α, L.length = k ∧ L.flatMap g = (List.range k).flatMap f ∧ ∀ q ∈ L, ok q := by
  intro k
  induction k with
  | zero => exact fun _ => ⟨[],rfl,rfl,by simp⟩
  | succ k ih =>
   intro hk
   obtain ⟨L,h1,h2,h3⟩ := ih (by omega)
   obtain ⟨x,hx,hox⟩ := hfit _ (hf k (by omega))
   refine ⟨L ++ [x], by simp [h1], ?_, fun q hq => ?_⟩
   ·rw [List.flatMap_append,h2,List.range_succ,List.flatMap_append]
    simp [hx]
   ·rcases List.mem_append.1 hq with hq | hq
    ·exact h3 q hq
    ·simp at hq; subst hq; exact hox
 obtain ⟨L,h1,h2,h3⟩ := each n (Nat.le_refl _)
 refine ⟨L,?_,h3⟩
 rw [h1,h2]
 exact h
end
theorem fit_int {cs : List Value} {ks : List CK} {q : IntKind} (h : Fit (.int q :: ks) cs) : ∃ (x : Int) (cs' : List Value), cs = .int q x :: cs' ∧ (Lit.int q x).wf = true ∧ Fit ks cs' := by
 obtain ⟨v1,c1,e1,⟨x,f1,w1⟩,h⟩ := h.cons
 exact ⟨x,c1,by rw [e1,f1],w1,h⟩
theorem fit_ct {cs : List Value} (h : Fit [.int .u32, .int .u32, .int .u64, .int .u64, .int .u64] cs) : ∃ c : Ct, cs = ctC c ∧ CtOk c := by
 obtain ⟨a0,c0,rfl,w0,h⟩ := fit_int h
 obtain ⟨a1,c1,rfl,w1,h⟩ := fit_int h
 obtain ⟨a2,c2,rfl,w2,h⟩ := fit_int h
 obtain ⟨a3,c3,rfl,w3,h⟩ := fit_int h
 obtain ⟨a4,c4,rfl,w4,h⟩ := fit_int h
 rw [h.nil]
 exact ⟨⟨a0,a1,a2,a3,a4⟩,rfl,⟨bounds_u32 w0,bounds_u32 w1,bounds_u64 w2,bounds_u64 w3,bounds_u64 w4⟩⟩
theorem fit_st {cs : List Value} (h : Fit [.int .u32, .int .u32, .int .u64, .int .u64] cs) : ∃ s : St, cs = stCells s ∧ StOk s := by
 obtain ⟨a0,c0,rfl,w0,h⟩ := fit_int h
 obtain ⟨a1,c1,rfl,w1,h⟩ := fit_int h
 obtain ⟨a2,c2,rfl,w2,h⟩ := fit_int h
 obtain ⟨a3,c3,rfl,w3,h⟩ := fit_int h
 rw [h.nil]
 exact ⟨⟨a0,a1,a2,a3⟩,rfl,⟨(bounds_u32 w0).1,(bounds_u32 w1).1,(bounds_u64 w2).1,(bounds_u64 w3).1⟩⟩
structure SetGv (w : World) (vP vS : Value) (P : List Ct) (S : List St) : Prop where
 p : SlB w 5 vP P.length (P.flatMap ctC)
 s : SlB w 4 vS S.length (S.flatMap stCells)
 op : ∀ c ∈ P,CtOk c
 os : ∀ s ∈ S,StOk s
theorem open_setup {H : Type} {enc : TypeId × Value → H} {W : World} {v : Value} {d : DataW H} {ps : List MemPlace} {base : Nat} (hv : Value.okWide Tryz.prog W .any base 25 v) (h : DataW.Trod enc Tryz.prog W 0 (fun _ => true) true 25 v d ps) :
  ∃ (vP vS : Value) (P : List Ct) (S : List St),v = seV vP vS ∧ SetGv W vP vS P S := by
 obtain ⟨cs,rfl,hcs⟩ := okWide_struct Tryz.underlying25 hv
 obtain ⟨fuel,hf⟩ := h
 obtain ⟨xs,n,hn,-,hl,hlen,hf⟩ := DataW.trod_struct Tryz.underlying25 hf
 have k2 : Tryz.prog.cellsOf 25 = 2 := by kernel_rfl
 have ka : Tryz.prog.cellsOf 22 = 1 := by kernel_rfl
 have kb : Tryz.prog.cellsOf 23 = 1 := by kernel_rfl
 rw [k2] at hcs
 obtain ⟨cs⟩ := cs
 simp at hcs
 rcases cs with _ | ⟨a,_ | ⟨b,_ | _⟩⟩ <;> simp at hcs
 match xs,hlen with
 | [y0, y1], _ =>
  have h0 := hf 0 _ rfl
  have h1 := hf 1 _ rfl
  simp only [Value.cells] at h0 h1
  have h0' : DataW.trod enc Tryz.prog W 0 (fun _ => true) true n 22 [a] = some y0 := h0
  have h1' : DataW.trod enc Tryz.prog W 0 (fun _ => true) true n 23 [b] = some y1 := h1
  obtain ⟨n0,f0,s0,t0⟩ := open_rawC (m := 4) (l := [.int .u32,.int .u32,.int .u64,.int .u64,.int .u64]) (e := 64) Tryz.underlying22 (by kernel_rfl) (by kernel_rfl) (by decide) h0'
  obtain ⟨n1,f1,s1,t1⟩ := open_rawC (m := 4) (l := [.int .u32,.int .u32,.int .u64,.int .u64]) (e := 94) Tryz.underlying23 (by kernel_rfl) (by kernel_rfl) (by decide) h1'
  obtain ⟨P,p1,p2⟩ := open_elsB ctC CtOk (fun _ => fit_ct) s0 t0
  obtain ⟨S,q1,q2⟩ := open_elsB stCells StOk (fun _ => fit_st) s1 t1
  exact ⟨a,b,P,S,rfl,p1,q1,p2,q2⟩
theorem open_ct {H : Type} {enc : TypeId × Value → H} {W : World} {v : Value} {d : DataW H} {ps : List MemPlace} (h : DataW.Trod enc Tryz.prog W 0 (fun _ => true) true 64 v d ps) : ∃ c : Ct, v = ctV c ∧ CtOk c := by
 obtain ⟨c,e1,hc⟩ := fit_ct (open_flat (m := 4) (l := [.int .u32,.int .u32,.int .u64,.int .u64,.int .u64]) (by kernel_rfl) h)
 exact ⟨c,agg_of e1,hc⟩
abbrev akV (u k : Int) : Value := .agg #[u64 u,i64 k]
theorem open_ask {H : Type} {enc : TypeId × Value → H} {W : World} {v : Value} {d : DataW H} {ps : List MemPlace} (h : DataW.Trod enc Tryz.prog W 0 (fun _ => true) true 31 v d ps) : ∃ u k : Int, v = akV u k ∧ (0 ≤ u ∧ u ≤ 18446744073709551615) ∧ (-9223372036854775808 ≤ k ∧ k ≤ 9223372036854775807) := by
 have hf := open_flat (m := 4) (l := [.int .u64,.int .i64]) (by kernel_rfl) h
 obtain ⟨a0,c0,e0,w0,hf⟩ := fit_int hf
 obtain ⟨a1,c1,rfl,w1,hf⟩ := fit_int hf
 rw [hf.nil] at e0
 exact ⟨a0,a1,agg_of e0,bounds_u64 w0,bounds_i64 w1⟩
theorem open_quest {H : Type} {enc : TypeId × Value → H} {W : World} {v : Value} {d : DataW H} {ps : List MemPlace} {base : Nat} (hv : Value.okWide Tryz.prog W .any base 29 v) (h : DataW.Trod enc Tryz.prog W 0 (fun _ => true) true 29 v d ps) :
  ∃ (q : Qu) (nv : Value),v = quV q nv ∧ QuOk q ∧ SlB W 5 nv q.no.length (q.no.flatMap ctC) := by
 obtain ⟨cs,rfl,hcs⟩ := okWide_struct Tryz.underlying29 hv
 obtain ⟨fuel,hf⟩ := h
 obtain ⟨xs,n,hn,-,hl,hlen,hf⟩ := DataW.trod_struct Tryz.underlying29 hf
 have k6 : Tryz.prog.cellsOf 29 = 6 := by kernel_rfl
 have ka : Tryz.prog.cellsOf 22 = 1 := by kernel_rfl
 have kb : Tryz.prog.cellsOf 26 = 1 := by kernel_rfl
 have kc : Tryz.prog.cellsOf 27 = 1 := by kernel_rfl
 have kd : Tryz.prog.cellsOf 3 = 1 := by kernel_rfl
 rw [k6] at hcs
 obtain ⟨cs⟩ := cs
 simp at hcs
 rcases cs with _ | ⟨a,_ | ⟨b,_ | ⟨c,_ | ⟨d1,_ | ⟨e,_ | ⟨f,_ | _⟩⟩⟩⟩⟩⟩ <;> simp at hcs
 match xs,hlen with
 | [y0, y1, y2, y3, y4, y5], _ =>
  have h0 := hf 0 _ rfl
  have h1 := hf 1 _ rfl
  have h2 := hf 2 _ rfl
  have h3 := hf 3 _ rfl
  have h4 := hf 4 _ rfl
  have h5 := hf 5 _ rfl
  simp only [Value.cells] at h0 h1 h2 h3 h4 h5
  have h0' : DataW.trod enc Tryz.prog W 0 (fun _ => true) true n 26 [a] = some y0 := h0
  have h1' : DataW.trod enc Tryz.prog W 0 (fun _ => true) true n 26 [b] = some y1 := h1
  have h2' : DataW.trod enc Tryz.prog W 0 (fun _ => true) true n 27 [c] = some y2 := h2
  have h3' : DataW.trod enc Tryz.prog W 0 (fun _ => true) true n 27 [d1] = some y3 := h3
  have h4' : DataW.trod enc Tryz.prog W 0 (fun _ => true) true n 3 [e] = some y4 := h4
  have h5' : DataW.trod enc Tryz.prog W 0 (fun _ => true) true n 22 [f] = some y5 := h5
  obtain ⟨x0,c0,e0,w0,-⟩ := fit_int (trod_flat 2 26 [.int .u32] (by kernel_rfl) _ _ _ h0')
  obtain ⟨x1,c1,e1,w1,-⟩ := fit_int (trod_flat 2 26 [.int .u32] (by kernel_rfl) _ _ _ h1')
  obtain ⟨x2,c2,e2,w2,-⟩ := fit_int (trod_flat 2 27 [.int .u64] (by kernel_rfl) _ _ _ h2')
  obtain ⟨x3,c3,e3,w3,-⟩ := fit_int (trod_flat 2 27 [.int .u64] (by kernel_rfl) _ _ _ h3')
  obtain ⟨x4,c4,e4,w4,-⟩ := fit_int (trod_flat 2 3 [.int .i64] (by kernel_rfl) _ _ _ h4')
  simp only [List.cons.injEq] at e0 e1 e2 e3 e4
  obtain ⟨rfl,-⟩ := e0
  obtain ⟨rfl,-⟩ := e1
  obtain ⟨rfl,-⟩ := e2
  obtain ⟨rfl,-⟩ := e3
  obtain ⟨rfl,-⟩ := e4
  obtain ⟨n0,f0,s0,t0⟩ := open_rawC (m := 4) (l := [.int .u32,.int .u32,.int .u64,.int .u64,.int .u64]) (e := 64) Tryz.underlying22 (by kernel_rfl) (by kernel_rfl) (by decide) h5'
  obtain ⟨N,p1,p2⟩ := open_elsB ctC CtOk (fun _ => fit_ct) s0 t0
  exact ⟨⟨x0,x1,x2,x3,x4,N⟩,f,rfl,⟨bounds_u32 w0,bounds_u32 w1,bounds_u64 w2,bounds_u64 w3,bounds_i64 w4⟩,p1⟩
end Go.Proofs