/-
 Contracts of the functions that the law reaches,step by step.
-/
import Derived.Test.YtdgkfilajbnhgaaGreatGeU
import Derived.ProofKit
import Derived.OpenShut
import Derived.Test.YtdgkfilajbnhgaaGreatGeR
namespace Go.Proofs
open Pk
set_option maxRecDepth 10000
def fewB (a b c : Nat) (n : Int) : Bool := decide ((a : Int) ≤ n) && (decide ((b : Int) ≤ n) && decide ((c : Int) ≤ n))
theorem few_c {w : World} {vP vS vB : Value} {a b c : Nat} (h1 : ∃ x k, vP = .slice x a k) (h2 : ∃ x k, vS = .slice x b k) (h3 : ∃ x k, vB = .slice x c k) (n : Int) :
  FN Tryz.prog 7 [seV vP vS vB,i64 n] w fun e w' => e = .returned (.bool (fewB a b c n)) ∧ Ext w w' := by
 obtain ⟨x1,k1,rfl⟩ := h1
 obtain ⟨x2,k2,rfl⟩ := h2
 obtain ⟨x3,k3,rfl⟩ := h3
 refine FN_enter Tryz.func7 rfl rfl (by kernel_rfl) ?_
 have hE : Ext w (w.alloc (.cells #[.slice x1 a k1,.slice x2 b k2,.slice x3 c k3] 26)) := (Ext.refl w).alloc _
 by_cases c1 : (a : Int) ≤ n
 ·by_cases c2 : (b : Int) ≤ n
  ·by_cases c3 : (c : Int) ≤ n <;> simp [fewB,c1,c2,c3,hE]
  ·simp [fewB,c1,c2,hE]
 ·simp [fewB,c1,hE]
theorem fWay : flatA Tryz.prog 50 = some [.int .u64,.int .i64,.int .u32,.int .u32,.int .u32,.int .u64,.int .u64,.int .u64] := by kernel_rfl
theorem way_eq (a b : Wy) : eqcs (wyC a) (wyC b) = decide (a = b) := by
 obtain ⟨a1,a2,a3,a4,a5,a6,a7,a8⟩ := a
 obtain ⟨b1,b2,b3,b4,b5,b6,b7,b8⟩ := b
 rw [Bool.eq_iff_iff]
 simp [eqcs,eqc]
theorem neqWy (a b : Wy) (w : World) : (binOp .neq 50 (wyV a) (wyV b)).run Tryz.prog w = .ok (.bool !(decide (a = b))) w := by
 rw [← way_eq]
 exact run_neq_flat w fWay _ _ rfl rfl
end Go.Proofs
namespace Go.Proofs
open Go.ChangeShapes Go.WideShapes Go.ChangeAt Go.RowKit Go.Deep Pk
set_option maxRecDepth 10000
section
variable {H : Type} {enc : TypeId × Value → H} {P : Program}
theorem open_rawB {W : World} {x : DataW H × List MemPlace} {fuel : Nat} {a : Option Addr} {len cap : Nat} {t e : TypeId} {m : Nat} {l : List CK} (ht : P.underlying t = some (.slice e)) (hl : flat P m e = some l) (hc : P.cellsOf e = l.length) (h0 : 0 < l.length)
  (hf : DataW.trod enc P W 0 (fun _ => true) true fuel t [.slice a len cap] = some x) :
  ∃ f : Nat → List Value,SlB W l.length (.slice a len cap) len ((List.range len).flatMap f) ∧ ∀ i,i < len → Fit l (f i) := by
 rcases open_slice ht hf with ⟨h1, -⟩ | ⟨a', len', cap', m', n, D, Pl, h1, hb, hle, hm, hmm, hx, hel⟩
 ·simp at h1
  obtain ⟨rfl,rfl,rfl⟩ := h1
  exact ⟨fun _ => [],SlB.nil _ _ _,fun i hi => by omega⟩
 ·simp at h1
  obtain ⟨rfl,rfl,rfl⟩ := h1
  simp at hmm
  subst hmm
  have each : ∀ i, i < len → ∃ cs : List Value, Fit l cs ∧ ∀ j u, cs[j]? = some u → W.cell? (a'.add (i * l.length + j)) = some u := by
   intro i hi
   obtain ⟨cs',h2,h3⟩ := hel i (by omega)
   rw [hc] at h2
   obtain ⟨_,hlen,hcell⟩ := World.cells?_some h2
   refine ⟨cs',trod_flat m e l hl _ _ _ h3,fun j u hj => ?_⟩
   have hjl := (List.getElem?_eq_some_iff.1 hj).1
   have := hcell j (by omega)
   rw [add_add] at this
   rw [this]; exact hj
  obtain ⟨f,hfx⟩ := choose_lt each
  have hfl : ∀ i,i < len → (f i).length = l.length := fun i hi => ((hfx i hi).1.length).symm
  obtain ⟨g1,g2⟩ := flatMap_at f len hfl
  have hsp : 0 < len → ∃ b o, a' = ⟨b, o, none⟩ := by
   intro h
   have hl0 := hfl 0 h
   have := (hfx 0 h).2 0 (f 0)[0] (by simp [hl0,h0])
   obtain ⟨b,o,sp⟩ := a'
   cases sp with
   | none => exact ⟨b,o,rfl⟩
   | some s => simp [Addr.add,World.cell?] at this; split at this <;> simp_all
  refine ⟨f, ⟨g1, ⟨some a', _, rfl, hle, fun h => ?_⟩, ?_⟩, fun i hi => (hfx i hi).1⟩
  ·obtain ⟨b,o,rfl⟩ := hsp h
   exact ⟨b,o,rfl⟩
  ·intro j u hj
   have hjl := (List.getElem?_eq_some_iff.1 hj).1
   rw [g1] at hjl
   have hi : j / l.length < len := (Nat.div_lt_iff_lt_mul h0).2 hjl
   obtain ⟨b,o,rfl⟩ := hsp (Nat.lt_of_le_of_lt (Nat.zero_le _) hi)
   have hdm := Nat.div_add_mod j l.length
   have hml := Nat.mod_lt j h0
   have e : j / l.length * l.length + j % l.length = j := by rw [Nat.mul_comm]; exact hdm
   have h3 := g2 (j / l.length) (j % l.length) hi hml
   rw [e,hj] at h3
   have := (hfx _ hi).2 _ _ h3.symm
   rw [e] at this
   simpa [slB,slO] using this
theorem open_rawC {W : World} {x : DataW H × List MemPlace} {fuel : Nat} {b : Value} {t e : TypeId} {m : Nat} {l : List CK} (ht : P.underlying t = some (.slice e)) (hl : flat P m e = some l) (hc : P.cellsOf e = l.length) (h0 : 0 < l.length)
  (hf : DataW.trod enc P W 0 (fun _ => true) true fuel t [b] = some x) :
  ∃ (n : Nat) (f : Nat → List Value),SlB W l.length b n ((List.range n).flatMap f) ∧ ∀ i,i < n → Fit l (f i) := by
 have hb : ∃ x len cap, b = .slice x len cap := by
  rcases open_slice ht hf with ⟨h1, -⟩ | ⟨a', len', cap', m', n, D, Pl, h1, -⟩
  ·simp at h1; exact ⟨_,_,_,h1⟩
  ·simp at h1; exact ⟨_,_,_,h1⟩
 obtain ⟨x,len,cap,rfl⟩ := hb
 obtain ⟨f,h1,h2⟩ := open_rawB ht hl hc h0 hf
 exact ⟨len,f,h1,h2⟩
theorem open_elsB {α : Type} (g : α → List Value) (ok : α → Prop) {s : Nat} {l : List CK} {W : World} {v : Value} {n : Nat} {f : Nat → List Value} (hfit : ∀ cs, Fit l cs → ∃ x, cs = g x ∧ ok x) (h : SlB W s v n ((List.range n).flatMap f)) (hf : ∀ i, i < n → Fit l (f i)) :
  ∃ L : List α,SlB W s v L.length (L.flatMap g) ∧ ∀ q ∈ L,ok q := by
 have each : ∀ k, k ≤ n → ∃ L : List α, L.length = k ∧ L.flatMap g = (List.range k).flatMap f ∧ ∀ q ∈ L, ok q := by
  intro k
  induction k with
  | zero => exact fun _ => ⟨[],rfl,rfl,by simp⟩
  | succ k ih =>
   intro hk
   obtain ⟨L,h1,h2,h3⟩ := ih (by omega)
   obtain ⟨x,hx,hox⟩ := hfit _ (hf k (by omega))
   refine ⟨L ++ [x], by simp [h1], ?_, fun q hq => ?_⟩
   ·rw [List.flatMap_append,h2,List.range_succ,List.flatMap_append]
    simp [hx]
   ·rcases List.mem_append.1 hq with hq | hq
    ·exact h3 q hq
    ·simp at hq; subst hq; exact hox
 obtain ⟨L,h1,h2,h3⟩ := each n (Nat.le_refl _)
 refine ⟨L,?_,h3⟩
 rw [h1,h2]
 exact h
end
theorem fit_int {cs : List Value} {ks : List CK} {q : IntKind} (h : Fit (.int q :: ks) cs) : ∃ (x : Int) (cs' : List Value), cs = .int q x :: cs' ∧ (Lit.int q x).wf = true ∧ Fit ks cs' := by
 obtain ⟨v1,c1,e1,⟨x,f1,w1⟩,h⟩ := h.cons
 exact ⟨x,c1,by rw [e1,f1],w1,h⟩
theorem fit_ct {cs : List Value} (h : Fit [.int .u32, .int .u32, .int .u64, .int .u64, .int .u64] cs) : ∃ c : Ct, cs = ctC c ∧ CtOk c := by
 obtain ⟨a0,c0,rfl,w0,h⟩ := fit_int h
 obtain ⟨a1,c1,rfl,w1,h⟩ := fit_int h
 obtain ⟨a2,c2,rfl,w2,h⟩ := fit_int h
 obtain ⟨a3,c3,rfl,w3,h⟩ := fit_int h
 obtain ⟨a4,c4,rfl,w4,h⟩ := fit_int h
 rw [h.nil]
 exact ⟨⟨a0,a1,a2,a3,a4⟩,rfl,⟨bounds_u32 w0,bounds_u32 w1,bounds_u64 w2,bounds_u64 w3,bounds_u64 w4⟩⟩
theorem fit_st {cs : List Value} (h : Fit [.int .u32, .int .u32, .int .u64, .int .u64] cs) : ∃ s : St, cs = stCells s ∧ StOk s := by
 obtain ⟨a0,c0,rfl,w0,h⟩ := fit_int h
 obtain ⟨a1,c1,rfl,w1,h⟩ := fit_int h
 obtain ⟨a2,c2,rfl,w2,h⟩ := fit_int h
 obtain ⟨a3,c3,rfl,w3,h⟩ := fit_int h
 rw [h.nil]
 exact ⟨⟨a0,a1,a2,a3⟩,rfl,⟨(bounds_u32 w0).1,(bounds_u32 w1).1,(bounds_u64 w2).1,(bounds_u64 w3).1⟩⟩
theorem fit_bk {cs : List Value} (h : Fit [.int .u32, .int .u32, .int .u64, .int .u64, .int .u64, .int .u64] cs) : ∃ x : LR, cs = vrC x ∧ (CtOk x.1 ∧ 0 ≤ x.2) := by
 obtain ⟨a0,c0,rfl,w0,h⟩ := fit_int h
 obtain ⟨a1,c1,rfl,w1,h⟩ := fit_int h
 obtain ⟨a2,c2,rfl,w2,h⟩ := fit_int h
 obtain ⟨a3,c3,rfl,w3,h⟩ := fit_int h
 obtain ⟨a4,c4,rfl,w4,h⟩ := fit_int h
 obtain ⟨a5,c5,rfl,w5,h⟩ := fit_int h
 rw [h.nil]
 exact ⟨(⟨a0,a1,a2,a3,a4⟩,a5),rfl,⟨bounds_u32 w0,bounds_u32 w1,bounds_u64 w2,bounds_u64 w3,bounds_u64 w4⟩,(bounds_u64 w5).1⟩
structure SetGv (w : World) (vP vS vB : Value) (P : List Ct) (S : List St) (B : List LR) : Prop where
 p : SlB w 5 vP P.length (P.flatMap ctC)
 s : SlB w 4 vS S.length (S.flatMap stCells)
 b : SlB w 6 vB B.length (B.flatMap vrC)
 op : ∀ c ∈ P,CtOk c
 os : ∀ s ∈ S,StOk s
 ob : ∀ x ∈ B,CtOk x.1 ∧ 0 ≤ x.2
theorem open_setup {H : Type} {enc : TypeId × Value → H} {W : World} {v : Value} {d : DataW H} {ps : List MemPlace} {base : Nat} (hv : Value.okWide Tryz.prog W .any base 26 v) (h : DataW.Trod enc Tryz.prog W 0 (fun _ => true) true 26 v d ps) :
  ∃ (vP vS vB : Value) (P : List Ct) (S : List St) (B : List LR),v = seV vP vS vB ∧ SetGv W vP vS vB P S B := by
 obtain ⟨cs,rfl,hcs⟩ := okWide_struct Tryz.underlying26 hv
 obtain ⟨fuel,hf⟩ := h
 obtain ⟨xs,n,hn,-,hl,hlen,hf⟩ := DataW.trod_struct Tryz.underlying26 hf
 have k3 : Tryz.prog.cellsOf 26 = 3 := by kernel_rfl
 have ka : Tryz.prog.cellsOf 22 = 1 := by kernel_rfl
 have kb : Tryz.prog.cellsOf 23 = 1 := by kernel_rfl
 have kc : Tryz.prog.cellsOf 24 = 1 := by kernel_rfl
 rw [k3] at hcs
 obtain ⟨cs⟩ := cs
 simp at hcs
 rcases cs with _ | ⟨a,_ | ⟨b,_ | ⟨c,_ | _⟩⟩⟩ <;> simp at hcs
 match xs,hlen with
 | [y0, y1, y2], _ =>
  have h0 := hf 0 _ rfl
  have h1 := hf 1 _ rfl
  have h2 := hf 2 _ rfl
  simp only [Value.cells] at h0 h1 h2
  have h0' : DataW.trod enc Tryz.prog W 0 (fun _ => true) true n 22 [a] = some y0 := h0
  have h1' : DataW.trod enc Tryz.prog W 0 (fun _ => true) true n 23 [b] = some y1 := h1
  have h2' : DataW.trod enc Tryz.prog W 0 (fun _ => true) true n 24 [c] = some y2 := h2
  obtain ⟨n0,f0,s0,t0⟩ := open_rawC (m := 4) (l := [.int .u32,.int .u32,.int .u64,.int .u64,.int .u64]) (e := 48) Tryz.underlying22 (by kernel_rfl) (by kernel_rfl) (by decide) h0'
  obtain ⟨n1,f1,s1,t1⟩ := open_rawC (m := 4) (l := [.int .u32,.int .u32,.int .u64,.int .u64]) (e := 85) Tryz.underlying23 (by kernel_rfl) (by kernel_rfl) (by decide) h1'
  obtain ⟨n2,f2,s2,t2⟩ := open_rawC (m := 5) (l := [.int .u32,.int .u32,.int .u64,.int .u64,.int .u64,.int .u64]) (e := 95) Tryz.underlying24 (by kernel_rfl) (by kernel_rfl) (by decide) h2'
  obtain ⟨P,p1,p2⟩ := open_elsB ctC CtOk (fun _ => fit_ct) s0 t0
  obtain ⟨S,q1,q2⟩ := open_elsB stCells StOk (fun _ => fit_st) s1 t1
  obtain ⟨B,r1,r2⟩ := open_elsB vrC (fun x => CtOk x.1 ∧ 0 ≤ x.2) (fun _ => fit_bk) s2 t2
  exact ⟨a,b,c,P,S,B,rfl,p1,q1,r1,p2,q2,r2⟩
theorem open_quest {H : Type} {enc : TypeId × Value → H} {W : World} {v : Value} {d : DataW H} {ps : List MemPlace} {base : Nat} (hv : Value.okWide Tryz.prog W .any base 30 v) (h : DataW.Trod enc Tryz.prog W 0 (fun _ => true) true 30 v d ps) :
  ∃ (q : Qu) (nv : Value),v = quV q nv ∧ QuOk q ∧ SlB W 5 nv q.no.length (q.no.flatMap ctC) := by
 obtain ⟨cs,rfl,hcs⟩ := okWide_struct Tryz.underlying30 hv
 obtain ⟨fuel,hf⟩ := h
 obtain ⟨xs,n,hn,-,hl,hlen,hf⟩ := DataW.trod_struct Tryz.underlying30 hf
 have k6 : Tryz.prog.cellsOf 30 = 6 := by kernel_rfl
 have ka : Tryz.prog.cellsOf 22 = 1 := by kernel_rfl
 have kb : Tryz.prog.cellsOf 27 = 1 := by kernel_rfl
 have kc : Tryz.prog.cellsOf 28 = 1 := by kernel_rfl
 have kd : Tryz.prog.cellsOf 3 = 1 := by kernel_rfl
 rw [k6] at hcs
 obtain ⟨cs⟩ := cs
 simp at hcs
 rcases cs with _ | ⟨a,_ | ⟨b,_ | ⟨c,_ | ⟨d1,_ | ⟨e,_ | ⟨f,_ | _⟩⟩⟩⟩⟩⟩ <;> simp at hcs
 match xs,hlen with
 | [y0, y1, y2, y3, y4, y5], _ =>
  have h0 := hf 0 _ rfl
  have h1 := hf 1 _ rfl
  have h2 := hf 2 _ rfl
  have h3 := hf 3 _ rfl
  have h4 := hf 4 _ rfl
  have h5 := hf 5 _ rfl
  simp only [Value.cells] at h0 h1 h2 h3 h4 h5
  have h0' : DataW.trod enc Tryz.prog W 0 (fun _ => true) true n 27 [a] = some y0 := h0
  have h1' : DataW.trod enc Tryz.prog W 0 (fun _ => true) true n 27 [b] = some y1 := h1
  have h2' : DataW.trod enc Tryz.prog W 0 (fun _ => true) true n 28 [c] = some y2 := h2
  have h3' : DataW.trod enc Tryz.prog W 0 (fun _ => true) true n 28 [d1] = some y3 := h3
  have h4' : DataW.trod enc Tryz.prog W 0 (fun _ => true) true n 3 [e] = some y4 := h4
  have h5' : DataW.trod enc Tryz.prog W 0 (fun _ => true) true n 22 [f] = some y5 := h5
  obtain ⟨x0,c0,e0,w0,-⟩ := fit_int (trod_flat 2 27 [.int .u32] (by kernel_rfl) _ _ _ h0')
  obtain ⟨x1,c1,e1,w1,-⟩ := fit_int (trod_flat 2 27 [.int .u32] (by kernel_rfl) _ _ _ h1')
  obtain ⟨x2,c2,e2,w2,-⟩ := fit_int (trod_flat 2 28 [.int .u64] (by kernel_rfl) _ _ _ h2')
  obtain ⟨x3,c3,e3,w3,-⟩ := fit_int (trod_flat 2 28 [.int .u64] (by kernel_rfl) _ _ _ h3')
  obtain ⟨x4,c4,e4,w4,-⟩ := fit_int (trod_flat 2 3 [.int .i64] (by kernel_rfl) _ _ _ h4')
  simp only [List.cons.injEq] at e0 e1 e2 e3 e4
  obtain ⟨rfl,-⟩ := e0
  obtain ⟨rfl,-⟩ := e1
  obtain ⟨rfl,-⟩ := e2
  obtain ⟨rfl,-⟩ := e3
  obtain ⟨rfl,-⟩ := e4
  obtain ⟨n0,f0,s0,t0⟩ := open_rawC (m := 4) (l := [.int .u32,.int .u32,.int .u64,.int .u64,.int .u64]) (e := 48) Tryz.underlying22 (by kernel_rfl) (by kernel_rfl) (by decide) h5'
  obtain ⟨N,p1,p2⟩ := open_elsB ctC CtOk (fun _ => fit_ct) s0 t0
  exact ⟨⟨x0,x1,x2,x3,x4,N⟩,f,rfl,⟨bounds_u32 w0,bounds_u32 w1,bounds_u64 w2,bounds_u64 w3,bounds_i64 w4⟩,p1⟩
end Go.Proofs
namespace Go.Proofs
open Pk
set_option maxRecDepth 10000
end Go.Proofs
namespace Go.Proofs
open Pk
set_option maxRecDepth 10000
end Go.Proofs