/-
 Contracts of the functions that the law reaches,step by step.
-/
import Derived.Test.YtdflcfoalhhjlaaGreatGdP
namespace Go.Proofs
open Pk
set_option maxRecDepth 10000
structure StOk (s : St) : Prop where
 f : 0 ≤ s.f
 t : 0 ≤ s.t
 a : 0 ≤ s.a
 k : 0 ≤ s.k
abbrev TRw (w : World) (v : Value) (l : List St) := Sl w 4 v l.length (l.flatMap stCells)
structure StR (W : World) (v : Value) (i : Nat) (s : St) : Prop where
 c0 : W.cell? ⟨slB v,slO v + i * 4,none⟩ = some (u32 s.f)
 c1 : W.cell? ⟨slB v,slO v + i * 4 + 1,none⟩ = some (u32 s.t)
 c2 : W.cell? ⟨slB v,slO v + i * 4 + 2,none⟩ = some (u64 s.a)
 c3 : W.cell? ⟨slB v,slO v + i * 4 + 3,none⟩ = some (u64 s.k)
theorem TRw.row {w : World} {v : Value} {l : List St} (h : TRw w v l) {i : Nat} {x : St} (hi : l[i]? = some x) : StR w v i x := by
 have d := fun (j : Nat) (u : Value) (hj : j < 4) (e : (stCells x)[j]? = some u) => h.at_ (i * 4 + j) u ((Pk.flat_at stCells (fun _ => rfl) l i j x hi hj).trans e)
 simp only [← Nat.add_assoc] at d
 exact ⟨d 0 _ (by omega) rfl,d 1 _ (by omega) rfl,d 2 _ (by omega) rfl,d 3 _ (by omega) rfl⟩
theorem TRw.index {w : World} {v : Value} {l : List St} (h : TRw w v l) (i : Nat) (hi : i < l.length) (W : World) : (Instr.indexAt 23 v (.int .i64 (i : Int))).run Tryz.prog W = .ok (.pointer (some ⟨slB v, slO v + i * 4, none⟩)) W := by
 have := Sl.index (P := Tryz.prog) (t := 23) h (by simp) .i64 i (by omega) (by omega) W
 simpa using this
def hitS (f g a : Int) (s : St) : Bool := decide (s.f = f) && (decide (s.t = g) && decide (s.a = a))
def fndI (l : List St) (f g a : Int) : Int := match l.findIdx? (hitS f g a) with | some i => i | none => -1
theorem fndI_at {l : List St} {f g a : Int} {i : Nat} (hi : i < l.length) (h1 : hitS f g a l[i] = true) (h2 : ∀ j (hj : j < i), hitS f g a l[j] = false) : fndI l f g a = i := by
 unfold fndI
 rw [List.findIdx?_eq_some_iff_getElem.2 ⟨hi,h1,fun j hj => by simp [h2 j hj]⟩]
theorem fndI_none {l : List St} {f g a : Int} (h2 : ∀ j (hj : j < l.length), hitS f g a l[j] = false) : fndI l f g a = -1 := by
 unfold fndI
 rw [List.findIdx?_eq_none_iff.2 fun x hx => by
  obtain ⟨j,hj,rfl⟩ := List.getElem_of_mem hx
  exact h2 j hj]
theorem rright_c (s : St) (hs : StOk s) (w : World) : FN Tryz.prog 85 [stV s] w fun e w' => e = .returned (.bool (!badS s)) ∧ Ext w w' := by
 refine FN_enter Tryz.func85 rfl rfl (by kernel_rfl) ?_
 have h0 := hs.f
 have h1 := hs.t
 have e : badS s = !(decide (0 < s.f) && (decide (0 < s.t) && ((s.f != s.t) && (decide (s.a < 4611686018427387903) && decide (s.k ≤ 1099511627776))))) := by
  unfold badS
  rw [Bool.eq_iff_iff]
  simp
  omega
 rw [e]
 simp
 by_cases a0 : 0 < s.f
 ·by_cases a1 : 0 < s.t
  ·by_cases a2 : s.f = s.t
   ·simp [a1,a2]
    exact (Ext.refl w).alloc _
   ·by_cases a3 : s.a < 4611686018427387903
    ·simp [bne_dec,a0,a1,a2,a3]
     exact (Ext.refl w).alloc _
    ·simp [bne_dec,a0,a1,a2,a3]
     exact (Ext.refl w).alloc _
  ·simp [bne_dec,a0,a1]
   exact (Ext.refl w).alloc _
 ·simp [bne_dec,a0]
  exact (Ext.refl w).alloc _
theorem rfind_c {w : World} {v : Value} {l : List St} (h : TRw w v l) (f g a : Int) (hb : l.length ≤ 1000000) :
  FN Tryz.prog 86 [.agg #[v],u32 f,u32 g,u64 a] w fun e w' => e = .returned (i64 (fndI l f g a)) ∧ Ext w w' := by
 refine FN_enter Tryz.func86 rfl rfl (by kernel_rfl) ?_
 obtain ⟨va,vc,rfl⟩ := h.isSlice
 have hlen := fun ty W => h.isLen (P := Tryz.prog) (t := 23) (by simp) ty W
 simp
 have hE1 : Ext w (w.alloc (.cells #[.slice va l.length vc] 38)) := (Ext.refl w).alloc _
 have o1 : Var (w.alloc (.cells #[.slice va l.length vc] 38)) w.heap.size (.slice va l.length vc) := Var.new w _ _
 generalize (w.alloc (.cells #[.slice va l.length vc] 38)) = w1 at *
 refine WC_loop (fun k ρ ds w' => ∃ i : Nat,k = l.length - i ∧ i ≤ l.length ∧ ρ 1 = u32 f ∧ ρ 2 = u32 g ∧ ρ 3 = u64 a ∧ ρ 4 = ptr w.heap.size ∧ ρ 9 = i64 i ∧ ds = [] ∧ w' = w1 ∧ ∀ j (hj : j < l.length),j < i → hitS f g a l[j] = false) l.length ⟨0,by simp,by simp,by simp,by simp,by simp,by simp,by simp,rfl,rfl,fun j _ h => by omega⟩ ?_
 rintro k ρ ds w2 ⟨i,rfl,hi,e1,e2,e3,e4,e9,rfl,hE,hno⟩
 subst hE
 by_cases hlt : i < l.length
 ·have r := TRw.row (h.ext hE1) (List.getElem?_eq_getElem hlt)
  have ix := TRw.index h i hlt w2
  simp [e1,e4,e9,o1.cell,hlen,hlt,ix,r.c0]
  have fin0 : hitS f g a l[i] = false → ∀ j (hj : j < l.length), j < i + 1 → hitS f g a l[j] = false := fun hq j hj hji => by
   rcases Nat.lt_succ_iff_lt_or_eq.1 hji with h1 | rfl
   ·exact hno j hj h1
   ·exact hq
  by_cases b0 : l[i].f = f
  ·by_cases b1 : l[i].t = g
   ·by_cases b2 : l[i].a = a
    ·simp [b0,b1,b2,e2,e3,e4,e9,o1.cell,ix,r.c1,r.c2]
     exact ⟨(fndI_at hlt (by simp [hitS,b0,b1,b2]) fun j hj => hno j (by omega) hj).symm,hE1⟩
    ·simp [beq_dec,b0,b1,b2,e1,e2,e3,e4,e9,o1.cell,ix,r.c1,r.c2]
     exact ⟨l.length - (i + 1),by omega,i + 1,rfl,by omega,by rw [wrap64 _ (by omega) (by omega)]; rfl,fin0 (by simp [hitS,b0,b1,b2])⟩
   ·simp [beq_dec,b0,b1,e1,e2,e3,e4,e9,o1.cell,ix,r.c1]
    exact ⟨l.length - (i + 1),by omega,i + 1,rfl,by omega,by rw [wrap64 _ (by omega) (by omega)]; rfl,fin0 (by simp [hitS,b0,b1])⟩
  ·simp [beq_dec,b0,e1,e2,e3,e4,e9]
   exact ⟨l.length - (i + 1),by omega,i + 1,rfl,by omega,by rw [wrap64 _ (by omega) (by omega)]; rfl,fin0 (by simp [hitS,b0])⟩
 ·have : i = l.length := by omega
  subst this
  simp [e4,e9,o1.cell,hlen]
  exact ⟨(fndI_none fun j hj => hno j hj hj).symm,hE1⟩
def tkS (f g a : Int) (st : Int × Int × Bool) (s : St) : Int × Int × Bool :=
 if s.f = f then (if s.t = g then (if s.a ≤ a then (if st.2.2 = false then (s.k,s.a,true) else if st.2.1 ≤ s.a then (s.k,s.a,true) else st) else st) else st) else st
def rtkF (l : List St) (f g a : Int) : Int × Int × Bool := l.foldl (tkS f g a) (0,0,false)
def rtk (l : List St) (f g a : Int) : Int := (rtkF l f g a).1
theorem rtkF_succ {l : List St} {i : Nat} (hi : i < l.length) (f g a : Int) : rtkF (l.take (i + 1)) f g a = tkS f g a (rtkF (l.take i) f g a) l[i] := by
 unfold rtkF
 rw [List.take_add_one,List.getElem?_eq_getElem hi,List.foldl_append]
 rfl
def rlnd (l : List St) (f g a : Int) : Int := addT a (rtk l f g a)
theorem kright_c (s : Sp2) (w : World) : FN Tryz.prog 103 [spV s] w fun e w' => e = .returned (.bool (spOk s)) ∧ Ext w w' := by
 refine FN_enter Tryz.func103 rfl rfl (by kernel_rfl) ?_
 simp
 by_cases h : s.from' ≤ s.til
 ·simp [h,spOk]
  exact (Ext.refl w).alloc _
 ·simp [h,spOk]
  exact (Ext.refl w).alloc _
theorem st_one (l : List St) : ∀ u ∈ l.flatMap stCells, u.oneCell' = true := by
 intro u hu
 obtain ⟨s,-,hs⟩ := List.mem_flatMap.1 hu
 simp [stCells] at hs
 rcases hs with rfl | rfl | rfl | rfl <;> rfl
end Go.Proofs
namespace Go.Proofs
open Pk
set_option maxRecDepth 10000
theorem flat_set4 (s : St) : ∀ (l : List St) (i : Nat), i < l.length → ((((l.flatMap stCells).set (i * 4) (u32 s.f)).set (i * 4 + 1) (u32 s.t)).set (i * 4 + 2) (u64 s.a)).set (i * 4 + 3) (u64 s.k) = (l.set i s).flatMap stCells
 | [],i,h => by simp at h
 | x :: l,0,_ => by simp [stCells]
 | x :: l, i + 1, h => by
  have := flat_set4 s l i (by simpa using h)
  rw [show (i + 1) * 4 = i * 4 + 1 + 1 + 1 + 1 from by omega,show i * 4 + 1 + 1 + 1 + 1 + 1 = (i * 4 + 1) + 1 + 1 + 1 + 1 from rfl,show i * 4 + 1 + 1 + 1 + 1 + 2 = (i * 4 + 2) + 1 + 1 + 1 + 1 from rfl,show i * 4 + 1 + 1 + 1 + 1 + 3 = (i * 4 + 3) + 1 + 1 + 1 + 1 from rfl]
  simp only [List.flatMap_cons,stCells,List.cons_append,List.nil_append,List.set_cons_succ]
  rw [this]
theorem own_put {w : World} {base e : Nat} {v : Value} {l : List St} (h : w.ownsRow base e 4 v l.length (l.flatMap stCells)) (i : Nat) (hi : i < l.length) (s : St) :
  (((((w.setCell ⟨(slB v),(slO v + i * 4),none⟩ (u32 s.f)).setCell ⟨(slB v),(slO v + i * 4) + 1,none⟩ (u32 s.t)).setCell ⟨(slB v),(slO v + i * 4) + 2,none⟩ (u64 s.a)).setCell ⟨(slB v),(slO v + i * 4) + 3,none⟩ (u64 s.k))).ownsRow base e 4 v l.length ((l.set i s).flatMap stCells) := by
 have hl := flat_len stCells (fun _ => rfl) (s := 4) l
 have h1 := own_set (own_set (own_set (own_set h (i * 4) (by omega) (u32 s.f)) (i * 4 + 1) (by simp only [List.length_set]; omega) (u32 s.t)) (i * 4 + 2) (by simp only [List.length_set]; omega) (u64 s.a)) (i * 4 + 3) (by simp only [List.length_set]; omega) (u64 s.k)
 rw [flat_set4 s l i hi] at h1
 simpa only [Nat.add_assoc] using h1
theorem mod_put (w : World) (b o : Nat) (s : St) : Mod (fun k => k = b) w ((((w.setCell ⟨b,o,none⟩ (u32 s.f)).setCell ⟨b,o + 1,none⟩ (u32 s.t)).setCell ⟨b,o + 2,none⟩ (u64 s.a)).setCell ⟨b,o + 3,none⟩ (u64 s.k)) := ((((Mod.refl _ w).setC _ _).setC _ _).setC _ _).setC _ _
def rsetE (l : List St) (s : St) : Int := if badS s then 2 else if (l.findIdx? (hitS s.f s.t s.a)).isSome then 0 else if 512 ≤ l.length then 280 else 0
def rsetW (l : List St) (s : St) : Bool := !badS s && (l.findIdx? (hitS s.f s.t s.a)).isSome
def rsetL (l : List St) (s : St) : List St := if badS s then l else match l.findIdx? (hitS s.f s.t s.a) with | some i => l.set i s | none => if 512 ≤ l.length then l else l ++ [s]
set_option maxHeartbeats 1000000 in
theorem rset_c {w : World} {v : Value} {l : List St} (h : TRw w v l) (s : St) (hs : StOk s) (hb : l.length ≤ 1000) :
  FN Tryz.prog 34 [.agg #[v],stV s] w fun e w' => ∃ v',e = .returned (.tuple #[.agg #[v'],.bool (rsetW l s),i64 (rsetE l s)]) ∧ Ext w w' ∧ TRw w' v' (rsetL l s) ∧ (rsetL l s ≠ [] → v' = v ∨ w.heap.size ≤ slB v') := by
 refine FN_enter Tryz.func34 rfl rfl (by kernel_rfl) ?_
 obtain ⟨va,vc,hv⟩ := h.isSlice
 subst hv
 have hlen := fun ty W => h.isLen (P := Tryz.prog) (t := 23) (by simp) ty W
 simp
 have hE1 : Ext w (((w.alloc (.cells #[.slice va l.length vc] 38)).alloc (.cells #[u32 s.f,u32 s.t,u64 s.a,u64 s.k] 94)).alloc (.cells #[.slice none 0 0] 38)) := (((Ext.refl w).alloc _).alloc _).alloc _
 have o0 : Var (((w.alloc (.cells #[.slice va l.length vc] 38)).alloc (.cells #[u32 s.f,u32 s.t,u64 s.a,u64 s.k] 94)).alloc (.cells #[.slice none 0 0] 38)) w.heap.size (.slice va l.length vc) := (Var.new w _ _).ext (((Ext.refl _).alloc _).alloc _)
 have s1 : StAt (((w.alloc (.cells #[.slice va l.length vc] 38)).alloc (.cells #[u32 s.f, u32 s.t, u64 s.a, u64 s.k] 94)).alloc (.cells #[.slice none 0 0] 38)) (w.heap.size + 1) s := by
  have := (StAt.new (w.alloc (.cells #[.slice va l.length vc] 38)) s 94).ext ((Ext.refl _).alloc (.cells #[.slice none 0 0] 38))
  simpa using this
 have o2 : Var (((w.alloc (.cells #[.slice va l.length vc] 38)).alloc (.cells #[u32 s.f, u32 s.t, u64 s.a, u64 s.k] 94)).alloc (.cells #[.slice none 0 0] 38)) (w.heap.size + 1 + 1) (.slice none 0 0) := by
  have := Var.new ((w.alloc (.cells #[.slice va l.length vc] 38)).alloc (.cells #[u32 s.f,u32 s.t,u64 s.a,u64 s.k] 94)) (.slice none 0 0) 38
  simpa using this
 have z1 : (((w.alloc (.cells #[.slice va l.length vc] 38)).alloc (.cells #[u32 s.f,u32 s.t,u64 s.a,u64 s.k] 94)).alloc (.cells #[.slice none 0 0] 38)).heap.size = w.heap.size + 1 + 1 + 1 := by simp
 generalize (((w.alloc (.cells #[.slice va l.length vc] 38)).alloc (.cells #[u32 s.f,u32 s.t,u64 s.a,u64 s.k] 94)).alloc (.cells #[.slice none 0 0] 38)) = w1 at *
 refine FN.mono (rright_c s hs w1) ?_
 rintro _ w2 ⟨rfl,hE2⟩
 have p0 := o0.ext hE2
 have p1 := s1.ext hE2
 have p2 := o2.ext hE2
 have fin : ∀ (W : World) (a : Value),Ext w W → Ext w (W.setCell ⟨w.heap.size + 1 + 1,0,none⟩ a) := fun W a hW => hW.setCell _ _ (by simp only; omega)
 cases hbad : badS s with
 | true =>
  simp [rsetE,rsetW,rsetL,hbad,p0.cell,p2.cell,p2.thaw,cell_setCell]
  exact ⟨fin _ _ (hE1.trans hE2),h.ext (fin _ _ (hE1.trans hE2))⟩
 | false =>
  simp [p0.cell,p1.c0,p1.c1,p1.c2]
  refine FN.mono (rfind_c (h.ext (hE1.trans hE2)) s.f s.t s.a (by omega)) ?_
  rintro _ w3 ⟨rfl,hE3⟩
  have hE13 := hE1.trans (hE2.trans hE3)
  have q0 := p0.ext hE3
  have q1 := p1.ext hE3
  have q2 := p2.ext hE3
  have zz := (hE2.trans hE3).size
  have ho := own_empty (e := 94) (s := 4) w3 w1.heap.size zz
  have hE4 := (Ext.refl w3).alloc (.cells #[] 94)
  simp [q0.cell]
  generalize hw4 : (w3.alloc (.cells #[] 94)) = w4 at *
  have r0 := q0.ext hE4
  have r1 := q1.ext hE4
  have r2 := q2.ext hE4
  obtain ⟨v5,w5,hr5,ho5,hE5⟩ := append_newB (P := Tryz.prog) (t := 23) (ty := 23) (e := 94) (s := 4) (by simp) (by simp) (by kernel_rfl) ho (SlB.ext h.toB (hE13.trans hE4)) (st_one l) (by omega) (by have := hE4.size; omega)
  have t0 := r0.ext hE5
  have t1 := r1.ext hE5
  have t2 := r2.ext hE5
  have hE15 := hE13.trans (hE4.trans hE5)
  have hsl5 : TRw w5 v5 l := sl_of_own ho5
  obtain ⟨a5,c5,hv5⟩ := own_val ho5
  have hge := fun hn => own_ge ho5 hn
  have zz5 := (hE4.trans hE5).size
  cases hfi : l.findIdx? (hitS s.f s.t s.a) with
  | some i =>
   have hI : fndI l s.f s.t s.a = (i : Int) := by simp [fndI,hfi]
   have hil : i < l.length := (List.findIdx?_eq_some_iff_getElem.1 hfi).1
   have ix := TRw.index hsl5 i hil
   have rr := TRw.row hsl5 (List.getElem?_eq_getElem hil)
   have th := fun j => own_thaw ho5 (by omega) j
   have hn5 := own_nil ho5 (by omega)
   have hge5 := hge hn5
   have hput := own_put ho5 i hil s
   have hM := mod_put w5 (slB v5) (slO v5 + i * 4) s
   rw [hI]
   simp [hr5,ix,t1.c0,t1.c1,t1.c2,t1.c3,rr.c0,rr.c1,rr.c2,rr.c3,th,cell_setCell]
   have u2 := t2.mod hM (by omega)
   generalize ((((w5.setCell ⟨(slB v5),(slO v5 + i * 4),none⟩ (u32 s.f)).setCell ⟨(slB v5),(slO v5 + i * 4) + 1,none⟩ (u32 s.t)).setCell ⟨(slB v5),(slO v5 + i * 4) + 2,none⟩ (u64 s.a)).setCell ⟨(slB v5),(slO v5 + i * 4) + 3,none⟩ (u64 s.k)) = w6 at *
   subst hv5
   simp [rsetE,rsetW,rsetL,hbad,hfi,u2.cell,u2.thaw,cell_setCell]
   have hE6 : Ext w w6 := ((hE15.mod (S := fun k => w.heap.size ≤ k)).trans (hM.weaken fun k hk => by subst hk; omega)).ext fun _ h => h
   refine ⟨fin _ _ hE6,?_,fun _ => .inr (by omega)⟩
   have hM7 : Mod (fun k => k = w.heap.size + 1 + 1) w6 (w6.setCell ⟨w.heap.size + 1 + 1,0,none⟩ (.slice a5 l.length c5)) := (Mod.refl _ _).setC _ _
   have := (sl_of_own hput).mod hM7 (by omega)
   show Sl _ 4 _ (l.set i s).length _
   simpa using this
  | none =>
   have hI : fndI l s.f s.t s.a = -1 := by simp [fndI,hfi]
   have hlen5 := fun ty W => hsl5.isLen (P := Tryz.prog) (t := 23) (by simp) ty W
   rw [hI]
   by_cases h512 : 512 ≤ l.length
   ·have h512' : (512 : Int) ≤ l.length := by omega
    simp [hr5,hlen5,h512',t0.cell]
    simp [rsetE,rsetW,rsetL,hbad,hfi,h512,t2.cell,t2.thaw,cell_setCell]
    exact ⟨fin _ _ hE15,h.ext (fin _ _ hE15)⟩
   ·have h512' : ¬ ((512 : Int) ≤ l.length) := by omega
    simp [hr5,hlen5,h512',t1.c0,t1.c1,t1.c2,t1.c3]
    have hm := Sl.made w5 (stCells s) 94 4 1 rfl
    have hE6 := (Ext.refl w5).alloc (.cells (stCells s).toArray 94)
    simp only [stCells] at hm hE6
    have ho6 := own_ext ho5 hE6
    have u2 := t2.ext hE6
    have zz6 := hE6.size
    have hw6 : (w5.alloc (.cells [u32 s.f,u32 s.t,u64 s.a,u64 s.k].toArray 94)) = (w5.alloc (.cells #[u32 s.f,u32 s.t,u64 s.a,u64 s.k] 94)) := rfl
    rw [hw6] at hm hE6 ho6 u2 zz6
    generalize (w5.alloc (.cells #[u32 s.f,u32 s.t,u64 s.a,u64 s.k] 94)) = w6 at *
    obtain ⟨v7,w7,hr7,ho7,hM7,hnew⟩ := append_own (P := Tryz.prog) (t := 23) (ty := 23) (e := 94) (s := 4) (by simp) (by simp) (by kernel_rfl) ho6 hm (by intro u hu; simp at hu; rcases hu with rfl | rfl | rfl | rfl <;> rfl) (by omega) (by omega)
    obtain ⟨a7,c7,hv7⟩ := own_val ho7
    have x2 := u2.mod hM7 (fun hk => by have := hge hk.1; omega)
    subst hv7
    simp [hr7]
    simp [rsetE,rsetW,rsetL,hbad,hfi,h512,x2.cell,x2.thaw,cell_setCell]
    have hn7 := own_nil ho7 (by omega)
    have hge7 := own_ge ho7 hn7
    have hE7 : Ext w w7 := (((hE15.trans hE6).mod (S := fun k => w.heap.size ≤ k)).trans (hM7.weaken fun k hk => by have := hge hk.1; omega)).ext fun _ h => h
    refine ⟨fin _ _ hE7,?_,by omega⟩
    have hM8 : Mod (fun k => k = w.heap.size + 1 + 1) w7 (w7.setCell ⟨w.heap.size + 1 + 1,0,none⟩ (.slice a7 (l.length + 1) c7)) := (Mod.refl _ _).setC _ _
    have := (sl_of_own ho7).mod hM8 (by omega)
    show Sl _ 4 _ (l ++ [s]).length _
    simpa [stCells] using this
end Go.Proofs