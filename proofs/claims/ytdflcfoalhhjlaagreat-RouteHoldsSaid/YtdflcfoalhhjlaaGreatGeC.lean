/-
 Contracts of the functions that the law reaches,step by step.
-/
import Derived.Test.YtdflcfoalhhjlaaGreatGeA
import Derived.Test.YtdflcfoalhhjlaaGreatEngV
namespace Go.Proofs
open Pk
set_option maxRecDepth 10000
def ofFG (f g : Int) (s : St) : Bool := decide (s.f = f) && decide (s.t = g)
def isSteps (l : List St) (f g : Int) (R : List St) : Prop := (R.Pairwise fun a b => a.a ≤ b.a) ∧ R.Perm (l.filter (ofFG f g))
theorem isSteps.skip {l R : List St} {f g : Int} {i : Nat} (h : isSteps (l.take i) f g R) (hi : i < l.length) (hn : ofFG f g l[i] = false) : isSteps (l.take (i + 1)) f g R := by
 refine ⟨h.1,?_⟩
 rw [List.take_add_one,List.getElem?_eq_getElem hi,List.filter_append]
 simpa [hn] using h.2
theorem isSteps.ins {l R : List St} {f g : Int} {i k : Nat} (h : isSteps (l.take i) f g R) (hi : i < l.length) (hn : ofFG f g l[i] = true) (h1 : ∀ y ∈ R.take k, y.a ≤ l[i].a) (h2 : ∀ y ∈ R.drop k, l[i].a ≤ y.a) : isSteps (l.take (i + 1)) f g (insAt R k l[i]) := by
 refine ⟨insAt_sorted h.1 h1 h2,?_⟩
 rw [List.take_add_one,List.getElem?_eq_getElem hi,List.filter_append]
 refine (insAt_perm _ _ _).trans ?_
 simpa [hn] using h.2.append_right [l[i]]
set_option maxHeartbeats 1000000 in
theorem rsteps_c {w : World} {v : Value} {l : List St} (h : TRw w v l) (f g : Int) (hb : l.length ≤ 1000) :
  FN Tryz.prog 168 [.agg #[v],u32 f,u32 g] w fun e w' => ∃ u R,e = .returned u ∧ isSteps l f g R ∧ w'.ownsRow w.heap.size 94 4 u R.length (R.flatMap stCells) ∧ Ext w w' := by
 refine FN_enter Tryz.func168 rfl rfl (by kernel_rfl) ?_
 obtain ⟨va,vc,hv⟩ := h.isSlice
 subst hv
 have hlen := fun ty W => h.isLen (P := Tryz.prog) (t := 23) (by simp) ty W
 simp
 have hE1 : Ext w (w.alloc (.cells #[.slice va l.length vc] 38)) := (Ext.refl w).alloc _
 have o1 : Var (w.alloc (.cells #[.slice va l.length vc] 38)) w.heap.size (.slice va l.length vc) := Var.new w _ _
 generalize (w.alloc (.cells #[.slice va l.length vc] 38)) = w1 at *
 have z1 := hE1.size
 refine WC_loop (fun k ρ ds w' => ∃ (i : Nat) (R : List St) (v7 : Value), k = l.length - i ∧ i ≤ l.length ∧ ρ 1 = u32 f ∧ ρ 2 = u32 g ∧ ρ 3 = ptr w.heap.size ∧ ρ 8 = i64 i ∧ ρ 7 = v7 ∧ ds = [] ∧ Ext w1 w' ∧ isSteps (l.take i) f g R ∧ w'.ownsRow w1.heap.size 94 4 v7 R.length (R.flatMap stCells)) l.length
  ⟨0,[],.slice none 0 0,by simp,by simp,by simp,by simp,by simp,by simp,by simp,rfl,Ext.refl _,⟨by simp,by simp⟩,World.ownsRow_nil _ _ _ _⟩ ?_
 rintro k ρ ds w2 ⟨i,R,v7,rfl,hi,e1,e2,e3,e8,e7,rfl,hE,hR,hO⟩
 have o2 := o1.ext hE
 have hE2 := hE1.trans hE
 by_cases hlt : i < l.length
 ·have r := TRw.row (h.ext hE2) (List.getElem?_eq_getElem hlt)
  have ix := TRw.index h i hlt w2
  simp [e1,e3,e8,o2.cell,hlen,hlt,ix,r.c0,r.c1,r.c2,r.c3]
  have hE3 : Ext w2 (w2.alloc (.cells #[u32 l[i].f,u32 l[i].t,u64 l[i].a,u64 l[i].k] 94)) := (Ext.refl _).alloc _
  have s2 := StAt.new w2 l[i] 94
  have z3 : (w2.alloc (.cells #[u32 l[i].f,u32 l[i].t,u64 l[i].a,u64 l[i].k] 94)).heap.size = w2.heap.size + 1 := by simp
  generalize (w2.alloc (.cells #[u32 l[i].f,u32 l[i].t,u64 l[i].a,u64 l[i].k] 94)) = w3 at *
  have nx : IntKind.i64.wrap ((i : Int) + 1) = ((i + 1 : Nat) : Int) := by rw [wrap64 _ (by omega) (by omega)]; rfl
  have hO3 := own_ext hO hE3
  have hRl : R.length ≤ l.length := by
   have h1 := hR.2.length_eq
   have h2 := List.length_filter_le (ofFG f g) (l.take i)
   have h3 := List.length_take_le i l
   omega
  have hlen7 := fun ty W => (sl_of_own hO).isLen (P := Tryz.prog) (t := 23) (by simp) ty W
  by_cases b0 : l[i].f = f
  ·by_cases b1 : l[i].t = g
   ·have hq : ofFG f g l[i] = true := by simp [ofFG,b0,b1]
    subst b0
    subst b1
    simp [e2,e7,s2.c0,s2.c1,s2.c2,s2.c3,hlen7]
    have hm := Sl.made w3 (stCells l[i]) 94 4 1 rfl
    have hE4 := (Ext.refl w3).alloc (.cells (stCells l[i]).toArray 94)
    have hw4 : (w3.alloc (.cells (stCells l[i]).toArray 94)) = (w3.alloc (.cells #[u32 l[i].f,u32 l[i].t,u64 l[i].a,u64 l[i].k] 94)) := rfl
    rw [hw4] at hm hE4
    have hO4 := own_ext hO3 hE4
    have z4 := hE4.size
    have s4 := s2.ext hE4
    generalize (w3.alloc (.cells #[u32 l[i].f,u32 l[i].t,u64 l[i].a,u64 l[i].k] 94)) = w4 at *
    have hB7 : slN v7 = false → slB v7 < w2.heap.size := fun hn => by
     obtain ⟨c,hc⟩ := own_obj hO hn
     exact (Array.getElem?_eq_some_iff.1 hc).1
    obtain ⟨v8,w5,hr5,hO5,hM5,hnew⟩ := append_own (P := Tryz.prog) (t := 23) (ty := 23) (e := 94) (s := 4) (by simp) (by simp) (by kernel_rfl) hO4 hm (by intro u hu; simp [stCells] at hu; rcases hu with rfl | rfl | rfl | rfl <;> rfl) (by omega) (by have := hE.size; omega)
    have hB8 : slB v8 ≠ w2.heap.size := fun he => by
     have hn8 := own_nil hO5 (by omega)
     rcases hnew hn8 with ⟨h1, h2⟩ | h1
     ·have := hB7 h1; omega
     ·omega
    have hge8 := own_ge hO5 (own_nil hO5 (by omega))
    have s5 : StAt w5 w2.heap.size l[i] := by
     have hb : w5.heap[w2.heap.size]? = w4.heap[w2.heap.size]? := hM5.blk _ (by omega) fun hk => by have := hB7 hk.1; omega
     have hc := fun j => World.cell?_of_block (a := ⟨w2.heap.size,j,none⟩) hb
     exact ⟨(hc 0).trans s4.c0,(hc 1).trans s4.c1,(hc 2).trans s4.c2,(hc 3).trans s4.c3⟩
    have hE5 : Ext w1 w5 := (((hE.trans (hE3.trans hE4)).mod (S := fun k => w1.heap.size ≤ k)).trans (hM5.weaken fun k hk => by have := own_ge hO hk.1; omega)).ext fun _ h => h
    have hO5' : w5.ownsRow w1.heap.size 94 4 v8 (insAt R R.length l[i]).length ((insAt R R.length l[i]).flatMap stCells) := by
     rw [insAt_end,List.length_append,List.length_singleton,List.flatMap_append]
     simpa [stCells] using hO5
    simp [hr5]
    refine WC_loop (fun κ ρ ds w' => ∃ (k : Nat) (d : St), κ = k ∧ k ≤ R.length ∧ ρ 1 = u32 l[i].f ∧ ρ 2 = u32 l[i].t ∧ ρ 3 = ptr w.heap.size ∧ ρ 8 = i64 i ∧ ρ 7 = v8 ∧ ρ 9 = ptr w2.heap.size ∧ ρ 10 = i64 k ∧ ds = [] ∧ Mod (fun k => k = slB v8) w5 w' ∧
     w'.ownsRow w1.heap.size 94 4 v8 (insAt R k d).length ((insAt R k d).flatMap stCells) ∧ ∀ y ∈ R.drop k,l[i].a < y.a) R.length
     ⟨R.length,l[i],by simp,by simp,by simp [e1],by simp [e2],by simp [e3],by simp [e8],by simp,by simp,by simp,rfl,Mod.refl _ _,hO5',by simp⟩ ?_
    rintro κ ρ ds w6' ⟨k,d,hκ,hk,f1,f2,f3,f8,f7,f9,f10,rfl,hM',hO6',hgt⟩
    subst κ
    simp
    refine WC_drawC 11 (.F 0 <| .F 1 <| .F 2 <| .F 3 <| .F 4 <| .F 5 <| .F 6 <| .F 7 <| .F 8 <| .F 9 <| .F 10 <| .Z) (fun _ => false) rfl (by kernel_rfl) fun w6 hW => ?_
    have hWE : Ext w6' w6 := hW ▸ Ext.drew _
    have hM := hM'.trans hWE.mod
    have hO6 := own_ext hO6' hWE
    have hlk := insAt_len hk d
    have fin : ∀ W, Mod (fun k => k = slB v8) w6 W → W.ownsRow w1.heap.size 94 4 v8 (insAt R k l[i]).length ((insAt R k l[i]).flatMap stCells) → (∀ y ∈ R.take k, y.a ≤ l[i].a) →
      ∃ m',m' < l.length - i ∧ ∃ i_1,m' = l.length - i_1 ∧ i_1 ≤ l.length ∧ (i : Int) + 1 = (i_1 : Int) ∧ Ext w1 W ∧ ∃ R',isSteps (l.take i_1) l[i].f l[i].t R' ∧ W.ownsRow w1.heap.size 94 4 v8 R'.length (R'.flatMap stCells) :=
     fun W hMW hOW hle => ⟨l.length - (i + 1), by omega, i + 1, rfl, by omega, by simp, ((hE5.mod (S := fun k => w1.heap.size ≤ k)).trans ((hM.trans hMW).weaken fun k hk => by omega)).ext (fun _ h => h), _,
      hR.ins hlt hq hle (fun y hy => Int.le_of_lt (hgt y hy)),hOW⟩
    have hS6 : TRw w6 v8 (insAt R k d) := sl_of_own hO6
    have th := fun j => own_thaw hO6 (by omega) j
    have ixk := TRw.index hS6 k (by omega)
    have rk := TRw.row hS6 (insAt_at hk d)
    have s6 : StAt w6 w2.heap.size l[i] := by
     have hc := fun j u hc => hM.cell (a := ⟨w2.heap.size,j,none⟩) (v := u) hc (fun e => hB8 e.symm)
     exact ⟨hc _ _ s5.c0,hc _ _ s5.c1,hc _ _ s5.c2,hc _ _ s5.c3⟩
    have hput := own_put hO6 k (by omega) l[i]
    have hMp := mod_put w6 (slB v8) (slO v8 + k * 4) l[i]
    rw [insAt_set hk] at hput
    have hput' : (((((w6.setCell ⟨(slB v8), (slO v8 + k * 4), none⟩ (u32 l[i].f)).setCell ⟨(slB v8), (slO v8 + k * 4) + 1, none⟩ (u32 l[i].t)).setCell ⟨(slB v8), (slO v8 + k * 4) + 2, none⟩ (u64 l[i].a)).setCell ⟨(slB v8), (slO v8 + k * 4) + 3, none⟩ (u64 l[i].k))).ownsRow w1.heap.size 94 4 v8 (insAt R k l[i]).length ((insAt R k l[i]).flatMap stCells) := by
     rw [insAt_len hk]; rw [hlk] at hput; exact hput
    cases k with
    | zero =>
     simp [f10]
     rw [f7]
     have k0 := rk.c0
     have k1 := rk.c1
     have k2 := rk.c2
     have k3 := rk.c3
     simp only [Nat.zero_mul,Nat.add_zero,Int.cast_ofNat_Int] at ixk k0 k1 k2 k3 hput' hMp
     simp [f1,f2,f3,f7,f8,f9,nx,ixk,s6.c0,s6.c1,s6.c2,s6.c3,k0,k1,k2,k3,th,cell_setCell]
     exact fin _ hMp hput' (by simp)
    | succ k =>
     have hkl : k < R.length := by omega
     have rk' := TRw.row hS6 ((insAt_lt hk d (Nat.lt_succ_self k)).trans (List.getElem?_eq_getElem hkl))
     have ixk' := TRw.index hS6 k (by omega)
     have nm : IntKind.i64.wrap (k : Int) = (k : Int) := wrap64 _ (by omega) (by omega)
     have hp : (0 : Int) < (k : Int) + 1 := by omega
     push_cast at ixk
     by_cases hx : l[i].a < R[k].a
     ·have hp2 := own_put hO6 (k + 1) (by omega) R[k]
      have hM2 := mod_put w6 (slB v8) (slO v8 + (k + 1) * 4) R[k]
      rw [insAt_set hk,insAt_shift hkl,hlk,← insAt_len (k := k) (by omega) R[k]] at hp2
      simp [f10,f7,f9,hp,nm,ixk',s6.c2,rk'.c0,rk'.c1,rk'.c2,rk'.c3,hx,ixk,rk.c0,rk.c1,rk.c2,rk.c3,th,cell_setCell]
      refine ⟨k,by omega,by omega,f1,f2,f3,f8,rfl,hM.trans hM2,⟨R[k],hp2⟩,fun y hy => ?_⟩
      rw [List.drop_eq_getElem_cons hkl] at hy
      rcases List.mem_cons.1 hy with rfl | hy
      ·exact hx
      ·exact hgt y hy
     ·simp [f10,f7,f9,hp,nm,ixk',s6.c2,rk'.c2,hx]
      simp [f1,f2,f3,f7,f8,nx,ixk,s6.c0,s6.c1,s6.c2,s6.c3,rk.c0,rk.c1,rk.c2,rk.c3,th,cell_setCell]
      exact fin _ hMp hput' (take_le (key := St.a) hR.1 hkl (by omega))
   ·simp [bne_dec,b0,b1,e1,e2,e3,e7,e8,nx,s2.c1]
    exact ⟨l.length - (i + 1),by omega,i + 1,rfl,by omega,by simp,hE.trans hE3,R,hR.skip hlt (by simp [ofFG,b1]),hO3⟩
  ·simp [bne_dec,b0,e1,e2,e3,e7,e8,nx]
   exact ⟨l.length - (i + 1),by omega,i + 1,rfl,by omega,by simp,hE.trans hE3,R,hR.skip hlt (by simp [ofFG,b0]),hO3⟩
 ·have : i = l.length := by omega
  subst this
  rw [List.take_length] at hR
  simp [e3,e7,e8,o2.cell,hlen]
  exact ⟨R,hR,own_lower hO z1,hE2⟩
end Go.Proofs
namespace Go.Proofs
open Pk
set_option maxRecDepth 10000
def keyS (s : St) : Int × Int × Int := (s.f,s.t,s.a)
theorem hit_iff {f g a : Int} {s : St} : hitS f g a s = true ↔ keyS s = (f, g, a) := by
 simp [hitS,keyS]
structure RelT (M : ME) (l : List St) : Prop where
 uni : (l.map keyS).Nodup
 get : ∀ s : St,mget (sps M (s.f,s.t)) s.a = some s.k ↔ s ∈ l
 cnt : total M = l.length
 ok : ∀ s ∈ l,StOk s ∧ badS s = false
theorem key_uniq {l : List St} (h : (l.map keyS).Nodup) {x y : St} (hx : x ∈ l) (hy : y ∈ l) (e : keyS x = keyS y) : x = y := by
 obtain ⟨i,hi,rfl⟩ := List.getElem_of_mem hx
 obtain ⟨j,hj,rfl⟩ := List.getElem_of_mem hy
 have : i = j := by
  have e1 : (l.map keyS)[i]? = some (keyS l[i]) := by simp [hi]
  have e2 : (l.map keyS)[j]? = some (keyS l[i]) := by simp [hj,e]
  exact (List.getElem?_inj (by simpa using hi) h).1 (e1.trans e2.symm)
 subst this
 rfl
theorem fnd_iff {l : List St} (h : (l.map keyS).Nodup) {f g a : Int} {s : St} : l.find? (hitS f g a) = some s ↔ s ∈ l ∧ keyS s = (f, g, a) := by
 constructor
 ·intro hs
  exact ⟨List.mem_of_find?_eq_some hs,hit_iff.1 (by simpa using List.find?_some hs)⟩
 ·rintro ⟨h1,h2⟩
  cases hx : l.find? (hitS f g a) with
  | none =>
   have := List.find?_eq_none.1 hx s h1
   exact absurd (hit_iff.2 h2) this
  | some y =>
   have h3 := List.mem_of_find?_eq_some hx
   have h4 := hit_iff.1 (by simpa using List.find?_some hx)
   rw [key_uniq h h3 h1 (h4.trans h2.symm)]
theorem RelT.mget {M : ME} {l : List St} (h : RelT M l) (f g a : Int) : mget (sps M (f, g)) a = (l.find? (hitS f g a)).map (·.k) := by
 cases hm : Pk.mget (sps M (f,g)) a with
 | some k =>
  have h1 := (h.get ⟨f,g,a,k⟩).1 hm
  rw [(fnd_iff h.uni).2 ⟨h1,rfl⟩]
  rfl
 | none =>
  cases hx : l.find? (hitS f g a) with
  | none => rfl
  | some y =>
   obtain ⟨h3,h4⟩ := (fnd_iff h.uni).1 hx
   have h5 := (h.get y).2 h3
   simp only [keyS,Prod.mk.injEq] at h4
   rw [h4.1,h4.2.1,h4.2.2,hm] at h5
   cases h5
theorem find_idx {l : List St} {p : St → Bool} {i : Nat} (h : l.findIdx? p = some i) (hi : i < l.length) : l.find? p = some l[i] := by
 rw [List.find?_eq_some_iff_getElem]
 obtain ⟨h0,h1,h2⟩ := List.findIdx?_eq_some_iff_getElem.1 h
 exact ⟨h1,i,hi,rfl,fun j hj => by simpa using h2 j hj⟩
theorem find_findIdx {l : List St} {p : St → Bool} : l.find? p = (l.findIdx? p).bind fun i => l[i]? := by
 cases h : l.findIdx? p with
 | none =>
  have := List.findIdx?_eq_none_iff.1 h
  simp [List.find?_eq_none]
  exact fun x hx => by rw [this x hx]
 | some i =>
  obtain ⟨hi,-⟩ := List.findIdx?_eq_some_iff_getElem.1 h
  rw [find_idx h hi]
  simp [hi]
theorem RelT.isS {M : ME} {l : List St} (h : RelT M l) (f g a : Int) : (Pk.mget (sps M (f, g)) a).isSome = (l.findIdx? (hitS f g a)).isSome := by
 rw [h.mget,find_findIdx]
 cases hi : l.findIdx? (hitS f g a) with
 | none => rfl
 | some i =>
  obtain ⟨hi,-⟩ := List.findIdx?_eq_some_iff_getElem.1 hi
  simp [hi]
theorem RelT.nil : RelT [] [] := ⟨by simp,fun s => by simp [sps,Pk.mget],rfl,by simp⟩
theorem RelT.setE {M : ME} {l : List St} (h : RelT M l) (s : St) : setE M s = rsetE l s := by
 unfold Go.Proofs.setE rsetE
 have := h.isS s.f s.t s.a
 cases h1 : l.findIdx? (hitS s.f s.t s.a) with
 | none =>
  rw [h1] at this
  have h2 : Pk.mget (sps M (s.f,s.t)) s.a = none := by simpa using this
  rw [h2,h.cnt]
  simp
 | some i =>
  rw [h1] at this
  have h2 : (Pk.mget (sps M (s.f, s.t)) s.a).isNone = false := by
   cases hx : Pk.mget (sps M (s.f,s.t)) s.a with
   | none => rw [hx] at this; cases this
   | some x => rfl
  rw [h2]
  simp
theorem RelT.wasS {M : ME} {l : List St} (h : RelT M l) (s : St) : wasS M s = rsetW l s := by
 unfold Go.Proofs.wasS rsetW
 rw [h.setE,h.isS]
 unfold rsetE
 cases hb : badS s <;> cases h1 : l.findIdx? (hitS s.f s.t s.a) <;> simp
theorem RelT.set {M M' : ME} {l : List St} (h : RelT M l) {s : St} (hs : StOk s) (h1 : ∀ q, sps M' q = if Go.Proofs.setE M s = 0 ∧ q = (s.f, s.t) then mset (sps M q) s.a s.k else sps M q)
  (h2 : total M' = (if Go.Proofs.setE M s = 0 ∧ Go.Proofs.wasS M s = false then total M + 1 else total M)) : RelT M' (rsetL l s) := by
 rw [h.setE,h.wasS] at h2
 rw [h.setE] at h1
 by_cases h0 : rsetE l s = 0
 ·have hb : badS s = false := by
   cases hb : badS s with
   | false => rfl
   | true => simp [rsetE,hb] at h0
  have hget : ∀ x : St, Pk.mget (sps M' (x.f, x.t)) x.a = some x.k ↔ x = s ∨ (x ∈ l ∧ keyS x ≠ keyS s) := by
   intro x
   rw [h1]
   by_cases hq : (x.f, x.t) = (s.f, s.t)
   ·rw [if_pos ⟨h0,hq⟩,kget_mset]
    simp only [Prod.mk.injEq] at hq
    by_cases ha : x.a = s.a
    ·rw [if_pos ha]
     constructor
     ·intro e
      refine .inl ?_
      obtain ⟨x1,x2,x3,x4⟩ := x
      obtain ⟨s1,s2,s3,s4⟩ := s
      simp only at hq ha e
      simp at e
      simp [hq,ha,e]
     ·rintro (rfl | ⟨-, hk⟩)
      ·rfl
      ·exact absurd (by simp [keyS,hq,ha]) hk
    ·rw [if_neg ha,h.get]
     constructor
     ·exact fun hx => .inr ⟨hx,fun e => ha (by simp only [keyS,Prod.mk.injEq] at e; exact e.2.2)⟩
     ·rintro (rfl | ⟨hx, -⟩)
      ·exact absurd rfl ha
      ·exact hx
   ·rw [if_neg fun e => hq e.2,h.get]
    constructor
    ·exact fun hx => .inr ⟨hx,fun e => hq (by simp only [keyS,Prod.mk.injEq] at e; simp [e])⟩
    ·rintro (rfl | ⟨hx, -⟩)
     ·exact absurd rfl hq
     ·exact hx
  cases hi : l.findIdx? (hitS s.f s.t s.a) with
  | some i =>
   have hil : i < l.length := (List.findIdx?_eq_some_iff_getElem.1 hi).1
   have hk : keyS l[i] = keyS s := hit_iff.1 (List.findIdx?_eq_some_iff_getElem.1 hi).2.1
   have hL : rsetL l s = l.set i s := by simp [rsetL,hb,hi]
   have hW : rsetW l s = true := by simp [rsetW,hb,hi]
   rw [hL]
   have hkeys : (l.set i s).map keyS = l.map keyS := by
    rw [List.map_set,← hk]
    have := @List.set_getElem_self _ (l.map keyS) i (by simpa using hil)
    simpa using this
   have hmem : ∀ x : St, x ∈ l.set i s ↔ x = s ∨ (x ∈ l ∧ keyS x ≠ keyS s) := by
    intro x
    constructor
    ·intro hx
     obtain ⟨j,hj,rfl⟩ := List.getElem_of_mem hx
     simp only [List.length_set] at hj
     rw [List.getElem_set]
     by_cases hij : i = j
     ·rw [if_pos hij]; exact .inl rfl
     ·rw [if_neg hij]
      refine .inr ⟨List.getElem_mem _,fun e => hij ?_⟩
      have e1 : (l.map keyS)[i]? = some (keyS s) := by simp [hil,hk]
      have e2 : (l.map keyS)[j]? = some (keyS s) := by simp [hj,e]
      exact (List.getElem?_inj (by simpa using hil) h.uni).1 (e1.trans e2.symm)
    ·rintro (rfl | ⟨hx, hne⟩)
     ·exact List.mem_set (by simpa using hil) _
     ·obtain ⟨j,hj,rfl⟩ := List.getElem_of_mem hx
      have hij : i ≠ j := fun e => hne (by subst e; exact hk)
      have : (l.set i s)[j]'(by simpa using hj) = l[j] := by rw [List.getElem_set,if_neg hij]
      rw [← this]
      exact List.getElem_mem _
   refine ⟨by rw [hkeys]; exact h.uni, fun x => (hget x).trans (hmem x).symm, ?_, fun x hx => ?_⟩
   ·rw [h2,hW]; simp [h.cnt]
   ·rcases (hmem x).1 hx with rfl | ⟨hx, -⟩
    ·exact ⟨hs,hb⟩
    ·exact h.ok x hx
  | none =>
   have hno : ∀ x ∈ l, keyS x ≠ keyS s := fun x hx e => by
    have := List.findIdx?_eq_none_iff.1 hi x hx
    rw [hit_iff.2 e] at this
    cases this
   have hn : ¬ 512 ≤ l.length := fun hc => by simp [rsetE,hb,hi,hc] at h0
   have hL : rsetL l s = l ++ [s] := by simp [rsetL,hb,hi,hn]
   have hW : rsetW l s = false := by simp [rsetW,hi]
   rw [hL]
   refine ⟨?_, fun x => (hget x).trans ?_, ?_, fun x hx => ?_⟩
   ·rw [List.map_append,List.nodup_append]
    refine ⟨h.uni,by simp,fun a ha b hb' e => ?_⟩
    simp at hb'; subst hb'
    obtain ⟨x,hx,rfl⟩ := List.mem_map.1 ha
    exact hno x hx e
   ·constructor
    ·rintro (rfl | ⟨hx,-⟩) <;> simp_all
    ·intro hx
     rcases List.mem_append.1 hx with hx | hx
     ·exact .inr ⟨hx,hno x hx⟩
     ·simp at hx; exact .inl hx
   ·rw [h2,hW]; simp [h0,h.cnt]
   ·rcases List.mem_append.1 hx with hx | hx
    ·exact h.ok x hx
    ·simp at hx; subst hx; exact ⟨hs,hb⟩
 ·have hL : rsetL l s = l := by
   unfold rsetL
   unfold rsetE at h0
   cases hb : badS s with
   | true => simp
   | false =>
    cases hi : l.findIdx? (hitS s.f s.t s.a) with
    | some i => simp [hb,hi] at h0
    | none =>
     by_cases h5 : 512 ≤ l.length
     ·simp [h5]
     ·simp [hb,hi,h5] at h0
  rw [hL]
  have hs' : ∀ q,sps M' q = sps M q := fun q => by rw [h1,if_neg fun e => h0 e.1]
  refine ⟨h.uni,fun x => by rw [hs']; exact h.get x,?_,h.ok⟩
  rw [h2,if_neg fun e => h0 e.1]; exact h.cnt
end Go.Proofs