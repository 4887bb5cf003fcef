/-
 Contracts of the functions that the law reaches,step by step.
-/
import Derived.Test.YtdflcfoalhhjlaaGreatRtA
namespace Go.Proofs
open Pk
set_option maxRecDepth 10000
theorem ccheckF_c (x : Int) (w : World) : FN Tryz.prog 98 [u64 x] w fun e w' => e = .returned (.bool (decide (x ≤ 4611686018427387903))) ∧ w' = w := by
 refine FN_enter Tryz.func98 rfl rfl (by kernel_rfl) ?_
 simp
theorem callF_c (x : Int) {b : Nat} {w : World} (hb : Var w b (.func (.func 98) #[] #[])) : FN Tryz.prog 129 [u64 x, ptr b] w fun e w' => e = .returned (.bool (!decide (x ≤ 4611686018427387903))) ∧ w' = w := by
 refine FN_enter Tryz.func129 rfl rfl (by kernel_rfl) ?_
 simp [hb.cell]
 refine FN.mono (ccheckF_c x w) ?_
 rintro _ w1 ⟨rfl,h1⟩
 subst h1
 simp
theorem indexF_c {w : World} {b : Nat} {v : Value} {l : List Int} (hb : Var w b (.func (.func 98) #[] #[])) (h : Sl w 1 v l.length (l.map u64)) (hl : l.length ≤ 1000) :
  FN Tryz.prog 149 [v,.func (.func 129) #[] #[ptr b]] w fun e w' => (∃ i : Int,e = .returned (i64 i) ∧ decide (0 ≤ i) = !l.all fun x => decide (x ≤ 4611686018427387903)) ∧ w' = w := by
 refine FN_enter Tryz.func149 rfl rfl (by kernel_rfl) ?_
 have hlen := fun ty W => h.isLen (P := Tryz.prog) (t := 180) (by simp) ty W
 simp [hlen]
 refine WC_loop (fun k ρ ds w' => ∃ i : Nat,k = l.length - i ∧ i ≤ l.length ∧ ρ 0 = v ∧ ρ 1 = .func (.func 129) #[] #[ptr b] ∧ ρ 7 = i64 l.length ∧ ρ 8 = i64 i ∧ ds = [] ∧ w' = w ∧ ∀ j (hj : j < l.length),j < i → l[j] ≤ 4611686018427387903) l.length ⟨0,by simp,by simp,by simp,by simp,by simp,by simp,rfl,rfl,fun j _ h => by omega⟩ ?_
 rintro k ρ ds w1 ⟨i,rfl,hi,e0,e1,e7,e8,rfl,rfl,hno⟩
 by_cases hlt : i < l.length
 ·have ix := fun W => h.index (P := Tryz.prog) (t := 180) (by simp) .i64 i (by omega) (by omega) W
  have d := h.at_ i (u64 l[i]) (by simp [hlt])
  simp [e0,e1,e7,e8,hlt,ix,d]
  refine FN.mono (callF_c l[i] hb) ?_
  rintro _ w2 ⟨rfl,h2⟩
  subst h2
  by_cases hx : l[i] ≤ 4611686018427387903
  ·simp [hx,e0,e1,e7,e8]
   refine ⟨l.length - (i + 1),by omega,i + 1,rfl,by omega,by rw [wrap64 _ (by omega) (by omega)]; rfl,fun j hj hji => ?_⟩
   rcases Nat.lt_succ_iff_lt_or_eq.1 hji with h1 | rfl
   ·exact hno j hj h1
   ·exact hx
  ·simp [hx]
   exact ⟨l[i],by simp,by omega⟩
 ·have : i = l.length := by omega
  subst this
  simp [e7,e8]
  intro x hx
  obtain ⟨j,hj,rfl⟩ := List.getElem_of_mem hx
  exact hno j hj hj
def timesOk (l : List Int) : Bool := l.all fun x => decide (x ≤ 4611686018427387903)
theorem ccheck_c {w : World} {v : Value} {l : List Int} (h : Sl w 1 v l.length (l.map u64)) (hl : l.length ≤ 1000) : FN Tryz.prog 37 [v] w fun e w' => e = .returned (i64 (if timesOk l then 0 else 2)) ∧ Ext w w' := by
 refine FN_enter Tryz.func37 rfl rfl (by kernel_rfl) ?_
 simp
 have hall : FN Tryz.prog 97 [.func (.func 98) #[] #[], v] w fun e w' => e = .returned (.bool (timesOk l)) ∧ Ext w w' := by
  refine FN_enter Tryz.func97 rfl rfl (by kernel_rfl) ?_
  simp
  have hE1 := (Ext.refl w).alloc (.cells #[.func (.func 98) #[] #[]] 182)
  have v1 : Var (w.alloc (.cells #[.func (.func 98) #[] #[]] 182)) w.heap.size (.func (.func 98) #[] #[]) := Var.new w _ _
  generalize (w.alloc (.cells #[.func (.func 98) #[] #[]] 182)) = w1 at *
  refine FN_enter Tryz.func128 rfl rfl (by kernel_rfl) ?_
  simp
  refine FN.mono (indexF_c v1 (h.ext hE1) hl) ?_
  rintro _ w2 ⟨⟨i,rfl,hi⟩,h2⟩
  subst h2
  simp [hi,timesOk]
  exact hE1
 refine FN.mono (hall) ?_
 rintro _ w1 ⟨rfl,hE1⟩
 cases ht : timesOk l with
 | true => simp; exact hE1
 | false => simp; exact hE1
end Go.Proofs
namespace Go.Proofs
open Pk
set_option maxRecDepth 10000
abbrev seC (q : Qu) (nv : Value) (til : Int) : List Value := [u32 q.fr,u32 q.to',u64 q.at_,u64 q.size,i64 q.most,nv,u64 til]
structure NextT (L : List Ct) (snt : Ct → Int → Option Int) (q : Qu) (til : Int) (no' : List Ct) (x : Wy) (b : Bool) : Prop where
 y : b = true → BestT L snt (firsts L q) q x 0 ∧ x.a < til ∧ no' = q.no ++ [x.f]
 n : b = false → x = wyZ ∧ no' = q.no ∧ ∃ x0 n,BestT L snt (firsts L q) q x0 n ∧ (n = 0 → til ≤ x0.a)
def NextE (L : List Ct) (snt : Ct → Int → Option Int) (q : Qu) (til : Int) (s : Nat) (nv : Value) (w : World) (e : Ending) (w' : World) : Prop :=
 ∃ (x : Wy) (b : Bool) (no' : List Ct) (nv' : Value), e = .returned (.tuple #[wyV x, .bool b]) ∧ NextT L snt q til no' x b ∧
   Mod (· = s) w w' ∧ Blk w' s (seC q nv' til) ∧ SlB w' 5 nv' no'.length (no'.flatMap ctC) ∧ (nv' = nv ∧ no' = q.no ∨ w.heap.size ≤ slB nv')
set_option maxHeartbeats 2000000 in
theorem next_c {w : World} {g p t R a r s : Nat} {v nv : Value} {L : List Ct} {M : ME} {m : VM} {q : Qu} {til : Int} (h : GrAt w g p v L t R M a r m) (hno : SlB w 5 nv q.no.length (q.no.flatMap ctC)) (hg : gdT M) (hm : vmOk m) (hsl : ∀ p, (sps M p).length ≤ 255) (hq : QuOk q)
  (hL : ∀ c ∈ L,CtOk c) (hl : L.length ≤ 14) (hnl : q.no.length ≤ 900) (hs : Blk w s (seC q nv til)) : FN Tryz.prog 40 [ptr s,ptr g] w fun e w' => NextE L (gSnt M m q.size) q til s nv w e w' := by
 refine FN_enter Tryz.func40 rfl rfl (by kernel_rfl) ?_
 obtain ⟨na,nc,hnv⟩ := hno.isSlice
 have hE1 : Ext w (w.alloc (.cells #[u64 0,i64 0,u32 0,u32 0,u32 0,u64 0,u64 0,u64 0] 66)) := (Ext.refl w).alloc _
 have k1 : Blk (w.alloc (.cells #[u64 0, i64 0, u32 0, u32 0, u32 0, u64 0, u64 0, u64 0] 66)) w.heap.size (wyC wyZ) := by
  have := Blk.new w (wyC wyZ) 66
  simp [wyZ] at this
  exact this
 have z1 : (w.alloc (.cells #[u64 0,i64 0,u32 0,u32 0,u32 0,u64 0,u64 0,u64 0] 66)).heap.size = w.heap.size + 1 := by simp
 have sl := hs.lt
 simp
 generalize (w.alloc (.cells #[u64 0,i64 0,u32 0,u32 0,u32 0,u64 0,u64 0,u64 0] 66)) = w1 at *
 refine WC_scope 0 _ rfl ?_
 have s1 := hs.ext hE1
 simp [(s1).cell 0 _ rfl,(s1).cell 1 _ rfl,(s1).cell 2 _ rfl,(s1).cell 3 _ rfl,(s1).cell 4 _ rfl,(s1).cell 5 _ rfl]
 refine FN.mono (gbest_c (h.ext hE1) (hno.ext hE1) hg hm hsl hq hL hl (by omega)) ?_
 rintro _ w2 ⟨⟨x,n,rfl,hT⟩,hE2⟩
 have k2 := k1.ext hE2
 have s2 := s1.ext hE2
 have hX2 := hE1.trans hE2
 have hM := put8_mod w2 w.heap.size (u64 x.a) (i64 x.h) (u32 x.n) (u32 x.f.fr) (u32 x.f.to') (u64 x.f.sf) (u64 x.f.su) (u64 x.f.rate)
 have hB := put8_blk k2 rfl (u64 x.a) (i64 x.h) (u32 x.n) (u32 x.f.fr) (u32 x.f.to') (u64 x.f.sf) (u64 x.f.su) (u64 x.f.rate)
 simp [(k2).cell 0 _ rfl,(k2).cell 1 _ rfl,(k2).cell 2 _ rfl,(k2).cell 3 _ rfl,(k2).cell 4 _ rfl,(k2).cell 5 _ rfl,(k2).cell 6 _ rfl,(k2).cell 7 _ rfl,k2.thaw,cell_setCell]
 have s3 := s2.mod hM (by omega)
 generalize World.setCell _ ⟨w.heap.size,7,none⟩ _ = w3 at *
 have hX3 : Ext w w3 := (hX2.mod (S := fun k => w.heap.size ≤ k)).trans (hM.weaken fun k hk => by omega) |>.ext fun _ h => h
 have hB : Blk w3 w.heap.size (wyC x) := hB
 refine WC_drawC 9 (.F 0 <| .F 1 <| .F 2 <| .F 3 <| .F 4 <| .F 5 <| .F 6 <| .F 7 <| .F 8 <| .Z) (fun _ => false) rfl (by kernel_rfl) fun W hW => ?_
 have hEW : Ext w3 W := hW ▸ Ext.drew w3
 have kW := hB.ext hEW
 have sW := s3.ext hEW
 have hXW := hX3.trans hEW
 have noW : ∀ (W8 : World), Mod (fun k => k = w.heap.size) W W8 → (n = 0 → til ≤ x.a) → NextE L (gSnt M m q.size) q til s nv w (.returned (.tuple #[wyV wyZ, .bool false])) W8 := fun W8 hM8 hn =>
  ⟨wyZ, false, q.no, nv, rfl, ⟨fun h => (by cases h), fun _ => ⟨rfl, rfl, x, n, hT, hn⟩⟩, (hXW.mod (S := fun k => w.heap.size ≤ k)).trans (hM8.weaken fun k hk => by omega) |>.ext (fun _ h => h) |>.mod, sW.mod hM8 (by omega), (hno.ext hXW).mod hM8 fun hn => by
   have := hno.lt (List.length_pos_iff.2 hn); omega,.inl ⟨rfl,rfl⟩⟩
 by_cases h0 : n = 0
 ·by_cases ha : til ≤ x.a
  ·have hM8 := put8_mod W w.heap.size (u64 0) (i64 0) (u32 0) (u32 0) (u32 0) (u64 0) (u64 0) (u64 0)
   simp [h0,ha,(kW).cell 0 _ rfl,(kW).cell 1 _ rfl,(kW).cell 2 _ rfl,(kW).cell 3 _ rfl,(kW).cell 4 _ rfl,(kW).cell 5 _ rfl,(kW).cell 6 _ rfl,(kW).cell 7 _ rfl,(sW).cell 6 _ rfl,kW.thaw,cell_setCell]
   generalize World.setCell _ ⟨w.heap.size,7,none⟩ _ = W8 at *
   exact noW _ hM8 fun _ => ha
  ·simp [h0,ha,(kW).cell 0 _ rfl,(sW).cell 6 _ rfl]
   refine WC_drawC 23 (.F 0 <| .F 1 <| .F 2 <| .F 3 <| .F 4 <| .F 5 <| .F 6 <| .F 7 <| .F 8 <| .F 9 <| .F 10 <| .F 11 <| .F 12 <| .F 13 <| .F 14 <| .F 15 <| .F 16 <| .F 17 <| .F 18 <| .F 19 <| .F 20 <| .C 21 <| .C 22 <| .Z) (fun _ => false) rfl (by kernel_rfl) fun W2 hW2 => ?_
   have hWE : Ext W W2 := hW2 ▸ Ext.drew _
   have kV := kW.ext hWE
   have sV := sW.ext hWE
   have hXV := hXW.trans hWE
   have h4 := hno.ext hXV
   have hlen := fun ty W' => h4.isLen (P := Tryz.prog) (t := 22) (by simp) ty W'
   obtain ⟨aa,shm,hsa⟩ := h4.sliceAll (P := Tryz.prog) (t := 22) (by simp) .i64 .i64 W2
   simp at shm
   simp [(sV).cell 5 _ rfl,hlen,shm,(kV).cell 3 _ rfl,(kV).cell 4 _ rfl,(kV).cell 5 _ rfl,(kV).cell 6 _ rfl,(kV).cell 7 _ rfl]
   have hE5 : Ext W2 (W2.alloc (.cells #[u32 x.f.fr,u32 x.f.to',u64 x.f.sf,u64 x.f.su,u64 x.f.rate] 64)) := (Ext.refl W2).alloc _
   refine KR_ext hE5 ?_
   have hone : Sl (W2.alloc (.cells #[u32 x.f.fr,u32 x.f.to',u64 x.f.sf,u64 x.f.su,u64 x.f.rate] 64)) 5 (.slice (some ⟨W2.heap.size,0,none⟩) 1 1) 1 (ctC x.f) := Sl.made W2 (ctC x.f) 64 5 1 rfl
   have sU := sV.ext hE5
   have kU := kV.ext hE5
   have h5 := hsa.ext hE5
   have hs5 := hE5.size
   have hsV := hXV.size
   have kl := kU.lt
   have hXU := hXV.trans hE5
   generalize (W2.alloc (.cells #[u32 x.f.fr,u32 x.f.to',u64 x.f.sf,u64 x.f.su,u64 x.f.rate] 64)) = W5 at *
   simp
   obtain ⟨cap,cur,W6,hr6,hs6,hE6,ho6,hz6⟩ := append_freshB (P := Tryz.prog) (t := 22) (ty := 22) (e := 64) (s := 5) (by simp) (by simp) (by kernel_rfl) h5 hone (by intro u hu; simp [ctC] at hu; rcases hu with rfl | rfl | rfl | rfl | rfl <;> rfl) (by omega) (by omega)
   have sZ := sU.ext hE6
   have kZ := kU.ext hE6
   have hXZ := hXU.trans hE6
   simp [hr6]
   refine KR_ext hE6 ?_
   have hM7 := (Mod.refl (fun k => k = s) W6).setC 5 (.slice (some ⟨W5.heap.size,0,none⟩) (q.no.length + 1) cap)
   have sY := sZ.set 5 (.slice (some ⟨W5.heap.size,0,none⟩) (q.no.length + 1) cap)
   have kY := kZ.mod hM7 (by omega)
   have hne : ¬ w.heap.size = s := by omega
   simp [(sZ).cell 5 _ rfl,sZ.thaw,cell_setCell,(kZ).cell 0 _ rfl,(kZ).cell 1 _ rfl,(kZ).cell 2 _ rfl,(kZ).cell 3 _ rfl,(kZ).cell 4 _ rfl,(kZ).cell 5 _ rfl,(kZ).cell 6 _ rfl,(kZ).cell 7 _ rfl,kZ.thaw,hne]
   generalize W6.setCell ⟨s,5,none⟩ _ = W7 at *
   have hM8 := put8_mod W7 w.heap.size (u64 x.a) (i64 x.h) (u32 x.n) (u32 x.f.fr) (u32 x.f.to') (u64 x.f.sf) (u64 x.f.su) (u64 x.f.rate)
   generalize World.setCell _ ⟨w.heap.size,7,none⟩ _ = W8 at *
   have hX : Mod (fun k => k = s ∨ w.heap.size ≤ k) w W8 := ((hXZ.mod.trans (hM7.weaken fun k hk => .inl hk)).trans (hM8.weaken fun k hk => .inr (by omega)))
   refine ⟨x,true,q.no ++ [x.f],_,rfl,⟨fun _ => ⟨h0 ▸ hT,by omega,rfl⟩,fun h => (by cases h)⟩,⟨hX.os,hX.tape,hX.out,hX.size,fun b hb hs => hX.blk b hb (by omega)⟩,sY.mod hM8 (by omega),?_,.inr (by simp only [slB]; omega)⟩
   have h6 := ((hs6.mod hM7 (by simp only [slB]; omega)).mod hM8 (by simp only [slB]; omega)).toB
   simpa [List.flatMap_append] using h6
 ·have hM8 := put8_mod W w.heap.size (u64 0) (i64 0) (u32 0) (u32 0) (u32 0) (u64 0) (u64 0) (u64 0)
  have hn0 : (n != 0) = true := by simp [h0]
  simp [hn0,(kW).cell 0 _ rfl,(kW).cell 1 _ rfl,(kW).cell 2 _ rfl,(kW).cell 3 _ rfl,(kW).cell 4 _ rfl,(kW).cell 5 _ rfl,(kW).cell 6 _ rfl,(kW).cell 7 _ rfl,kW.thaw,cell_setCell]
  generalize World.setCell _ ⟨w.heap.size,7,none⟩ _ = W8 at *
  exact noW _ hM8 fun h => (h0 h).elim
end Go.Proofs