/-
 Contracts of the functions that the law reaches,step by step.
-/
import Derived.Test.YtdflcfoalhhjlaaGreatSpA
import Derived.Test.YtdflcfoalhhjlaaGreatSrtF
namespace Go.Proofs
open Pk
set_option maxRecDepth 10000
theorem keys_it {w : World} {b1 : Nat} {v : Value} {m : ML} (v1 : Var w b1 v) (hm : MV w v m) :
  Iter Tryz.prog (.func (.func 176) #[] #[ptr b1]) (fun x => [u64 x]) (fun xs => xs.Perm (m.map (·.1))) (fun pre => pre.length ≤ m.length) (fun k => k = b1 ∨ v = .map (some k)) w := by
 intro y C0 J Jx W hA hcap hC0 hJ hJx hy h0
 have k1 := hcap b1 (.inl rfl)
 have k2 := fun r e => hcap r (.inr e)
 have v1W := v1.agr hA k1.1
 have hmW : MV W v m := hm.agr hA fun r e => hm.lt e
 refine FN_enter Tryz.func176 rfl rfl (by kernel_rfl) ?_
 obtain ⟨o,hr,hi⟩ := hmW.range (P := Tryz.prog) tm72
 simp [v1W.cell,hr]
 have hE := (Ext.refl W).alloc o
 have h0' := hJ C0 [] W (W.alloc o) h0 hE.agr
 obtain ⟨ib,hib⟩ : ∃ ib,ib = W.heap.size := ⟨_,rfl⟩
 have hsz : (W.alloc o).heap.size = ib + 1 := by rw [hib]; simp
 rw [← hib] at hi ⊢
 generalize (W.alloc o) = w1 at *
 refine WC_loop (fun k ρ ds w' => ∃ (idxs : List Nat) (C : Nat → Prop), k + idxs.length = m.length ∧ ρ 0 = y ∧ ρ 5 = ptr ib ∧ ds = [] ∧ VIter (Value.int .u64) (Value.int .u64) w' ib v m idxs ∧ J C ((seenOf m idxs).map (·.1)) w' ∧
  (∀ k,C k → C0 k ∨ ib < k) ∧ Agr (fun k => k < W.heap.size ∧ ¬ C0 k) W w') m.length ⟨[],C0,by simp,by simp,by simp,rfl,hi,h0',fun k h => .inl h,hE.agr⟩ ?_
 rintro k ρ ds w2 ⟨idxs,C,hk,e0,e5,rfl,hI,hj,hC,hAg⟩
 have hCi : ¬ C ib := fun h => by
  rcases hC _ h with h | h
  ·have := hC0 _ h; omega
  ·omega
 have hCr : ∀ r, v = .map (some r) → ¬ C r := fun r e h => by
  have h3 := hm.lt e
  have h4 := hA.size
  rcases hC _ h with h | h
  ·exact (k2 r e).2 h
  ·omega
 rcases hI.next (P := Tryz.prog) 0 with ⟨hp, hrun⟩ | ⟨i, p, w3, hpi, hni, hrun, hI3, hM3, hent, hs3⟩
 ·simp [e5,hrun]
  exact ⟨C,.inl ⟨_,(seenOf_all hp).map _,hj⟩⟩
 ·have hj3 : J C ((seenOf m idxs).map (·.1)) w3 := hJ _ _ _ _ hj (hM3.agr fun j hq e => by
   subst e
   rcases hq with hq | hq
   ·omega
   ·exact hCi hq)
  have hb3 := hI3.bound
  simp only [List.length_append,List.length_singleton] at hb3
  have hsp : ((seenOf m idxs).map (·.1) ++ [p.1]).length ≤ m.length := by
   have := seenOf_len m idxs
   simp; omega
  simp [e0,e5,hrun,hent]
  refine CV.mono (hy C _ p.1 w3 hsp hj3) ?_
  rintro _ w4 (⟨rfl, C', hj', hown⟩ | ⟨rfl, C', hj', hown⟩)
  ·simp [e0,e5]
   have hM4 := hown.mod
   refine ⟨k - 1, by omega, idxs ++ [i], by simp; omega, hI3.mod hM4 hCr hCi, C', ?_, ?_, ?_⟩
   ·rw [seenOf_snoc hpi,List.map_append]; exact hj'
   ·intro k' hk'
    rcases hown.own k' hk' with h | h
    ·exact hC k' h
    ·have := hI3.lt.2; exact .inr (by omega)
   ·refine hAg.trans ((hM3.agr fun i hi e => by subst e; omega).trans (hM4.agr fun i hi hc => ?_))
    rcases hC i hc with h | h
    ·exact hi.2 h
    ·omega
  ·simp
   exact ⟨C',.inr ⟨_,hsp,hj'⟩⟩
theorem appendSeq_c {w : World} {gf : FuncId} {first caps : Array Value} {S Sp : List Int → Prop} {Cap : Nat → Prop} (hit : Iter Tryz.prog (.func (.func gf) first caps) (fun x => [u64 x]) S Sp Cap w) (hent : ∀ l w, (callFunc gf l).run Tryz.prog w = .ok (.enter gf l) w)
  (hcap : ∀ k,Cap k → k < w.heap.size) (hb : ∀ xs,Sp xs → xs.length ≤ 1048576) :
  FN Tryz.prog 181 [.slice none 0 0,.func (.func gf) first caps] w fun e w' => ∃ xs v,S xs ∧ e = .returned v ∧ w'.ownsRow w.heap.size 27 1 v xs.length (xs.map u64) ∧ Ext w w' := by
 refine FN_enter Tryz.func181 rfl rfl (by kernel_rfl) ?_
 simp
 have v1 := Var.new w (.slice none 0 0) 180
 have he := (Ext.refl w).alloc (.cells #[.slice none 0 0] 180)
 have hsz : (w.alloc (.cells #[.slice none 0 0] 180)).heap.size = w.heap.size + 1 := by simp
 generalize (w.alloc (.cells #[.slice none 0 0] 180)) = w1 at *
 refine WC_rangeFunc (gf := gf) (first := first) (caps := caps) (enc := fun x => [u64 x]) (S := S) (Sp := Sp) (Cap := Cap) rfl hent (hit.ext he hcap) (by simp) (fun k => k = w.heap.size)
  (fun C pre W => ∃ v,Var W w.heap.size v ∧ W.ownsRow (w.heap.size + 1) 27 1 v pre.length (pre.map u64) ∧ (∀ k,C k ↔ k = w.heap.size ∨ (slN v = false ∧ k = slB v)) ∧ Ext w W) (fun _ _ _ _ => False)
  (fun k hk => ⟨by have := hcap k hk; omega,by have := hcap k hk; omega⟩) (fun k hk => by omega) ?_ (fun _ _ _ _ _ h _ => h.elim) ⟨_,v1,World.ownsRow_nil _ _ _ _,by simp [slN],he⟩ ?ρ ?ha ?_ ?_ (fun _ _ _ _ _ h _ => h.elim)
 case ha =>
  intro l x W
  simp
  exact rfl
 ·rintro C pre W W' ⟨v,h1,h2,h3,h4⟩ hag
  refine ⟨v,h1.agr hag (.inl (by omega)),own_keep h2 fun hn hl => hag.blk _ hl (.inr ((h3 _).2 (.inr ⟨hn,rfl⟩))),h3,?_⟩
  exact ⟨hag.os.trans h4.os,hag.tape.trans h4.tape,hag.out.trans h4.out,Nat.le_trans h4.size hag.size,fun i hi => (hag.blk i (Nat.lt_of_lt_of_le hi h4.size) (.inl (by omega))).trans (h4.blk i hi)⟩
 ·rintro l C pre x W hsp ⟨v,h1,h2,h3,h4⟩ - - -
  simp [h1.cell]
  have e1 := (Ext.refl W).alloc (.cells #[u64 x] 27)
  have h1' := h1.ext e1
  have h2' := own_ext h2 e1
  have hlen := hb _ hsp
  rw [List.length_append,List.length_singleton] at hlen
  obtain ⟨v',W2,hr,ho,hm,hnew⟩ := append_own (P := Tryz.prog) (t := 180) (ty := 180) (e := 27) (s := 1) (by simp) (by simp) (by kernel_rfl) h2' (Sl.one W (u64 x) 27) (by intro u hu; rw [List.mem_singleton] at hu; subst hu; rfl) hlen (by have := h1'.lt; omega)
  simp [hr]
  have g1 := h1'.mod hm (fun h => by have := own_ge h2' h.1; omega)
  obtain ⟨a',c',rfl⟩ := own_val ho
  simp [g1.cell,g1.thaw]
  have hM := Mod.setCell (S := fun k => k = w.heap.size) (Mod.refl _ W2) ⟨w.heap.size,0,none⟩ (.slice a' (pre.length + 1) c') (.inl rfl)
  have hCge : ∀ i, C i → w.heap.size ≤ i := fun i hi => by
   rcases (h3 i).1 hi with h | ⟨h, h'⟩
   ·omega
   ·have := own_ge h2 h; omega
  have hm' : Pk.Mod C W W2 := e1.mod.trans' hm (S := C) (fun i hi => .inl ((h3 i).2 (.inr hi)))
  have hx : Ext w W2 := ((h4.mod (S := fun k => w.heap.size ≤ k)).trans (hm'.weaken hCge)).ext (fun _ h => h)
  refine ⟨fun k => k = w.heap.size ∨ (slN (.slice a' (pre.length + 1) c') = false ∧ k = slB (.slice a' (pre.length + 1) c')), ⟨_, g1.set _, own_keep ho ?_, fun k => Iff.rfl, ?_⟩, ?_, ?_, ?_⟩
  ·intro hn hl
   refine hM.blk _ hl ?_
   have := own_ge ho hn
   omega
  ·exact hx.setCell _ _ (Nat.le_refl _)
  ·exact hm'.trans (hM.weaken fun i hi => (h3 i).2 (.inl hi))
  ·rintro k (h | ⟨h, rfl⟩)
   ·exact .inl ((h3 k).2 (.inl h))
   ·rcases hnew h with ⟨h5, h6⟩ | h5
    ·exact .inl ((h3 _).2 (.inr ⟨h5,h6⟩))
    ·have := e1.size; exact .inr (by omega)
  ·rintro k (h | ⟨h, rfl⟩)
   ·exact .inl ((h3 k).2 (.inl h))
   ·have := own_lt ho h
    exact .inr (by simpa using this)
 ·rintro C xs W hS ⟨v,h1,h2,h3,h4⟩ hD
  simp [h1.cell]
  refine LV_mark hD (by simp) ?_
  simp
  refine ⟨xs,hS,own_keep (own_lower h2 (Nat.le_succ _)) fun hn hl => World.putObj_heap_other ?_,h4.putObj _ _ (by omega)⟩
  intro e
  obtain ⟨c,hc⟩ := own_obj h2 hn
  rw [e,hD] at hc
  cases hc
theorem collect_c {w : World} {gf : FuncId} {first caps : Array Value} {S Sp : List Int → Prop} {Cap : Nat → Prop} (hit : Iter Tryz.prog (.func (.func gf) first caps) (fun x => [u64 x]) S Sp Cap w) (hent : ∀ l w, (callFunc gf l).run Tryz.prog w = .ok (.enter gf l) w)
  (hcap : ∀ k,Cap k → k < w.heap.size) (hb : ∀ xs,Sp xs → xs.length ≤ 1048576) :
  FN Tryz.prog 174 [.func (.func gf) first caps] w fun e w' => ∃ xs v,S xs ∧ e = .returned v ∧ w'.ownsRow w.heap.size 27 1 v xs.length (xs.map u64) ∧ Ext w w' := by
 refine FN_enter Tryz.func174 rfl rfl (by kernel_rfl) ?_
 simp
 refine FN.mono (appendSeq_c hit hent hcap hb) ?_
 rintro _ w1 ⟨xs,v,h1,rfl,h2,h3⟩
 simp
 exact ⟨xs,h1,h2,h3⟩
theorem keys_c {w : World} (o : Option Nat) : FN Tryz.prog 161 [.map o] w fun e w' => e = .returned (.func (.func 176) #[] #[ptr w.heap.size]) ∧ w' = w.alloc (.cells #[.map o] 163) := by
 refine FN_enter Tryz.func161 rfl rfl (by kernel_rfl) ?_
 simp
def isKeys (m : ML) (ys : List Int) : Prop := ys.Perm (m.map (·.1)) ∧ ys.Pairwise (· ≤ ·)
theorem sorted_c {w : World} {b1 : Nat} {v : Value} {m : ML} (v1 : Var w b1 v) (hm : MV w v m) (hl : m.length ≤ 255) :
  FN Tryz.prog 160 [.func (.func 176) #[] #[ptr b1]] w fun e w' => ∃ u ys,e = .returned u ∧ isKeys m ys ∧ Sl w' 1 u ys.length (ys.map u64) ∧ Ext w w' ∧ (slN u = false → w.heap.size ≤ slB u) := by
 refine FN_enter Tryz.func160 rfl rfl (by kernel_rfl) ?_
 simp
 refine FN.mono (collect_c (keys_it v1 hm) (fun _ _ => callFunc_enter Tryz.func176 rfl rfl _ _) (fun k hk => (by rcases hk with rfl | hk; exact v1.lt; exact hm.lt hk)) (fun xs hx => by omega)) ?_
 rintro _ w1 ⟨xs,u,hp,rfl,ho,hE⟩
 simp
 have hxl : xs.length = m.length := by have := hp.length_eq; simpa using this
 refine FN.mono (Suint64.sorts (sl_of_own ho) (fun j hj => own_thaw ho (by omega) _) (by omega)) ?_
 rintro _ w4 ⟨⟨u',rfl⟩,ys,h1,h2,h3,h4⟩
 have hM4 : Ext w w4 := ((hE.mod (S := fun k => w.heap.size ≤ k)).trans (h4.weaken fun i hi => by have := own_ge ho hi.1; have := hi.2; omega)).ext fun _ h => h
 have hyl : ys.length = xs.length := h1.length_eq
 simp
 exact ⟨ys,⟨h1.trans hp,h2⟩,h3,hM4,fun hn => own_ge ho hn⟩
end Go.Proofs
namespace Go.Proofs
open Pk
set_option maxRecDepth 10000
def isLast (ks : List Int) (a : Int) : Option Int → Prop
 | none => ∀ k ∈ ks,a < k
 | some x => x ∈ ks ∧ x ≤ a ∧ ∀ k ∈ ks,k ≤ a → k ≤ x
def lk (a : Int) : List Int → Option Int
 | [] => none
 | k :: ks => if k ≤ a then (match lk a ks with | none => some k | some m => some (max k m)) else lk a ks
theorem lk_last (a : Int) : ∀ ks, isLast ks a (lk a ks)
 | [] => by simp [lk,isLast]
 | k :: ks => by
  have ih := lk_last a ks
  unfold lk
  by_cases h : k ≤ a
  ·rw [if_pos h]
   cases hl : lk a ks with
   | none =>
    rw [hl] at ih
    refine ⟨by simp,h,fun x hx hxa => ?_⟩
    rcases List.mem_cons.1 hx with rfl | hx
    ·exact Int.le_refl _
    ·have := ih x hx; omega
   | some m =>
    rw [hl] at ih
    obtain ⟨h1,h2,h3⟩ := ih
    refine ⟨?_, by omega, fun x hx hxa => ?_⟩
    ·by_cases hkm : k ≤ m
     ·rw [Int.max_eq_right hkm]; simp [h1]
     ·rw [Int.max_eq_left (by omega)]; simp
    ·rcases List.mem_cons.1 hx with rfl | hx
     ·omega
     ·have := h3 x hx hxa; omega
  ·rw [if_neg h]
   cases hl : lk a ks with
   | none =>
    rw [hl] at ih
    intro x hx
    rcases List.mem_cons.1 hx with rfl | hx
    ·omega
    ·exact ih x hx
   | some m =>
    rw [hl] at ih
    obtain ⟨h1,h2,h3⟩ := ih
    refine ⟨by simp [h1],h2,fun x hx hxa => ?_⟩
    rcases List.mem_cons.1 hx with rfl | hx
    ·omega
    ·exact h3 x hx hxa
theorem isLast.uniq {ks : List Int} {a : Int} {o o' : Option Int} (h : isLast ks a o) (h' : isLast ks a o') : o = o' := by
 cases o with
 | none => cases o' with
  | none => rfl
  | some x => have := h x h'.1; have := h'.2.1; omega
 | some x => cases o' with
  | none => have := h' x h.1; have := h.2.1; omega
  | some x' => have h1 := h.2.2 x' h'.1 h'.2.1; have h2 := h'.2.2 x h.1 h.2.1; congr 1; omega
theorem isLast.perm {ks ks' : List Int} {a : Int} {o : Option Int} (h : isLast ks a o) (hp : ks.Perm ks') : isLast ks' a o := by
 cases o with
 | none => exact fun k hk => h k (hp.mem_iff.2 hk)
 | some x => exact ⟨hp.mem_iff.1 h.1,h.2.1,fun k hk => h.2.2 k (hp.mem_iff.2 hk)⟩
theorem isLast.snoc {ks : List Int} {a : Int} {o : Option Int} (h : isLast ks a o) (k : Int) : isLast (ks ++ [k]) a (if k ≤ a ∧ (o = none ∨ o.getD 0 < k) then some k else o) := by
 cases o with
 | none =>
  by_cases hk : k ≤ a
  ·simp only [hk,true_and,true_or,if_true]
   exact ⟨by simp, hk, fun x hx hxa => by
    rcases List.mem_append.1 hx with hx | hx
    ·have := h x hx; omega
    ·simp at hx; omega⟩
  ·simp only [hk,false_and,if_false]
   intro x hx
   rcases List.mem_append.1 hx with hx | hx
   ·exact h x hx
   ·simp at hx; omega
 | some m =>
  obtain ⟨h1,h2,h3⟩ := h
  by_cases hk : k ≤ a ∧ m < k
  ·simp only [Option.getD_some,reduceCtorEq,false_or,hk,and_self,if_true]
   exact ⟨by simp, hk.1, fun x hx hxa => by
    rcases List.mem_append.1 hx with hx | hx
    ·have := h3 x hx hxa; omega
    ·simp at hx; omega⟩
  ·simp only [Option.getD_some,reduceCtorEq,false_or,hk,if_false]
   exact ⟨by simp [h1], h2, fun x hx hxa => by
    rcases List.mem_append.1 hx with hx | hx
    ·exact h3 x hx hxa
    ·simp at hx; omega⟩
def tk (m : ML) (a : Int) : Int := match lk a (m.map (·.1)) with | none => 0 | some k => (mget m k).getD 0
abbrev ME := List (PK × (Nat × ML))
def total (M : ME) : Nat := (M.map (·.2.2.length)).sum
def ewN (x : Nat × ML) : Value := .map (some x.1)
structure TabAt (w : World) (t R : Nat) (M : ME) : Prop where
 cnt : w.cell? ⟨t,0,none⟩ = some (.int .i64 (total M))
 thaw : w.frozen? ⟨t,0,none⟩ = false
 cell : w.cell? ⟨t,1,none⟩ = some (.map (some R))
 map : MapAt ekP ewN w R M
 inner : ∀ x ∈ M,MA w x.2.1 x.2.2
 refs : (M.map (·.2.1)).Nodup
 notR : ∀ x ∈ M,x.2.1 ≠ R
 full : ∀ x ∈ M,x.2.2 ≠ []
def Foot (t R : Nat) (M : ME) (k : Nat) : Prop := k = t ∨ k = R ∨ ∃ x ∈ M,k = x.2.1
theorem TabAt.keep {w w' : World} {t R : Nat} {M : ME} (h : TabAt w t R M) (hb : ∀ k, Foot t R M k → k < w.heap.size → w'.heap[k]? = w.heap[k]?) : TabAt w' t R M := by
 have ht : w'.heap[t]? = w.heap[t]? := hb t (.inl rfl) (World.block_lt_of_cell? _ _ h.cell)
 refine ⟨?_, ?_, ?_, h.map.keep (hb R (.inr (.inl rfl)) h.map.lt), fun x hx => (h.inner x hx).keep (hb _ (.inr (.inr ⟨x, hx, rfl⟩)) (h.inner x hx).lt), h.refs, h.notR, h.full⟩
 ·rw [← h.cnt]; unfold World.cell?; rw [ht]
 ·rw [← h.thaw]; unfold World.frozen?; rw [ht]
 ·rw [← h.cell]; unfold World.cell?; rw [ht]
theorem TabAt.ext {w w' : World} {t R : Nat} {M : ME} (h : TabAt w t R M) (he : Ext w w') : TabAt w' t R M := h.keep fun k _ hk => he.blk k hk
theorem TabAt.mod {w w' : World} {t R : Nat} {M : ME} {S : Nat → Prop} (h : TabAt w t R M) (he : Mod S w w') (hs : ∀ k,Foot t R M k → ¬ S k) : TabAt w' t R M := h.keep fun k hf hk => he.blk k hk (hs k hf)
theorem TabAt.lt {w : World} {t R : Nat} {M : ME} (h : TabAt w t R M) : ∀ k, Foot t R M k → k < w.heap.size := by
 rintro k (rfl | rfl | ⟨x, hx, rfl⟩)
 ·exact World.block_lt_of_cell? _ _ h.cell
 ·exact h.map.lt
 ·exact (h.inner x hx).lt
def sps (M : ME) (p : PK) : ML := ((mget M p).map (·.2)).getD []
def mv (M : ME) (p : PK) : Value := ((mget M p).map ewN).getD (.map none)
theorem mget_mem' {κ ν : Type} [DecidableEq κ] {M : List (κ × ν)} {p : κ} {x : ν} (h : mget M p = some x) : (p, x) ∈ M := by
 unfold mget at h
 rw [Option.map_eq_some_iff] at h
 obtain ⟨q,h1,rfl⟩ := h
 have h2 := List.find?_some h1
 have h3 := List.mem_of_find?_eq_some h1
 simp at h2
 subst h2
 exact h3
theorem TabAt.inn {w : World} {t R : Nat} {M : ME} (h : TabAt w t R M) (p : PK) : MV w (mv M p) (sps M p) := by
 unfold mv sps
 cases hg : mget M p with
 | none => exact .inr ⟨rfl,rfl⟩
 | some x => exact (h.inner _ (mget_mem' hg)).val
theorem TabAt.find {w : World} {t R : Nat} {M : ME} (h : TabAt w t R M) (f g : Int) : (Instr.lookup 140 (.map (some R)) (.agg #[.int .u32 f, .int .u32 g]) false).run Tryz.prog w = .ok (mv M (f, g)) w := by
 have := h.map.lookup k67 tm61 (z72 w) (f,g) false
 simpa [ekP,pkc,mv] using this
theorem none_c {w : World} {t R : Nat} {M : ME} (ht : TabAt w t R M) : FN Tryz.prog 80 [ptr t] w fun e w' => e = .returned (.bool false) ∧ w' = w := by
 refine FN_enter Tryz.func80 rfl rfl (by kernel_rfl) ?_
 simp [ht.cell]
theorem new_c (w : World) : FN Tryz.prog 30 [] w fun e w' => ∃ t R, e = .returned (ptr t) ∧ TabAt w' t R [] ∧ Ext w w' ∧ w.heap.size ≤ t ∧ w.heap.size ≤ R := by
 refine FN_enter Tryz.func30 rfl rfl (by kernel_rfl) ?_
 simp
 refine ⟨w.heap.size,⟨by simp [total],by simp,by simp,(MapAt.alloc0 _ _ w).ext ((Ext.refl _).alloc _),by simp,by simp,by simp,by simp⟩,((Ext.refl _).alloc _).alloc _,Nat.le_refl _⟩
theorem of_c {w : World} {t R : Nat} {M : ME} (ht : TabAt w t R M) (f g : Int) : FN Tryz.prog 158 [ptr t, u32 f, u32 g] w fun e w' => e = .returned (mv M (f, g)) ∧ w' = w := by
 refine FN_enter Tryz.func158 rfl rfl (by kernel_rfl) ?_
 simp
 refine FN.mono (none_c ht) ?_
 rintro _ _ ⟨rfl,rfl⟩
 simp [ht.cell,ht.find]
theorem find' {w : World} {R : Nat} {M : ME} (h : MapAt ekP ewN w R M) (f g : Int) : (Instr.lookup 140 (.map (some R)) (.agg #[.int .u32 f, .int .u32 g]) false).run Tryz.prog w = .ok (mv M (f, g)) w := by
 have := h.lookup k67 tm61 (z72 w) (f,g) false
 simpa [ekP,pkc,mv] using this
theorem has_c' {w : World} {t R : Nat} {M : ME} {f g : Int} (hc : w.cell? ⟨t, 1, none⟩ = some (.map (some R))) (hm : MapAt ekP ewN w R M) (hi : MV w (mv M (f, g)) (sps M (f, g))) (a : Int) : FN Tryz.prog 83 [ptr t, .agg #[u32 f, u32 g], u64 a] w fun e w' => e = .returned (.bool (mget (sps M (f, g)) a).isSome) ∧ Ext w w' := by
 refine FN_enter Tryz.func83 rfl rfl (by kernel_rfl) ?_
 simp
 have hE := (Ext.refl w).alloc (.cells #[u32 f,u32 g] 158)
 have d1 : (w.alloc (.cells #[u32 f,u32 g] 158)).cell? ⟨w.heap.size,0,none⟩ = some (u32 f) := by simp
 have d2 : (w.alloc (.cells #[u32 f,u32 g] 158)).cell? ⟨w.heap.size,1,none⟩ = some (u32 g) := by simp
 generalize (w.alloc (.cells #[u32 f,u32 g] 158)) = w1 at *
 refine WC_drawQ 12 rfl (by kernel_rfl) ?_
 have hE2 := hE.trans (Ext.drew w1)
 have hl := (hi.ext hE2).lookup k23 tm72 (z23 _) a true
 simp [hE2.cell_eq hc,find' (hm.ext hE2),d1,d2,hl]
 exact hE2
theorem has_c {w : World} {t R : Nat} {M : ME} (ht : TabAt w t R M) (f g a : Int) : FN Tryz.prog 83 [ptr t,.agg #[u32 f,u32 g],u64 a] w fun e w' => e = .returned (.bool (mget (sps M (f,g)) a).isSome) ∧ Ext w w' := has_c' ht.cell ht.map (ht.inn _) a
theorem full_c {w : World} {t R : Nat} {M : ME} (ht : TabAt w t R M) : FN Tryz.prog 84 [ptr t] w fun e w' => e = .returned (.bool (decide (512 ≤ total M))) ∧ w' = w := by
 refine FN_enter Tryz.func84 rfl rfl (by kernel_rfl) ?_
 simp [ht.cnt]
 omega
theorem le_c {w : World} {b : Nat} {a : Int} (hv : Var w b (u64 a)) (k : Int) : FN Tryz.prog 173 [u64 k, ptr b] w fun e w' => e = .returned (.bool (decide (k ≤ a))) ∧ w' = w := by
 refine FN_enter Tryz.func173 rfl rfl (by kernel_rfl) ?_
 simp [hv.cell]
theorem greatest_c {w : World} {b : Nat} {a : Int} {v : Value} {m : ML} (hv : Var w b (u64 a)) (hm : MV w v m) :
  FN Tryz.prog 172 [v,.func (.func 173) #[] #[ptr b]] w fun e w' => e = .returned (.tuple #[u64 ((lk a (m.map (·.1))).getD 0),.bool (lk a (m.map (·.1))).isSome]) ∧ Ext w w' := by
 refine FN_enter Tryz.func172 rfl rfl (by kernel_rfl) ?_
 obtain ⟨o,hr,hi⟩ := hm.range (P := Tryz.prog) tm72
 simp [hr]
 have hE := (Ext.refl w).alloc o
 have hsz : (w.alloc o).heap.size = w.heap.size + 1 := by simp
 have hbl := hv.lt
 generalize (w.alloc o) = w1 at *
 refine WC_loop (fun k ρ ds w' => ∃ (idxs : List Nat) (o : Option Int), k + idxs.length = m.length ∧ ρ 1 = .func (.func 173) #[] #[ptr b] ∧ ρ 4 = u64 (o.getD 0) ∧ ρ 5 = .bool o.isSome ∧ ρ 8 = ptr w.heap.size ∧ ds = [] ∧ VIter (Value.int .u64) (Value.int .u64) w' w.heap.size v m idxs ∧
  isLast ((seenOf m idxs).map (·.1)) a o ∧ Ext w w') m.length ⟨[],none,by simp,by simp,by simp,by simp,by simp,rfl,hi,by simp [seenOf,isLast],hE⟩ ?_
 rintro k ρ ds w2 ⟨idxs,o,hk,e1,e4,e5,e8,rfl,hI,hL,hE2⟩
 rcases hI.next (P := Tryz.prog) 0 with ⟨hp, hrun⟩ | ⟨i, p, w3, hpi, hni, hrun, hI3, hM3, hent, hs3⟩
 ·simp [e8,hrun,e4,e5]
  have := (hL.perm ((seenOf_all hp).map _)).uniq (lk_last a _)
  rw [this]
  exact ⟨⟨rfl,rfl⟩,hE2⟩
 ·have hE3 : Ext w w3 := ((hE2.mod (S := fun k => w.heap.size ≤ k)).trans (hM3.weaken fun i hi => by omega)).ext fun _ h => h
  have hb3 := hI3.bound
  simp only [List.length_append,List.length_singleton] at hb3
  have hv3 := hv.ext hE3
  simp [e1,e8,hrun,hent]
  refine FN.mono (le_c hv3 p.1) ?_
  rintro _ _ ⟨rfl,hw⟩
  subst hw
  have hS := hL.snoc p.1
  have e : (seenOf m (idxs ++ [i])).map (·.1) = (seenOf m idxs).map (·.1) ++ [p.1] := by rw [seenOf_snoc hpi,List.map_append]; rfl
  rw [← e] at hS
  by_cases h1 : p.1 ≤ a
  ·cases o with
   | none =>
    simp [h1,e1,e5,e8]
    refine ⟨k - 1,by omega,idxs ++ [i],by simp; omega,some p.1,rfl,rfl,hI3,?_,hE3⟩
    simpa [h1] using hS
   | some x =>
    by_cases h2 : x < p.1
    ·simp [h1,h2,e1,e4,e5,e8]
     refine ⟨k - 1,by omega,idxs ++ [i],by simp; omega,some p.1,rfl,rfl,hI3,?_,hE3⟩
     simpa [h1,h2] using hS
    ·simp [h1,h2,e1,e4,e5,e8]
     refine ⟨k - 1,by omega,idxs ++ [i],by simp; omega,some x,rfl,rfl,hI3,?_,hE3⟩
     simpa [h1,h2] using hS
  ·simp [h1,e1,e4,e5,e8]
   refine ⟨k - 1,by omega,idxs ++ [i],by simp; omega,o,rfl,rfl,hI3,?_,hE3⟩
   simpa [h1] using hS
theorem ticks_c {w : World} {t R : Nat} {M : ME} (ht : TabAt w t R M) (f g a : Int) : FN Tryz.prog 157 [ptr t, u32 f, u32 g, u64 a] w fun e w' => e = .returned (u64 (tk (sps M (f, g)) a)) ∧ Ext w w' := by
 refine FN_enter Tryz.func157 rfl rfl (by kernel_rfl) ?_
 simp
 have hE := (Ext.refl w).alloc (.cells #[u64 a] 27)
 have hv := Var.new w (u64 a) 27
 generalize (w.alloc (.cells #[u64 a] 27)) = w1 at *
 have ht1 := ht.ext hE
 refine FN.mono (of_c ht1 f g) ?_
 rintro _ _ ⟨rfl,rfl⟩
 rename_i w1
 simp
 have hm := ht1.inn (f,g)
 refine FN.mono (greatest_c hv hm) ?_
 rintro _ w2 ⟨rfl,hE2⟩
 cases ho : lk a ((sps M (f,g)).map (·.1)) with
 | none =>
  simp [tk,ho]
  exact hE.trans hE2
 | some k =>
  have := (hm.ext hE2).lookup k23 tm72 (z23 w2) k false
  simp [tk,ho,this]
  exact hE.trans hE2
end Go.Proofs
namespace Go.Proofs
open Pk
set_option maxRecDepth 10000
def gdI (m : ML) : Prop := ∀ q ∈ m,(0 ≤ q.1 ∧ q.1 < 4611686018427387903) ∧ 0 ≤ q.2 ∧ q.2 ≤ 1099511627776
def gdT (M : ME) : Prop := ∀ x ∈ M,gdI x.2.2
theorem gdT.sps {M : ME} (h : gdT M) (p : PK) : gdI (sps M p) := by
 unfold Proofs.sps
 cases hg : mget M p with
 | none => intro q hq; simp at hq
 | some x => exact h _ (mget_mem' hg)
theorem tk_0 {m : ML} (h : gdI m) (a : Int) : 0 ≤ tk m a := by
 unfold tk
 split
 ·exact Int.le_refl _
 ·rename_i k _
  cases hg : mget m k with
  | none => exact Int.le_refl _
  | some v => exact (h _ (mget_mem' hg)).2.1
def lnd (m : ML) (a : Int) : Int := addT a (tk m a)
theorem lands_c {w : World} {t R : Nat} {M : ME} (ht : TabAt w t R M) (hg : gdT M) (f g a : Int) (h0 : 0 ≤ a) : FN Tryz.prog 142 [ptr t, u32 f, u32 g, u64 a] w fun e w' => e = .returned (u64 (lnd (sps M (f, g)) a)) ∧ Ext w w' := by
 refine FN_enter Tryz.func142 rfl rfl (by kernel_rfl) ?_
 simp
 refine FN.mono (ticks_c ht f g a) ?_
 rintro _ w1 ⟨rfl,hE⟩
 simp
 refine FN.mono (add_c a (tk (sps M (f,g)) a) h0 (tk_0 (hg.sps _) a) w1) ?_
 rintro _ w2 ⟨rfl,hE2⟩
 simp [lnd]
 exact hE.trans hE2
theorem mclone_c {w : World} {v : Value} {m : ML} (h : MV w v m) : FN Tryz.prog 117 [v] w fun e w' => ∃ o, e = .returned (.map o) ∧ MV w' (.map o) m ∧ Ext w w' ∧ ∀ r, o = some r → w.heap.size ≤ r := by
 refine FN_enter Tryz.func117 rfl rfl (by kernel_rfl) ?_
 rcases h with ⟨r, rfl, h⟩ | ⟨rfl, rfl⟩
 ·obtain ⟨o,h1,h2,h3⟩ := h.clone (P := Tryz.prog)
  simp
  refine FN_extern (e := Extern.MapsClone.clone) Tryz.func140 rfl (by kernel_rfl) (by kernel_rfl) (by kernel_rfl) (h2 163) ?_
  simp [Instr.typeAssert]
  exact ⟨h3.val,(Ext.refl w).alloc _⟩
 ·simp
  exact ⟨.inr ⟨rfl,rfl⟩,Ext.refl _⟩
theorem steps_c {w : World} {t R : Nat} {M : ME} (ht : TabAt w t R M) (f g : Int) : FN Tryz.prog 143 [ptr t, u32 f, u32 g] w fun e w' => ∃ b o, e = .returned (.func (.func 159) #[] #[ptr b]) ∧ Var w' b (.map o) ∧ MV w' (.map o) (sps M (f, g)) ∧ Ext w w' ∧ w.heap.size ≤ b ∧ ∀ r, o = some r → w.heap.size ≤ r := by
 refine FN_enter Tryz.func143 rfl rfl (by kernel_rfl) ?_
 simp
 refine FN.mono (of_c ht f g) ?_
 rintro _ _ ⟨rfl,rfl⟩
 rename_i w
 simp
 refine FN.mono (mclone_c (ht.inn (f,g))) ?_
 rintro _ w1 ⟨o,rfl,hm,hE,hr⟩
 simp
 have hE1 := (Ext.refl w1).alloc (.cells #[.map o] 163)
 exact ⟨o,Var.new w1 _ 163,hm.ext hE1,hE.trans hE1,hE.size,hr⟩
theorem isKeys.uniq {m : ML} {a b : List Int} (h : isKeys m a) (h' : isKeys m b) : a = b :=
 List.Perm.eq_of_pairwise (fun x y _ _ h1 h2 => Int.le_antisymm h1 h2) h.2 h'.2 (h.1.trans h'.1.symm)
theorem isKeys_ex (m : ML) : ∃ ys, isKeys m ys := by
 refine ⟨(m.map (·.1)).mergeSort (fun a b => decide (a ≤ b)),List.mergeSort_perm _ _,?_⟩
 have := List.pairwise_mergeSort (le := fun a b : Int => decide (a ≤ b)) (fun a b c => by simp; omega) (fun a b => by simp; omega) (m.map (·.1))
 exact this.imp fun h => by simpa using h
def seg {α : Type} (l : List α) (pre : List α) : Prop := pre ≠ [] ∧ ∃ suf,l = pre ++ suf
def stC (m : ML) (k : Int) : List Value := [u64 k,u64 ((mget m k).getD 0)]
theorem steps_it {w : World} {b : Nat} {o : Option Nat} {m : ML} {ys : List Int} (v1 : Var w b (.map o)) (hm : MV w (.map o) m) (hl : m.length ≤ 255) (hy : isKeys m ys) :
  Iter Tryz.prog (.func (.func 159) #[] #[ptr b]) (stC m) (· = ys) (seg ys) (fun k => k = b ∨ Value.map o = .map (some k)) w := by
 intro y C0 J Jx W hA hcap hC0 hJ hJx hyl h0
 have k1 := hcap b (.inl rfl)
 have k2 := fun r e => hcap r (.inr e)
 have v1W := v1.agr hA k1.1
 have hmW : MV W (.map o) m := hm.agr hA fun r e => hm.lt e
 refine FN_enter Tryz.func159 rfl rfl (by kernel_rfl) ?_
 simp
 refine WC_scope 0 _ rfl ?_
 simp [v1W.cell]
 refine FN.mono (keys_c (w := W) o) ?_
 rintro _ w1 ⟨rfl,hw1⟩
 simp
 have hE1 : Ext W w1 := hw1 ▸ (Ext.refl W).alloc _
 have vk : Var w1 W.heap.size (.map o) := by rw [hw1]; exact Var.new W _ 163
 refine FN.mono (sorted_c vk (hmW.ext hE1) hl) ?_
 rintro _ w2 ⟨u,ys',rfl,hy',hs,hE2,hfr⟩
 have := hy.uniq hy'
 subst this
 have hlen := fun ty W => hs.isLen (P := Tryz.prog) (t := 180) (by simp) ty W
 simp [hlen]
 have hE := hE1.trans hE2
 have h0' := hJ C0 [] W w2 h0 hE.agr
 have hyb : ys.length ≤ 255 := by have := hy.1.length_eq; simp at this; omega
 have hus : 0 < ys.length → W.heap.size ≤ slB u ∧ slB u < w2.heap.size := fun h => by
  have h1 := hs.lt (by simpa using h)
  have h2 := hs.blk
  refine ⟨?_,h1⟩
  have := hE1.size
  rcases h2 with h2 | ⟨b', o', c', rfl, _⟩
  ·omega
  ·have := hfr rfl; omega
 have hsz := hE.size
 refine WC_loop (fun k ρ ds w' => ∃ (i : Nat) (C : Nat → Prop), k = ys.length - i ∧ i ≤ ys.length ∧ ρ 0 = y ∧ ρ 1 = ptr b ∧ ρ 7 = u ∧ ρ 8 = .int .i64 ys.length ∧ ρ 9 = .int .i64 i ∧ ds = [] ∧ J C (ys.take i) w' ∧
  (∀ k,C k → C0 k ∨ w2.heap.size ≤ k) ∧ Agr (fun k => k < w2.heap.size ∧ ¬ C0 k) w2 w') ys.length ⟨0,C0,by simp,by simp,by simp,by simp,by simp,by simp,by simp,rfl,h0',fun k h => .inl h,Agr.refl _ _⟩ ?_
 rintro k ρ ds w3 ⟨i,C,rfl,hi,e0,e1,e7,e8,e9,rfl,hj,hC,hAg⟩
 by_cases hlt : i < ys.length
 ·have hb := k1.2
  have v3 := ((v1W.ext hE).agr hAg ⟨(v1W.ext hE).lt,hb⟩)
  have hm3 : MV w3 (.map o) m := (hmW.ext hE).agr hAg fun r e => ⟨(hmW.ext hE).lt e,(k2 r e).2⟩
  have hs3 : Sl w3 1 u ys.length (ys.map u64) := hs.agr hAg ⟨(hus (by omega)).2,fun hc => by have := hC0 _ hc; have := (hus (by omega)).1; omega⟩
  have c := hs3.at_ i (u64 ys[i]) (by simp [hlt])
  have ix := hs3.index (P := Tryz.prog) (t := 180) (by simp) .i64 i (by omega) (by omega) w3
  have hlk := hm3.lookup k23 tm72 (z23 w3) ys[i] false
  have hgd : ((mget m ys[i]).map (Value.int .u64)).getD (.int .u64 0) = u64 ((mget m ys[i]).getD 0) := by cases mget m ys[i] <;> rfl
  rw [hgd] at hlk
  have htk : ys.take (i + 1) = ys.take i ++ [ys[i]] := by rw [List.take_add_one,List.getElem?_eq_getElem hlt]; rfl
  have hsp : seg ys (ys.take i ++ [ys[i]]) := ⟨List.append_ne_nil_of_right_ne_nil _ (by simp),ys.drop (i + 1),by rw [← htk,List.take_append_drop]⟩
  simp [e0,e1,e7,e8,e9,hlt,ix,c,v3.cell,hlk]
  refine CV.mono (hyl C (ys.take i) ys[i] w3 hsp hj) ?_
  rintro _ w4 (⟨rfl, C', hj', hown⟩ | ⟨rfl, C', hj', hown⟩)
  ·have hAg' : Agr (fun k => k < w2.heap.size ∧ ¬ C0 k) w3 w4 := hown.mod.agr (fun k hk hc => by rcases hC k hc with h | h; exact hk.2 h; omega)
   simp [e0,e1,e7,e8,e9]
   refine ⟨ys.length - (i + 1),by omega,i + 1,rfl,by omega,by rw [wrap64 _ (by omega) (by omega)]; rfl,C',by rw [htk]; exact hj',?_,hAg.trans hAg'⟩
   intro k hk
   rcases hown.own k hk with h | h
   ·exact hC k h
   ·have := hAg.size; exact .inr (by omega)
  ·simp
   exact ⟨C',.inr ⟨_,hsp,hj'⟩⟩
 ·simp [e8,e9,hlt]
  have : i = ys.length := by omega
  rw [this,List.take_length] at hj
  exact ⟨C,.inl hj⟩
end Go.Proofs